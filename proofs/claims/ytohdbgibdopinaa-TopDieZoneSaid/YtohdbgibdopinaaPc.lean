/- Texts put together. -/
import Derived.Test.YtohdbgibdopinaaPb
import Derived.RangeFuncRecord
import Derived.RangeFuncLeaves
import Derived.ChangeArms
import Derived.Handed
import Derived.Carry
import Derived.RowKit
import Derived.ChangeShapes
/- Regions. -/
namespace Go.Lo
section
variable {P : Program} {X : Sc} {w0 w : World} {Ω : Own} {a : Act} {σ σ' : St} {o : Oper} {call : Nat → List V → Option V} {ops : Array Oper} {b : Array Nat} {draw da : Bool}

/-! ### What was yielded grows -/
def TrLe (σ σ' : St) : Prop := ∃ m, σ'.tr = σ.tr.map (· ++ m)
theorem TrLe.refl (σ : St) : TrLe σ σ := ⟨[], by cases h : σ.tr <;> simp⟩
theorem TrLe.of {σ σ' : St} (h : σ'.tr = σ.tr) : TrLe σ σ' := ⟨[], by rw [h]; cases h : σ.tr <;> simp⟩
theorem TrLe.trans {σ σ1 σ2 : St} (h : TrLe σ σ1) (k : TrLe σ1 σ2) : TrLe σ σ2 := by
  obtain ⟨m, h⟩ := h
  obtain ⟨m', k⟩ := k
  refine ⟨m ++ m', ?_⟩
  rw [k, h]
  cases σ.tr <;> simp
theorem TrLe.none {σ σ' : St} (h : TrLe σ σ') (hn : σ.tr = none) : σ'.tr = none := by
  obtain ⟨m, h⟩ := h
  rw [h, hn]; rfl
theorem TrLe.upTo {σ σ' : St} (h : TrLe σ σ') {T : List (List V)} (hT : UpTo T σ') : UpTo T σ := fun l hl => by
  obtain ⟨m, h⟩ := h
  rw [hl] at h
  exact (List.prefix_append l m).trans (hT _ h)
theorem prep_tr (lp : Bool) (ds : List Nat) (σ : St) : (prep lp ds σ).tr = σ.tr := by
  cases lp <;> cases ds <;> rfl
theorem apply_tr (σ : St) (d : Option Nat) (e : Eff) : TrLe σ (apply σ d e) := by
  cases e with
  | yld a as ps => exact ⟨[as], rfl⟩
  | mkp v d n => exact .of (by simp only [apply]; exact prep_tr _ _ _)
  | _ => exact .of rfl
theorem stepI_tr {i : LIns} (h : stepI call i σ = some σ') : TrLe σ σ' := by
  unfold stepI at h
  split at h
  · split at h
    · split at h
      · simp only [Option.some.injEq] at h; subst h; exact apply_tr _ _ _
      · cases h
    · cases h
  · simp only [Option.some.injEq] at h; subst h; exact .of rfl
  · cases h
theorem stepIx_tr {is : List LIns} : ∀ {l : List Nat} {σ σ' : St}, stepIx call is l σ = some σ' → TrLe σ σ'
  | [], σ, σ', h => by simp only [stepIx, Option.some.injEq] at h; subst h; exact .refl _
  | i :: l, σ, σ', h => by
    simp only [stepIx] at h
    split at h
    · split at h
      · rename_i σ1 h1
        exact (stepI_tr h1).trans (stepIx_tr h)
      · cases h
    · cases h
theorem stepL_tr : ∀ {is : List LIns} {σ σ' : St}, stepL call is σ = some σ' → TrLe σ σ'
  | [], σ, σ', h => by simp only [stepL, Option.some.injEq] at h; subst h; exact .refl _
  | i :: is, σ, σ', h => by
    simp only [stepL] at h
    split at h
    · rename_i σ1 h1
      exact (stepI_tr h1).trans (stepL_tr h)
    · cases h

theorem insC_k (i : Nat) : insC P ops b draw da o i = badI ∨ ∃ k xs ys g, opC P o.op (if isAppend o = true then da else draw && busyOf ops b i) (aliasC P 12 o.type) (makes P o) (if draw then storeRoot ops o else truncRoot ops o) = some (k, xs) ∧ opdsC xs = some ys ∧ guardC ops o = some g ∧
    insC P ops b draw da o i = { dst := o.dst, k := k, xs := ys, guard := g, ex := if draw then exOf ops b i else [] } ∧ (makes P o = true → ∃ d, o.dst = some d) := by
  unfold insC
  split
  · exact .inl rfl
  · rename_i hm
    split
    · rename_i k' xs hop
      split
      · exact .inl rfl
      · rename_i ys hys
        split
        · rename_i g hg
          refine .inr ⟨k', xs, ys, g, hop, hys, hg, rfl, fun hmk => ?_⟩
          cases hd : o.dst with
          | none => exact (hm ⟨hmk, hd⟩).elim
          | some d => exact ⟨d, rfl⟩
        · exact .inl rfl
    · exact .inl rfl
theorem guard_sound (h : Inv X w0 Ω w a.tmps σ) {g : Option (Nat × Bool)} (hg : guardC ops o = some g) {c : Bool} (hw : wanted σ.fr g = some c) : Region.wanted o (yielded ops a.tmps) = c := by
  unfold guardC at hg
  unfold Region.wanted
  split at hg
  · rename_i hgu
    rw [hgu]
    simp only [Option.some.injEq] at hg; subst hg
    simp only [wanted, Option.some.injEq] at hw
    exact hw
  · rename_i i wt hgu
    rw [hgu]
    split at hg
    · rename_i p hp
      split at hg
      · rename_i d hd
        simp only [Option.some.injEq] at hg; subst hg
        simp only [wanted] at hw
        have hy : ∀ v, get σ.fr d = some v → ∃ x, a.tmps[d]? = some x ∧ DenS Ω w d v x := fun v hv => by
          obtain ⟨h1, h2⟩ := h.slot d v hv
          refine ⟨a.tmps[d], Array.getElem?_eq_getElem h1, ?_⟩
          simpa [Array.getD, h1] using h2
        split at hw
        · rename_i c' hc
          obtain ⟨x, h1, h2⟩ := hy _ hc
          simp only [DenS, Den] at h2
          subst h2
          simp only [Option.some.injEq] at hw; subst hw
          simp only [yielded, hp, hd, Option.bind_some, h1]
          cases c' <;> cases wt <;> rfl
        · rename_i hc
          obtain ⟨x, h1, h2⟩ := hy _ hc
          simp only [DenS, Den] at h2
          subst h2
          simp only [Option.some.injEq] at hw; subst hw
          simp only [yielded, hp, hd, Option.bind_some, h1]
          rfl
        · cases hw
      · cases hg
    · cases hg
/-- What follows an operation. -/
def Next1 (P : Program) (X : Sc) (w0 : World) (Ω : Own) (a : Act) (o : Oper) (σ' : St) (K : Act → World → Prop) : Prop :=
  ∀ a' w' Ω', a'.tmps.size = a.tmps.size → a'.defers = a.defers → (∀ k, o.dst ≠ some k → a'.tmps.getD k undef = a.tmps.getD k undef) → Inv X w0 Ω' w' a'.tmps σ' → (∀ d, Fresh Ω d → (makes P o = true → o.dst ≠ some d) → Fresh Ω' d) → K a' w'
theorem put_size (a : Act) (dst : Option Nat) (x : Value) : (a.put dst x).tmps.size = a.tmps.size := by cases dst <;> simp [Act.put]
theorem put_keeps (a : Act) (dst : Option Nat) (x : Value) (k : Nat) (h : dst ≠ some k) : (a.put dst x).tmps.getD k undef = a.tmps.getD k undef := by
  cases dst with
  | none => rfl
  | some d => simp only [Act.put]; exact getD_set_other (fun e => h (by rw [e]))
theorem put_defers (a : Act) (dst : Option Nat) (x : Value) : (a.put dst x).defers = a.defers := by cases dst <;> rfl
theorem needs_da {q : Bool} : needs P (if isAppend o = true then da else q) o = needs P da o := by
  unfold needs
  cases isAppend o <;> simp
theorem own_sem {bx : Nat → Option (List V)} {tk : Nat → Option (Nat × Bool)} {d : Nat} {k : K} {vs : List V} {e : Eff} (h : sem call bx tk d (ownK k) vs = some e) : sem call bx tk d k vs = some e := by
  unfold ownK at h
  split at h
  · rename_i sz bytes
    have h0 := h
    simp only [sem] at h
    split at h
    · exact h0
    · cases h
  · exact h
theorem isAppend_k (ha : isAppend o = true) {al mk : Bool} {root : Option Nat} {k : K} {xs : List Operand} (h : opC P o.op true al mk root = some (k, xs)) : ∃ s b, k = .append true s b := by
  unfold isAppend at ha
  split at ha
  · rename_i args tys ho
    rw [ho] at h
    simp only [opC, callC] at h
    split at h <;> (try contradiction)
    · split at h
      · split at h
        · split at h
          · simp only [Option.some.injEq, Prod.mk.injEq] at h
            exact ⟨_, _, h.1.symm⟩
          · cases h
        · cases h
      · split at h
        · split at h
          · rename_i hc
            exact absurd hc.2.2 (by simp)
          · cases h
        · cases h
      · cases h
  · cases ha
theorem wpOp_step {ro : Option Nat} {n i : Nat} {K : Act → World → Prop} {Q : Exit → Act → World → Prop} {T : List (List V)} {own : Bool} (hY : YieldOk P X w0 T) (hT : UpTo T σ') (hcall : CallsOk P call) (h : Inv X w0 Ω w a.tmps σ) (ho : ops[i]? = some o) (hst : stepI call (modI own (insC P ops b draw da o i)) σ = some σ')
    (hdst : ∀ d, (insC P ops b draw da o i).dst = some d → d < a.tmps.size) (hfr : needs P (da && !own) o = true → ∀ d, o.dst = some d → Fresh Ω d) (hK : Next1 P X w0 Ω a o σ' K) : wpOpIn (wideR ro) n P ops Q i K a w := by
  rcases insC_k (P := P) (ops := ops) (b := b) (draw := draw) (da := da) (o := o) i with hbad | ⟨k, xs, ys, g, h1, h2, h3, h4, h5⟩
  · rw [hbad] at hst
    cases own <;> (simp only [modI, Bool.false_eq_true, if_false, if_true, ownI, ownK, stepI, badI, wanted, opds, sem] at hst; cases hst)
  · have hmod : modI own (insC P ops b draw da o i) = { dst := o.dst, k := if own = true then ownK k else k, xs := ys, guard := g, ex := if draw then exOf ops b i else [] } := by
      rw [h4]; cases own <;> rfl
    rw [hmod] at hst
    rw [h4] at hdst
    simp only at hdst
    unfold stepI at hst
    simp only at hst
    unfold wpOpIn
    simp only [ho]
    split at hst
    · rename_i hw
      rw [guard_sound h h3 hw]
      simp only [if_true]
      split at hst
      · rename_i vs hvs
        split at hst
        · rename_i e he
          simp only [Option.some.injEq] at hst; subst hst
          have he' : sem call (bxOf σ.fr (if draw then exOf ops b i else [])) (tkOf σ.tk (if draw then exOf ops b i else [])) (o.dst.getD 0) k vs = some e := by
            cases own with
            | true => exact own_sem he
            | false => exact he
          have hs := op_sound hY hcall h hdst h1 h2 hvs he' h5 (fun hn hv => hfr (by
            rw [needs_da (q := draw && busyOf ops b i)] at hn
            cases own with
            | false => simpa using hn
            | true =>
              cases ha : isAppend o with
              | false => unfold needs at hn ⊢; rw [ha] at hn ⊢; simpa using hn
              | true =>
                exfalso
                obtain ⟨y, rfl⟩ := hv ha
                unfold needs at hn
                rw [ha] at hn h1
                have hda : da = true := by cases da <;> simp_all
                subst hda
                simp only [if_true] at h1
                obtain ⟨s, b', rfl⟩ := isAppend_k ha h1
                simp only [if_true, ownK, sem] at he
                cases he)) hT
          exact hs ro n K Q fun x w' Ω' hi hf => hK _ w' Ω' (put_size _ _ _) (put_defers _ _ _) (put_keeps _ _ _) hi hf
        · cases hst
      · cases hst
    · rename_i hw
      rw [guard_sound h h3 hw]
      simp only [Bool.false_eq_true, if_false]
      simp only [Option.some.injEq] at hst; subst hst
      exact ⟨fun _ _ => trivial, hK _ w Ω (put_size _ _ _) (put_defers _ _ _) (put_keeps _ _ _) (h.putO hdst (by simp [Den]) a rfl) (fun _ hf _ => hf)⟩
    · cases hst

/-! ### Regions -/
theorem insCL_get (draw da : Bool) : ∀ (l : List Oper) (j i : Nat) (o : Oper), l[i]? = some o → (insCL P ops b draw da l j)[i]? = some (insC P ops b draw da o (j + i))
  | [], j, i, o, h => by simp at h
  | x :: l, j, 0, o, h => by
    simp only [List.getElem?_cons_zero, Option.some.injEq] at h; subst h
    simp [insCL]
  | x :: l, j, i + 1, o, h => by
    simp only [List.getElem?_cons_succ] at h
    simp only [insCL, List.getElem?_cons_succ]
    rw [insCL_get draw da l (j + 1) i o h]
    congr 2
    omega
theorem insCL_length (draw da : Bool) : ∀ (l : List Oper) (j : Nat), (insCL P ops b draw da l j).length = l.length
  | [], _ => rfl
  | x :: l, j => by simp [insCL, insCL_length draw da l (j + 1)]
/-- What is made by the operations that are still to come is not there yet. -/
def FreshIx (P : Program) (da : Bool) (ops : Array Oper) (Ω : Own) (l : List Nat) : Prop := ∀ i ∈ l, ∀ o d, ops[i]? = some o → needs P da o = true → o.dst = some d → Fresh Ω d
/-- What follows a region. -/
def NextR (X : Sc) (w0 : World) (Ω : Own) (a : Act) (σ' : St) (ks ds : List Nat) (K : Act → World → Prop) : Prop :=
  ∀ a' w' Ω', a'.tmps.size = a.tmps.size → a'.defers = a.defers → (∀ k, k ∉ ks → a'.tmps.getD k undef = a.tmps.getD k undef) → Inv X w0 Ω' w' a'.tmps σ' → (∀ d, Fresh Ω d → d ∉ ds → Fresh Ω' d) → K a' w'
theorem needs_makes {o : Oper} (h : needs P da o = true) : makes P o = true := by
  unfold needs at h
  simp only [Bool.and_eq_true] at h
  exact h.1
theorem ppOf_mem {l : List Oper} {d : Nat} : d ∈ ppOf P da l ↔ ∃ o ∈ l, needs P da o = true ∧ o.dst = some d := by
  unfold ppOf
  rw [List.mem_filterMap]
  constructor
  · rintro ⟨o, ho, h⟩
    split at h
    · exact ⟨o, ho, by assumption, h⟩
    · cases h
  · rintro ⟨o, ho, h1, h2⟩
    exact ⟨o, ho, by rw [if_pos h1, h2]⟩
theorem distinct_nodup : ∀ {l : List Nat}, distinctN l = true → l.Nodup
  | [], _ => List.nodup_nil
  | d :: l, h => by
    simp only [distinctN] at h
    split at h
    · cases h
    · rename_i hm
      rw [List.nodup_cons]
      exact ⟨fun hd => hm (memN_self hd), distinct_nodup h⟩
theorem dsOf_mem {l : List Oper} {d : Nat} : d ∈ dsOf P l ↔ ∃ o ∈ l, makes P o = true ∧ o.dst = some d := by
  unfold dsOf
  rw [List.mem_filterMap]
  constructor
  · rintro ⟨o, ho, h⟩
    split at h
    · exact ⟨o, ho, by assumption, h⟩
    · cases h
  · rintro ⟨o, ho, h1, h2⟩
    exact ⟨o, ho, by rw [if_pos h1, h2]⟩
/-- The slots of what is made are all different. -/
theorem ds_inj : ∀ {l : List Oper}, (dsOf P l).Nodup → ∀ {i j : Nat} {o p : Oper} {d : Nat}, l[i]? = some o → l[j]? = some p → makes P o = true → makes P p = true → o.dst = some d → p.dst = some d → i = j
  | [], _, i, j, o, p, d, hi, _, _, _, _, _ => by simp at hi
  | x :: l, hn, i, j, o, p, d, hi, hj, h1, h2, h3, h4 => by
    have hcons : makes P x = true → ∀ d, x.dst = some d → d ∉ dsOf P l ∧ (dsOf P l).Nodup := fun hx d hd => by
      simp only [dsOf, List.filterMap_cons, hx, if_true, hd, List.nodup_cons] at hn
      exact hn
    have htail : (dsOf P l).Nodup := by
      unfold dsOf at hn ⊢
      rw [List.filterMap_cons] at hn
      split at hn
      · exact hn
      · exact (List.nodup_cons.1 hn).2
    cases i with
    | zero =>
      simp only [List.getElem?_cons_zero, Option.some.injEq] at hi; subst hi
      cases j with
      | zero => rfl
      | succ j =>
        simp only [List.getElem?_cons_succ] at hj
        exact ((hcons h1 d h3).1 (dsOf_mem.2 ⟨p, List.mem_of_getElem? hj, h2, h4⟩)).elim
    | succ i =>
      simp only [List.getElem?_cons_succ] at hi
      cases j with
      | zero =>
        simp only [List.getElem?_cons_zero, Option.some.injEq] at hj; subst hj
        exact ((hcons h2 d h4).1 (dsOf_mem.2 ⟨o, List.mem_of_getElem? hi, h1, h3⟩)).elim
      | succ j =>
        simp only [List.getElem?_cons_succ] at hj
        rw [ds_inj htail hi hj h1 h2 h3 h4]
theorem wpOps_sound {ro : Option Nat} {n : Nat} {Q : Exit → Act → World → Prop} {T : List (List V)} {own : Bool} (hY : YieldOk P X w0 T) (hcall : CallsOk P call) (hds : (dsOf P ops.toList).Nodup) {ks : List Nat} (hks : ∀ li ∈ (insCL P ops b draw da ops.toList 0).map (modI own), ∀ d, li.dst = some d → d ∈ ks) : ∀ (l : List Nat) (a : Act) (w : World) (Ω : Own) (σ σ' : St), l.Nodup → UpTo T σ' → Inv X w0 Ω w a.tmps σ →
    stepIx call ((insCL P ops b draw da ops.toList 0).map (modI own)) l σ = some σ' → (∀ li ∈ (insCL P ops b draw da ops.toList 0).map (modI own), ∀ d, li.dst = some d → d < a.tmps.size) → FreshIx P (da && !own) ops Ω l → NextR X w0 Ω a σ' ks (dsOf P ops.toList) (Q .normal) → wpOpsIn (wideR ro) n P ops Q l a w
  | [], a, w, Ω, σ, σ', _, _, h, hst, _, _, hK => by
    simp only [stepIx, Option.some.injEq] at hst; subst hst
    exact hK a w Ω rfl rfl (fun _ _ => rfl) h (fun _ hf _ => hf)
  | i :: l, a, w, Ω, σ, σ', hn, hT, h, hst, hdst, hfr, hK => by
    rw [wpOpsIn_cons]
    simp only [stepIx] at hst
    split at hst
    · rename_i li hli
      have hilt : i < ops.size := by
        have := (List.getElem?_eq_some_iff.1 hli).1
        rw [List.length_map, insCL_length] at this
        simpa using this
      have ho : ops[i]? = some ops[i] := Array.getElem?_eq_getElem hilt
      have hli' := insCL_get (P := P) (ops := ops) (b := b) draw da ops.toList 0 i ops[i] (by simp)
      rw [Nat.zero_add] at hli'
      have hli' : ((insCL P ops b draw da ops.toList 0).map (modI own))[i]? = some (modI own (insC P ops b draw da ops[i] i)) := by rw [List.getElem?_map, hli']; rfl
      have hmd : ∀ li, (modI own li).dst = li.dst := fun li => by cases own <;> rfl
      rw [hli'] at hli
      injection hli with hli; subst hli
      split at hst
      · rename_i σ1 h1
        have hmem : ops[i] ∈ ops.toList := by simp
        refine wpOp_step hY ((stepIx_tr hst).upTo hT) hcall h ho h1 (fun d hd => hdst _ (List.mem_of_getElem? hli') d (by rw [hmd]; exact hd)) (fun hm d hd => hfr i (by simp) _ d ho hm hd) ?_
        intro a' w' Ω' hsz hdf htm hinv hfresh
        have hn' := List.nodup_cons.1 hn
        refine wpOps_sound hY hcall hds hks l a' w' Ω' σ1 σ' hn'.2 hT hinv hst (fun o ho d hd => by rw [hsz]; exact hdst o ho d hd) (fun j hj p d hp hm hd => ?_) ?_
        · refine hfresh d (hfr j (by simp [hj]) p d hp hm hd) (fun hm' hd' => ?_)
          have := ds_inj hds (i := i) (j := j) (by simp) (by simpa using hp) hm' (needs_makes hm) hd' hd
          exact hn'.1 (this ▸ hj)
        · intro a'' w'' Ω'' hsz' hdf' htm' hinv' hf'
          refine hK a'' w'' Ω'' (hsz'.trans hsz) (hdf'.trans hdf) (fun k hk => (htm' k hk).trans (htm k fun e => hk (hks _ (List.mem_of_getElem? hli') k (by
            rcases insC_k (P := P) (ops := ops) (b := b) (draw := draw) (da := da) (o := ops[i]) i with hbad | ⟨_, _, _, _, _, _, _, h4, _⟩
            · rw [hbad] at h1
              cases own <;> (simp only [modI, Bool.false_eq_true, if_false, if_true, ownI, ownK, stepI, badI, wanted, opds, sem] at h1; cases h1)
            · rw [hmd, h4]; exact e)))) hinv' (fun d hf hnd => hf' d (hfresh d hf (fun hm hd => hnd (dsOf_mem.2 ⟨_, hmem, hm, hd⟩))) hnd)
      · cases hst
    · cases hst
theorem inv_keep {tm : Array Value} (h : Inv X w0 Ω w tm σ) (kn : Nat) (kp : List Nat) : Inv X w0 Ω w tm { σ with fr := keepL kn kp σ.fr } where
  kept := h.kept
  ownB := h.ownB
  ownA := h.ownA
  bnd := h.bnd
  uniq := h.uniq
  limB := h.limB
  slot s v hs := h.slot s v (get_keepL hs)
  tok := h.tok
  old := h.old
  out := h.out
/-- A region, taken in one of two ways. -/
theorem reg_sound {ro : Option Nat} {n id : Nat} {Q : Exit → Act → World → Prop} {T : List (List V)} {own : Bool} (hY : YieldOk P X w0 T) (hT : UpTo T σ') (hcall : CallsOk P call) (hmix : P.follows .mixedOrders = true) {lp : Bool} {kn : Nat} {kp : List Nat} (hdraw : draw = true → drawOkL b ((insCL P ops b draw da ops.toList 0).map (modI own)) = true ∧ closedB ops b = true) (hdis : distinctN (dsOf P ops.toList) = true) (h : Inv X w0 Ω w a.tmps σ) {N : Nat} {ex : Ex}
    (hev : evC call N (.reg lp (dsOf P ops.toList) (ppOf P (da && !own) ops.toList) ((insCL P ops b draw da ops.toList 0).map (modI own)) kn kp) σ = some (ex, σ')) (hdst : ∀ d ∈ dstsC (.reg lp (dsOf P ops.toList) (ppOf P (da && !own) ops.toList) ((insCL P ops b draw da ops.toList 0).map (modI own)) kn kp), d < a.tmps.size) (hfr : ∀ d ∈ onceC (.reg lp (dsOf P ops.toList) (ppOf P (da && !own) ops.toList) ((insCL P ops b draw da ops.toList 0).map (modI own)) kn kp), Fresh Ω d)
    (hK : ex = .normal → NextR X w0 Ω a σ' (dstsC (.reg lp (dsOf P ops.toList) (ppOf P (da && !own) ops.toList) ((insCL P ops b draw da ops.toList 0).map (modI own)) kn kp)) (onceC (.reg lp (dsOf P ops.toList) (ppOf P (da && !own) ops.toList) ((insCL P ops b draw da ops.toList 0).map (modI own)) kn kp) ++ loopC (.reg lp (dsOf P ops.toList) (ppOf P (da && !own) ops.toList) ((insCL P ops b draw da ops.toList 0).map (modI own)) kn kp)) (Q .normal)) : (Code.region id ops draw).wpIn (wideR ro) n P Q a w := by
  have hnd := distinct_nodup hdis
  simp only [evC] at hev
  split at hev
  · rename_i σ1 h1
    simp only [Option.some.injEq, Prod.mk.injEq] at hev
    obtain ⟨rfl, rfl⟩ := hev
    have hK := hK rfl
    have hdst' : ∀ li ∈ (insCL P ops b draw da ops.toList 0).map (modI own), ∀ d, li.dst = some d → d < a.tmps.size := fun li hli d hd =>
      hdst d (by simp only [dstsC]; exact List.mem_filterMap.2 ⟨li, hli, hd⟩)
    -- the state behind the start
    obtain ⟨Ω1, hinv, hfresh, hkeep⟩ : ∃ Ω1, Inv X w0 Ω1 w a.tmps (prep lp (ppOf P (da && !own) ops.toList) σ) ∧ (∀ d ∈ ppOf P (da && !own) ops.toList, Fresh Ω1 d) ∧ ∀ d, Fresh Ω d → Fresh Ω1 d := by
      cases lp with
      | false =>
        refine ⟨Ω, h, fun d hd => hfr d (by
          obtain ⟨o, ho, hm, hdd⟩ := ppOf_mem.1 hd
          simpa [onceC] using dsOf_mem.2 ⟨o, ho, needs_makes hm, hdd⟩), fun _ hf => hf⟩
      | true =>
        generalize ppOf P (da && !own) ops.toList = pp
        cases pp with
        | nil => exact ⟨Ω, h, (fun d hd => by cases hd), fun _ hf => hf⟩
        | cons p0 pp =>
        refine ⟨Ω.prep (p0 :: pp), h.prep _, fun d hd => fresh_prep (memN_self hd), fun d hf => ⟨fun b hb => hf.1 b (prep_box hb).1, fun b t p e hb => hf.2 b t p e (prep_arr hb).1⟩⟩
    have hmem : ∀ d, d ∉ onceC (.reg lp (dsOf P ops.toList) (ppOf P (da && !own) ops.toList) ((insCL P ops b draw da ops.toList 0).map (modI own)) kn kp) ++ loopC (.reg lp (dsOf P ops.toList) (ppOf P (da && !own) ops.toList) ((insCL P ops b draw da ops.toList 0).map (modI own)) kn kp) → d ∉ dsOf P ops.toList := by
      intro d hd hm
      apply hd
      cases lp <;> simp [onceC, loopC, hm]
    have go : ∀ (l : List Nat) (w' : World), l.Nodup → (∀ i ∈ l, i < ops.size) → stepIx call ((insCL P ops b draw da ops.toList 0).map (modI own)) l (prep lp (ppOf P (da && !own) ops.toList) σ) = some σ1 → Inv X w0 Ω1 w' a.tmps (prep lp (ppOf P (da && !own) ops.toList) σ) → wpOpsIn (wideR ro) n P ops Q l a w' := by
      intro l w' hl hlt hst hi
      refine wpOps_sound (own := own) hY hcall hnd (ks := ((insCL P ops b draw da ops.toList 0).map (modI own)).filterMap (·.dst)) (fun li hli d hd => List.mem_filterMap.2 ⟨li, hli, hd⟩) l a w' Ω1 _ σ1 hl hT hi hst hdst' (fun i _ o d ho hm hd => hfresh d (ppOf_mem.2 ⟨o, List.mem_of_getElem? (i := i) (by rw [Array.getElem?_toList]; exact ho), hm, hd⟩)) ?_
      intro a' w' Ω' hsz hdf htm hinv' hf'
      exact hK a' w' Ω' hsz hdf htm (inv_keep hinv' kn kp) (fun d hf hd => hf' d (hkeep d hf) (hmem d hd))
    cases draw with
    | false =>
      refine wpIn_region (go _ w List.nodup_range (fun i hi => List.mem_range.1 hi) ?_ hinv)
      rw [stepL_ix call ((insCL P ops b false da ops.toList 0).map (modI own)) _ 0 _ (by simp), List.length_map, insCL_length, ← List.range_eq_range', Array.length_toList] at h1
      exact h1
    | true =>
      obtain ⟨hd1, hd2⟩ := hdraw rfl
      refine wpIn_region_draw fun t => ?_
      simp only [Region.schedule, hmix, Bool.true_or, if_true]
      obtain ⟨g1, g2, g3⟩ := linearise_same (call := call) hd2 hd1 (by rw [List.length_map, insCL_length, Array.length_toList]) t
      refine go _ _ g2 g3 ?_ ?_
      · rw [g1]; exact h1
      · exact hinv.drew 1
  · cases hev
theorem mod_false : ∀ is : List LIns, is.map (modI false) = is
  | [] => rfl
  | i :: is => by simp only [List.map_cons, mod_false is]; rfl
theorem mod_true (is : List LIns) : is.map (modI true) = is.map ownI := by
  apply List.map_congr_left; intro i _; rfl
/-- A region. -/
theorem region_sound {ro : Option Nat} {n id : Nat} {Q : Exit → Act → World → Prop} {T : List (List V)} (hY : YieldOk P X w0 T) (hT : UpTo T σ') (hcall : CallsOk P call) (hmix : P.follows .mixedOrders = true) {lp : Bool} {kn : Nat} {kp : List Nat} {lc : LCode} (hc : regC P lp kn kp ops draw = some lc) (h : Inv X w0 Ω w a.tmps σ) {N : Nat} {ex : Ex}
    (hev : evC call N lc σ = some (ex, σ')) (hdst : ∀ d ∈ dstsC lc, d < a.tmps.size) (hfr : ∀ d ∈ onceC lc, Fresh Ω d)
    (hK : ex = .normal → NextR X w0 Ω a σ' (dstsC lc) (onceC lc ++ loopC lc) (Q .normal)) : (Code.region id ops draw).wpIn (wideR ro) n P Q a w := by
  unfold regC at hc
  generalize hb : (if draw = true then Region.before ops else #[]) = b at hc
  simp only at hc
  generalize drawsApp ops b draw = da at hc
  split at hc
  · rename_i hchk
    obtain ⟨hdraw, hdis⟩ := hchk
    have plainW : ∀ {lc' : LCode}, lc' = .reg lp (dsOf P ops.toList) (ppOf P da ops.toList) (insCL P ops b draw da ops.toList 0) kn kp → evC call N lc' σ = some (ex, σ') → (∀ d ∈ dstsC lc', d < a.tmps.size) → (∀ d ∈ onceC lc', Fresh Ω d) →
        (ex = .normal → NextR X w0 Ω a σ' (dstsC lc') (onceC lc' ++ loopC lc') (Q .normal)) → (Code.region id ops draw).wpIn (wideR ro) n P Q a w := by
      intro lc' e1 e2 e3 e4 e5
      subst e1
      have := reg_sound (own := false) (da := da) (b := b) (draw := draw) (id := id) (kn := kn) (kp := kp) (lp := lp) hY hT hcall hmix (by rw [mod_false]; exact hdraw) hdis h (N := N) (ex := ex) (Q := Q) (n := n) (ro := ro)
      rw [mod_false, Bool.not_false, Bool.and_true] at this
      exact this e2 e3 e4 e5
    split at hc
    · rename_i hl
      obtain ⟨rfl, rfl⟩ := hl
      split at hc
      · rename_i hown
        simp only [Option.some.injEq] at hc; subst hc
        simp only [dstsC, onceC, loopC, List.mem_append, if_true, List.nil_append] at hdst hfr hK
        simp only [evC] at hev
        have wide : ∀ {ks ds ks' ds' : List Nat} {σ' : St}, (∀ k, k ∉ ks' → k ∉ ks) → (∀ d, d ∉ ds' → d ∉ ds) → NextR X w0 Ω a σ' ks' ds' (Q .normal) → NextR X w0 Ω a σ' ks ds (Q .normal) := by
          intro ks ds ks' ds' σ' q1 q2 hN a' w' Ω' g1 g2 g3 g4 g5
          exact hN a' w' Ω' g1 g2 (fun k hk => g3 k (q1 k hk)) g4 (fun d hd hn => g5 d hd (q2 d hn))
        split at hev
        · rename_i hb1
          have := reg_sound (own := true) (da := true) (b := b) (draw := draw) (id := id) (kn := kn) (kp := kp) (lp := true) hY hT hcall hmix (by
            rw [mod_true]; exact fun hd => ⟨hown hd, (hdraw hd).2⟩) hdis h (N := N) (ex := ex) (Q := Q) (n := n) (ro := ro)
          rw [mod_true, Bool.not_true, Bool.and_false] at this
          refine this hev (fun d hd => hdst d (.inr (by simpa only [dstsC] using hd))) (fun d hd => by simp [onceC] at hd) (fun hx => wide (fun k hk => ?_) (fun d hd => ?_) (hK hx))
          · simp only [List.mem_append, not_or] at hk; simpa only [dstsC] using hk.2
          · simp only [List.mem_append, not_or] at hd; simpa [onceC, loopC] using hd.2
        · rename_i hb1
          refine plainW rfl hev (fun d hd => hdst d (.inl (by simpa only [dstsC] using hd))) (fun d hd => by simp [onceC] at hd) (fun hx => wide (fun k hk => ?_) (fun d hd => ?_) (hK hx))
          · simp only [List.mem_append, not_or] at hk; simpa only [dstsC] using hk.1
          · simp only [List.mem_append, not_or] at hd; simpa [onceC, loopC] using hd.1
      · cases hc
    · simp only [Option.some.injEq] at hc
      exact plainW hc.symm hev hdst hfr hK
  · cases hc
end
end Go.Lo

/- Ranges over functions: steps, scopes, rounds. -/
namespace Go.Lo
section
variable {P : Program} {X : Sc} {w0 w w' w'' : World} {Ω Ω' Ω'' : Own} {tm : Array Value} {σ : St}

/-! ### Steps -/
theorem Stp0.mine (h : Stp0 Ω Ω' w w') {b : Nat} (hb : Ω'.mine b) (hlt : b < w.heap.size) : Ω.mine b := by
  apply Classical.byContradiction
  intro hn
  obtain ⟨h1, _⟩ := h.same b hlt hn
  unfold Own.mine at hb hn
  rw [h1] at hb
  exact hn hb
theorem Stp.refl (hb : ∀ b, Ω.o b ≠ .out → b < w.heap.size) : Stp Ω Ω w w :=
  ⟨⟨rfl, rfl, rfl, Nat.le_refl _, fun _ _ _ => rfl, fun _ _ _ => ⟨rfl, rfl⟩⟩, ⟨fun _ h => h, fun _ _ => Nat.le_refl _, fun _ _ _ _ => rfl⟩, hb, rfl, hb⟩
theorem ExtM.trans (h : ExtM Ω Ω' w w') (k : ExtM Ω' Ω'' w' w'') : ExtM Ω Ω'' w w'' :=
  ⟨fun b hb => k.froz b (h.froz b hb), fun b hb => Nat.le_trans (h.lim b hb) (k.lim b (h.froz b hb)), fun b off hb hl =>
    (k.cell b off (h.froz b hb) (Nat.lt_of_lt_of_le hl (h.lim b hb))).trans (h.cell b off hb hl)⟩
theorem Stp.trans (h : Stp Ω Ω' w w') (k : Stp Ω' Ω'' w' w'') : Stp Ω Ω'' w w'' where
  s := by
    refine ⟨k.s.os.trans h.s.os, k.s.tape.trans h.s.tape, k.s.output.trans h.s.output, Nat.le_trans h.s.size k.s.size, fun b hlt hm => ?_, fun b hlt hm => ?_⟩
    · rw [k.s.block b (Nat.lt_of_lt_of_le hlt h.s.size) (fun hn => hm (h.s.mine hn hlt)), h.s.block b hlt hm]
    · obtain ⟨a1, a2⟩ := h.s.same b hlt hm
      obtain ⟨b1, b2⟩ := k.s.same b (Nat.lt_of_lt_of_le hlt h.s.size) (fun hn => hm (h.s.mine hn hlt))
      exact ⟨b1.trans a1, b2.trans a2⟩
  m := h.m.trans k.m
  bnd := k.bnd
  yl := k.yl.trans h.yl
  bnd0 := h.bnd0
/-- The same, but for the record l. -/
structure StpX (l : Nat) (Ω Ω' : Own) (w w' : World) : Prop where
  os : w'.os = w.os
  tape : w'.tape = w.tape
  output : w'.output = w.output
  size : w.heap.size ≤ w'.heap.size
  block : ∀ b, b < w.heap.size → ¬ Ω.mine b → b ≠ l → w'.heap[b]? = w.heap[b]?
  same : ∀ b, b < w.heap.size → ¬ Ω.mine b → Ω'.o b = Ω.o b ∧ Ω'.lim b = Ω.lim b
  m : ExtM Ω Ω' w w'
theorem Stp.toX (h : Stp Ω Ω' w w') (l : Nat) : StpX l Ω Ω' w w' :=
  ⟨h.s.os, h.s.tape, h.s.output, h.s.size, fun b hlt hm _ => h.s.block b hlt hm, h.s.same, h.m⟩
theorem StpX.mine {l : Nat} (h : StpX l Ω Ω' w w') {b : Nat} (hb : Ω'.mine b) (hlt : b < w.heap.size) : Ω.mine b := by
  apply Classical.byContradiction
  intro hn
  obtain ⟨h1, _⟩ := h.same b hlt hn
  unfold Own.mine at hb hn
  rw [h1] at hb
  exact hn hb
theorem StpX.trans {l : Nat} (h : StpX l Ω Ω' w w') (k : StpX l Ω' Ω'' w' w'') : StpX l Ω Ω'' w w'' where
  os := k.os.trans h.os
  tape := k.tape.trans h.tape
  output := k.output.trans h.output
  size := Nat.le_trans h.size k.size
  block b hlt hm hl := by rw [k.block b (Nat.lt_of_lt_of_le hlt h.size) (fun hn => hm (h.mine hn hlt)) hl, h.block b hlt hm hl]
  same b hlt hm := by
    obtain ⟨a1, a2⟩ := h.same b hlt hm
    obtain ⟨b1, b2⟩ := k.same b (Nat.lt_of_lt_of_le hlt h.size) (fun hn => hm (h.mine hn hlt))
    exact ⟨b1.trans a1, b2.trans a2⟩
  m := h.m.trans k.m
theorem putObj_cell {l b off : Nat} {o : Obj} (h : b ≠ l) : (w.putObj l o).cell? ⟨b, off, none⟩ = w.cell? ⟨b, off, none⟩ :=
  World.cell?_of_block (World.putObj_heap_other h)
theorem StpX.put {l : Nat} {o : Obj} (hl : Ω.o l = .out) : StpX l Ω Ω w (w.putObj l o) :=
  ⟨rfl, rfl, rfl, by simp, fun b _ _ hb => World.putObj_heap_other hb, fun _ _ _ => ⟨rfl, rfl⟩, ⟨fun _ h => h, fun _ _ => Nat.le_refl _, fun b off hb _ => putObj_cell (fun e => by
    subst e; exact Own.froz_ne hb hl)⟩⟩

/-! ### Scopes -/
/-- From here on. -/
def Sc.rb (X : Sc) (Ω : Own) (w : World) : Sc where
  x := Ω.mine
  o := Ω.o
  lim := Ω.lim
  j tr Ω' w' := X.j tr Ω' w' ∧ Stp Ω Ω' w w'
  st h s := ⟨X.st h.1 s, h.2.trans s⟩
theorem Inv.rb (h : Inv X w0 Ω w tm σ) : Inv (X.rb Ω w) w Ω w tm σ where
  kept := Kept.refl _ _
  ownB _ s hb := .inr (.inl ⟨s, hb⟩)
  ownA _ t p hb := .inr (.inr ⟨t, p, hb⟩)
  bnd := h.bnd
  uniq := h.uniq
  limB := h.limB
  slot := h.slot
  tok := h.tok
  old _ _ _ := ⟨rfl, rfl⟩
  out := ⟨h.out, Stp.refl h.bnd⟩
theorem Inv.unrb {tm' : Array Value} {σ' : St} (h : Inv X w0 Ω w tm σ) (k : Inv (X.rb Ω w) w Ω' w' tm' σ') : Inv X w0 Ω' w' tm' σ' := by
  have hx : ∀ b, b < w0.heap.size → ¬ X.x b → ¬ Ω.mine b := fun b hb hX hm => by
    rcases hm with ⟨s, hs⟩ | ⟨t, p, hp⟩
    · exact h.oldBox hb hX s hs
    · exact h.oldArr hb hX t p hp
  have own : ∀ b, (w.heap.size ≤ b ∨ Ω.mine b) → w0.heap.size ≤ b ∨ X.x b := fun b hb => by
    rcases hb with hb | hb
    · exact .inl (Nat.le_trans h.kept.size hb)
    · rcases hb with ⟨s, hs⟩ | ⟨t, p, hp⟩
      · exact h.ownB b s hs
      · exact h.ownA b t p hp
  exact {
    kept := ⟨k.kept.os.trans h.kept.os, k.kept.tape.trans h.kept.tape, k.kept.output.trans h.kept.output, Nat.le_trans h.kept.size k.kept.size, fun b hb hX => by
      rw [k.kept.block b (Nat.lt_of_lt_of_le hb h.kept.size) (hx b hb hX), h.kept.block b hb hX]⟩
    ownB := fun b s hb => own b (k.ownB b s hb)
    ownA := fun b t p hb => own b (k.ownA b t p hb)
    bnd := k.bnd
    uniq := k.uniq
    limB := k.limB
    slot := k.slot
    tok := k.tok
    old := fun b hb hX => by
      obtain ⟨a1, a2⟩ := k.old b (Nat.lt_of_lt_of_le hb h.kept.size) (hx b hb hX)
      obtain ⟨b1, b2⟩ := h.old b hb hX
      exact ⟨a1.trans b1, a2.trans b2⟩
    out := k.out.1 }
def mark (r : Nat) : Deferred := { target := .collected r, args := #[] }
def marks (M : List Nat) : List Deferred := M.map mark
/-- With marks among the deferred calls. -/
def Sc.df (X : Sc) (M : List Nat) : Sc where
  x := X.x
  o := X.o
  lim := X.lim
  j tr Ω w := X.j tr Ω w ∧ ∀ r ∈ M, ¬ Ω.mine r ∧ w.heap[r]? = some (.deferred (some []))
  st h s := ⟨X.st h.1 s, fun r hr => by
    obtain ⟨a1, a2⟩ := h.2 r hr
    have hlt := (Array.getElem?_eq_some_iff.1 a2).1
    exact ⟨fun hm => a1 (s.s.mine hm hlt), by rw [s.s.block r hlt a1]; exact a2⟩⟩
/-- The same scope, told otherwise. -/
theorem Inv.sc {X' : Sc} (h : Inv X w0 Ω w tm σ) (hx : X'.x = X.x) (ho : X'.o = X.o) (hl : X'.lim = X.lim) (hj : X.j σ.tr Ω w → X'.j σ.tr Ω w) : Inv X' w0 Ω w tm σ where
  kept := by rw [hx]; exact h.kept
  ownB := by rw [hx]; exact h.ownB
  ownA := by rw [hx]; exact h.ownA
  bnd := h.bnd
  uniq := h.uniq
  limB := h.limB
  slot := h.slot
  tok := h.tok
  old := by rw [hx, ho, hl]; exact h.old
  out := hj h.out
/-- What goes on elsewhere. -/
structure Grow (n : Nat) (Ω Ω' : Own) (w w' : World) : Prop where
  os : w'.os = w.os
  tape : w'.tape = w.tape
  output : w'.output = w.output
  size : w.heap.size ≤ w'.heap.size
  block : ∀ b, b < n → w'.heap[b]? = w.heap[b]?
  same : ∀ b, b < n → Ω'.o b = Ω.o b ∧ Ω'.lim b = Ω.lim b
  mine : ∀ b, Ω'.mine b → Ω.mine b
  bnd : ∀ b, Ω'.o b ≠ .out → b < w'.heap.size
  yl : Ω'.yl = Ω.yl
/-- It does not mind what is none of its business. -/
def Lax (X : Sc) : Prop := ∀ (tr : Option (List (List V))) (Ωs : Own) (ws : World) (Ω Ω' : Own) (w w' : World), X.j tr Ωs ws → X.j tr Ω w → Grow ws.heap.size Ω Ω' w w' → X.j tr Ω' w'
def Plain (X : Sc) : Prop := (∀ tr Ω w, X.j tr Ω w → tr = none) ∧ Lax X
theorem Lax.df (h : Lax X) (M : List Nat) : Lax (X.df M) := fun tr Ωs ws Ω Ω' w w' hs hj g => by
  refine ⟨h tr Ωs ws Ω Ω' w w' hs.1 hj.1 g, fun r hr => ?_⟩
  obtain ⟨_, a2⟩ := hs.2 r hr
  obtain ⟨b1, b2⟩ := hj.2 r hr
  have hlt := (Array.getElem?_eq_some_iff.1 a2).1
  exact ⟨fun hm => b1 (g.mine r hm), by rw [g.block r hlt]; exact b2⟩
theorem Plain.df (h : Plain X) (M : List Nat) : Plain (X.df M) := ⟨fun tr Ω w hj => h.1 tr Ω w hj.1, h.2.df M⟩
theorem froz_same {b : Nat} (h : Ω'.o b = Ω.o b) : Ω'.froz b ↔ Ω.froz b := by unfold Own.froz; rw [h]
theorem Plain.rb (h : Plain X) (Ωb : Own) (wb : World) : Plain (X.rb Ωb wb) := by
  refine ⟨fun tr Ω w hj => h.1 tr Ω w hj.1, fun tr Ωs ws Ω Ω' w w' hs hj g => ⟨h.2 tr Ωs ws Ω Ω' w w' hs.1 hj.1 g, ?_⟩⟩
  have hn := hs.2.s.size
  have k := hj.2
  refine ⟨⟨g.os.trans k.s.os, g.tape.trans k.s.tape, g.output.trans k.s.output, Nat.le_trans k.s.size g.size, fun b hlt hm => ?_, fun b hlt hm => ?_⟩, ⟨fun b hb => ?_, fun b hb => ?_, fun b off hb hl => ?_⟩, g.bnd, g.yl.trans k.yl, k.bnd0⟩
  · rw [g.block b (Nat.lt_of_lt_of_le hlt hn), k.s.block b hlt hm]
  · obtain ⟨a1, a2⟩ := g.same b (Nat.lt_of_lt_of_le hlt hn)
    obtain ⟨b1, b2⟩ := k.s.same b hlt hm
    exact ⟨a1.trans b1, a2.trans b2⟩
  · have hlt := k.bnd0 b (Own.froz_ne hb)
    exact (froz_same (g.same b (Nat.lt_of_lt_of_le hlt hn)).1).2 (k.m.froz b hb)
  · have hlt := k.bnd0 b (Own.froz_ne hb)
    rw [(g.same b (Nat.lt_of_lt_of_le hlt hn)).2]
    exact k.m.lim b hb
  · have hlt := k.bnd0 b (Own.froz_ne hb)
    rw [World.cell?_of_block (g.block b (Nat.lt_of_lt_of_le hlt hn))]
    exact k.m.cell b off hb hl
/-- What is asked of a scope. -/
structure ScOk (P : Program) (X : Sc) (w0 : World) (T : List (List V)) (ro : Option Nat) : Prop where
  y : YieldOk P X w0 T
  k : Plain X ∨ ∀ Ω w, ¬ X.j none Ω w
  r : ∀ l, ro = some l → l < w0.heap.size ∧ ¬ X.x l ∧ ∃ r, w0.heap[l]? = some (.loop r)
theorem YieldOk.df {T : List (List V)} (h : YieldOk P X w0 T) {M : List Nat} (hM : Plain X ∨ M = []) : YieldOk P (X.df M) w0 T where
  none Ω w hj := h.none Ω w hj.1
  some ro n b l tr as xs Ω w hj hyl hd hp hT := by
    rcases hM with hM | rfl
    · have := hM.1 _ _ _ hj.1
      cases this
    · obtain ⟨fn, tmps, asg, body, r1, r2⟩ := h.some ro n b l tr as xs Ω w hj.1 hyl hd hp hT
      refine ⟨fn, tmps, asg, body, r1, RoundIn.mono r2 fun e w' he => ?_⟩
      obtain ⟨e1, e2, e3⟩ := he
      exact ⟨e1, ⟨e2, fun r hr => by cases hr⟩, e3⟩
/-- A scope from here on, in a round of l. -/
theorem ScOk.round {T : List (List V)} {ro : Option Nat} (h : ScOk P X w0 T ro) (hp : Plain X) {l : Nat} {r : Loop} (hl : Ω.o l = .out) (hr : w.heap[l]? = some (.loop r)) : ScOk P (X.rb Ω w) w [] (some l) where
  y := ⟨fun Ω w hj => h.y.none Ω w hj.1, fun ro n b l tr as xs Ω w hj _ _ _ _ => by have := hp.1 _ _ _ hj.1; cases this⟩
  k := .inl (hp.rb _ _)
  r l' e := by
    injection e with e; subst e
    refine ⟨(Array.getElem?_eq_some_iff.1 hr).1, fun hm => ?_, r, hr⟩
    rcases hm with ⟨s, hs⟩ | ⟨t, p, hs⟩ <;> rw [hl] at hs <;> cases hs
end

/-! ### Rounds, logically -/
section
variable {F : St → List V → Option (Ex × St)}
def jumpOf : Option (Nat × Ex) → Option Code
  | none => none
  | some (_, .normal) => none
  | some (_, .exit id) => some (.exit id)
  | some (_, .ret) => some .ret
theorem foldR_snoc : ∀ (t : List (List V)) (k : Nat) (σ σo : St) (x : List V), foldR F k σ t = some (none, σo) → foldR F k σ (t ++ [x]) = match F σo x with
    | some (.normal, σ') => some (none, σ')
    | some (ex, σ') => some (some (k + t.length, ex), σ')
    | none => none
  | [], k, σ, σo, x, h => by
    simp only [foldR, Option.some.injEq, Prod.mk.injEq, true_and] at h
    subst h
    simp only [List.nil_append, foldR, List.length_nil, Nat.add_zero]
    cases F σ x with
    | none => rfl
    | some p => obtain ⟨e, σ'⟩ := p; cases e <;> rfl
  | y :: t, k, σ, σo, x, h => by
    simp only [foldR, List.cons_append] at h ⊢
    split at h
    · rename_i σ1 h1
      rw [foldR_snoc t (k + 1) σ1 σo x h, show k + 1 + t.length = k + (y :: t).length by simp; omega]
    · simp only [Option.some.injEq, Prod.mk.injEq, reduceCtorEq, false_and] at h
    · cases h
/-- Behind a beginning that goes on. -/
theorem foldR_pre : ∀ (t r : List (List V)) (k : Nat) (σ : St) (st : Option (Nat × Ex)) (σ' : St), foldR F k σ (t ++ r) = some (st, σ') →
    (∃ σo, foldR F k σ t = some (none, σo) ∧ foldR F (k + t.length) σo r = some (st, σ')) ∨ (∃ i e, st = some (i, e) ∧ i < k + t.length ∧ foldR F k σ t = some (st, σ'))
  | [], r, k, σ, st, σ', h => .inl ⟨σ, rfl, by simpa using h⟩
  | y :: t, r, k, σ, st, σ', h => by
    simp only [List.cons_append, foldR] at h ⊢
    split at h
    · rename_i σ1 h1
      rcases foldR_pre t r (k + 1) σ1 st σ' h with ⟨σo, a1, a2⟩ | ⟨i, e, a1, a2, a3⟩
      · exact .inl ⟨σo, a1, by rw [show k + (y :: t).length = k + 1 + t.length by simp; omega]; exact a2⟩
      · exact .inr ⟨i, e, a1, by simp; omega, a3⟩
    · rename_i ex σ1 hne h1
      simp only [Option.some.injEq, Prod.mk.injEq] at h
      obtain ⟨rfl, rfl⟩ := h
      exact .inr ⟨k, ex, rfl, by simp, rfl⟩
    · cases h
theorem foldR_stop : ∀ (t : List (List V)) (k : Nat) (σ : St) (i : Nat) (e : Ex) (σ' : St), foldR F k σ t = some (some (i, e), σ') → e ≠ .normal ∧ k ≤ i ∧ i < k + t.length
  | [], k, σ, i, e, σ', h => by simp [foldR] at h
  | y :: t, k, σ, i, e, σ', h => by
    simp only [foldR] at h
    split at h
    · obtain ⟨a1, a2, a3⟩ := foldR_stop t (k + 1) _ i e σ' h
      exact ⟨a1, by omega, by simp; omega⟩
    · rename_i ex σ1 hne h1
      simp only [Option.some.injEq, Prod.mk.injEq] at h
      obtain ⟨⟨rfl, rfl⟩, rfl⟩ := h
      exact ⟨fun e => hne e, Nat.le_refl _, by simp⟩
    · cases h
/-- The rounds are those that are asked for. -/
inductive FoldOk (F : St → List V → Option (Ex × St)) (σ1 : St) (T : List (List V)) : Nat → Ex → St → Prop where
  | all {σ' : St} (h : foldR F 0 σ1 T = some (none, σ')) : FoldOk F σ1 T 0 .normal σ'
  | stop {k : Nat} {ex : Ex} {σ' : St} (hl : T.length = k + 1) (h : foldR F 0 σ1 T = some (some (k, ex), σ')) : FoldOk F σ1 T (k + 1) ex σ'
theorem FoldOk.fold {σ1 σ' : St} {T : List (List V)} {b : Nat} {ex : Ex} (h : FoldOk F σ1 T b ex σ') : ∃ st, foldR F 0 σ1 T = some (st, σ') ∧ jumpOf st = jumpOf (some (0, ex)) := by
  cases h with
  | all h => exact ⟨none, h, rfl⟩
  | stop hl h => exact ⟨_, h, by cases ex <;> rfl⟩
theorem FoldOk.at {σ1 σ' : St} {T : List (List V)} {b : Nat} {ex : Ex} (h : FoldOk F σ1 T b ex σ') {t : List (List V)} {x : List V} (ht : t ++ [x] <+: T) :
    ∃ σo e2 σ2, foldR F 0 σ1 t = some (none, σo) ∧ F σo x = some (e2, σ2) ∧ goesOn b (some t) = (jumpOf (some (0, e2))).isNone := by
  obtain ⟨r, rfl⟩ := ht
  obtain ⟨st, hf, _⟩ := h.fold
  have hf' := hf
  rw [List.append_assoc] at hf
  rcases foldR_pre t ([x] ++ r) 0 σ1 st σ' hf with ⟨σo, a1, a2⟩ | ⟨i, e, a1, a2, a3⟩
  · simp only [List.singleton_append, foldR, Nat.zero_add] at a2
    split at a2
    · rename_i σ2 h2
      refine ⟨σo, .normal, σ2, a1, h2, ?_⟩
      cases h with
      | all h => simp [goesOn, jumpOf]
      | stop hl h =>
        rename_i k
        rw [hf'] at h
        injection h with h
        injection h with h _
        subst h
        obtain ⟨_, b2, _⟩ := foldR_stop r _ _ _ _ _ a2
        simp only [goesOn, jumpOf, Option.isNone_none, bne_iff_ne, ne_eq]
        omega
    · rename_i e2 σ2 hne h2
      simp only [Option.some.injEq, Prod.mk.injEq] at a2
      obtain ⟨rfl, rfl⟩ := a2
      refine ⟨σo, e2, σ2, a1, h2, ?_⟩
      have he : e2 ≠ .normal := fun e => hne e
      have hj : (jumpOf (some (0, e2))).isNone = false := by cases e2 <;> first | exact (he rfl).elim | rfl
      rw [hj]
      cases h with
      | all h => rw [hf'] at h; cases h
      | stop hl h =>
        rw [hf'] at h
        injection h with h
        injection h with h _
        injection h with h
        injection h with h _
        subst h
        simp [goesOn]
    · cases a2
  · exfalso
    subst a1
    cases h with
    | all h => rw [hf'] at h; cases h
    | stop hl h =>
      rw [hf'] at h
      injection h with h
      injection h with h _
      injection h with h
      injection h with h _
      subst h
      simp at hl
      omega
end
end Go.Lo

/- Ranges over functions: what a piece of code comes to; what an iterator and the body promise each other. -/
namespace Go.Lo
section
variable {P : Program} {X : Sc} {w0 : World} {call : Nat → List V → Option V}

/-! ### Code -/
def Ex.out : Ex → Exit
  | .normal => .normal
  | .exit id => .exit id
  | .ret => .ret
/-- Behind a piece of code. -/
structure Arr (X : Sc) (w0 : World) (ro : Option Nat) (Ω : Own) (a : Act) (M : List Nat) (df : List Deferred) (σ' : St) (ks ds : List Nat) (a' : Act) (w' : World) (Ω' : Own) (M' : List Nat) : Prop where
  size : a'.tmps.size = a.tmps.size
  defers : a'.defers = marks M' ++ df
  nodup : M'.Nodup
  low : ∀ r ∈ M', w0.heap.size ≤ r
  same : M' = M ∨ (Plain X ∧ ro = none)
  keep : ∀ k, k ∉ ks → a'.tmps.getD k undef = a.tmps.getD k undef
  inv : Inv (X.df M') w0 Ω' w' a'.tmps σ'
  fresh : ∀ d, Fresh Ω d → d ∉ ds → Fresh Ω' d
/-- What follows a piece of code. -/
def NextC (X : Sc) (w0 : World) (ro : Option Nat) (Ω : Own) (a : Act) (M : List Nat) (df : List Deferred) (σ' : St) (ks ds : List Nat) (K : Act → World → Prop) : Prop :=
  ∀ a' w' Ω' M', Arr X w0 ro Ω a M df σ' ks ds a' w' Ω' M' → K a' w'
/-- What is made once is made in one place. -/
def Once (lc : LCode) : Prop := (onceC lc).Nodup ∧ ∀ d ∈ onceC lc, d ∉ loopC lc
/-- A piece of code does what its compiled form does. -/
def CodeOk (P : Program) (call : Nat → List V → Option V) (N : Nat) (c : Code) (lc : LCode) : Prop :=
  ∀ {X : Sc} {w0 : World} {T : List (List V)} {ro : Option Nat} {n : Nat} {Ω : Own} {w : World} {a : Act} {σ σ' : St} {ex : Ex} {Q : Exit → Act → World → Prop} {M : List Nat} {df : List Deferred},
    ScOk P X w0 T ro → (Plain X ∨ M = []) → M.Nodup → (∀ r ∈ M, w0.heap.size ≤ r) → a.defers = marks M ++ df → evC call N lc σ = some (ex, σ') → UpTo T σ' → Inv (X.df M) w0 Ω w a.tmps σ → (∀ d ∈ dstsC lc, d < a.tmps.size) →
    (∀ d ∈ onceC lc, Fresh Ω d) → Once lc → NextC X w0 ro Ω a M df σ' (dstsC lc) (onceC lc ++ loopC lc) (Q ex.out) → c.wpIn (wideR ro) n P Q a w
end

/-! ### What was yielded grows -/
section
variable {call : Nat → List V → Option V}
theorem iter_tr {f : St → Option (Ex × St)} (h : ∀ σ ex σ', f σ = some (ex, σ') → TrLe σ σ') : ∀ {n : Nat} {σ : St} {ex : Ex} {σ' : St}, iter f n σ = some (ex, σ') → TrLe σ σ'
  | 0, _, _, _, hs => by simp [iter] at hs
  | n + 1, σ, ex, σ', hs => by
    simp only [iter] at hs
    split at hs
    · rename_i σ1 h1
      exact (h _ _ _ h1).trans (iter_tr h hs)
    · exact h _ _ _ hs
theorem roundE_tr {evA evB : St → Option (Ex × St)} (hA : ∀ σ ex σ', evA σ = some (ex, σ') → TrLe σ σ') (hB : ∀ σ ex σ', evB σ = some (ex, σ') → TrLe σ σ') {ps wr : List Nat} {σ : St} {as : List V} {ex : Ex} {σ' : St}
    (h : roundE evA evB ps wr σ as = some (ex, σ')) : TrLe σ σ' := by
  unfold roundE at h
  split at h
  · split at h
    · rename_i σ1 h1
      split at h
      · rename_i e2 σ2 h2
        simp only [Option.some.injEq, Prod.mk.injEq] at h
        obtain ⟨rfl, rfl⟩ := h
        have k1 := hA _ _ _ h1
        have k1 : TrLe σ σ1 := k1
        have k2 := k1.trans (hB _ _ _ h2)
        exact k2
      · cases h
    · cases h
  · cases h
theorem foldR_tr {f : St → List V → Option (Ex × St)} (h : ∀ σ as ex σ', f σ as = some (ex, σ') → TrLe σ σ') : ∀ {t : List (List V)} {k : Nat} {σ : St} {st : Option (Nat × Ex)} {σ' : St}, foldR f k σ t = some (st, σ') → TrLe σ σ'
  | [], _, _, _, _, hs => by
    simp only [foldR, Option.some.injEq, Prod.mk.injEq] at hs
    obtain ⟨_, rfl⟩ := hs
    exact .refl _
  | x :: t, k, σ, st, σ', hs => by
    simp only [foldR] at hs
    split at hs
    · rename_i σ1 h1
      exact (h _ _ _ _ h1).trans (foldR_tr h hs)
    · rename_i e σ1 _ h1
      simp only [Option.some.injEq, Prod.mk.injEq] at hs
      obtain ⟨_, rfl⟩ := hs
      exact h _ _ _ _ h1
    · cases hs
theorem rngE_spec {f : St → List V → Option (Ex × St)} {it : Nat → Option V} {σ : St} {ex : Ex} {σ' : St} (h : rngE f it σ = some (ex, σ')) : ∃ b T, itemsOf (it b) = some T ∧ FoldOk f σ T b ex σ' := by
  unfold rngE at h
  split at h
  · cases h
  · rename_i items hi
    split at h
    · rename_i σ1 h1
      simp only [Option.some.injEq, Prod.mk.injEq] at h
      obtain ⟨rfl, rfl⟩ := h
      exact ⟨0, items, hi, .all h1⟩
    · rename_i k _ _ h1
      split at h
      · cases h
      · rename_i items' hi'
        split at h
        · rename_i k' ex' σ1 h2
          split at h
          · rename_i hc
            obtain ⟨rfl, hl⟩ := hc
            simp only [Option.some.injEq, Prod.mk.injEq] at h
            obtain ⟨rfl, rfl⟩ := h
            exact ⟨k' + 1, items', hi', .stop hl h2⟩
          · cases h
        · cases h
    · cases h
theorem evC_tr {N : Nat} : ∀ (lc : LCode) {σ : St} {ex : Ex} {σ' : St}, evC call N lc σ = some (ex, σ') → TrLe σ σ' := by
  intro lc
  induction lc with
  | skip => intro σ ex σ' h; simp only [evC, Option.some.injEq, Prod.mk.injEq] at h; obtain ⟨_, rfl⟩ := h; exact .refl _
  | exit id => intro σ ex σ' h; simp only [evC, Option.some.injEq, Prod.mk.injEq] at h; obtain ⟨_, rfl⟩ := h; exact .refl _
  | ret => intro σ ex σ' h; simp only [evC, Option.some.injEq, Prod.mk.injEq] at h; obtain ⟨_, rfl⟩ := h; exact .refl _
  | bad => intro σ ex σ' h; simp only [evC] at h; cases h
  | reg lp ds pp ops kn kp =>
    intro σ ex σ' h
    simp only [evC] at h
    split at h
    · rename_i σ1 h1
      simp only [Option.some.injEq, Prod.mk.injEq] at h
      obtain ⟨_, rfl⟩ := h
      have k0 : TrLe σ (prep lp pp σ) := .of (prep_tr _ _ _)
      have k2 : TrLe σ σ1 := k0.trans (stepL_tr h1)
      exact k2
    · cases h
  | seq a b iha ihb =>
    intro σ ex σ' h
    simp only [evC] at h
    split at h
    · rename_i σ1 h1; exact (iha h1).trans (ihb h)
    · exact iha h
  | cond c a b iha ihb =>
    intro σ ex σ' h
    simp only [evC] at h
    split at h
    · split at h
      · exact iha h
      · exact ihb h
    · cases h
  | alt ts ks a b iha ihb =>
    intro σ ex σ' h
    simp only [evC] at h
    split at h
    · exact ihb h
    · exact iha h
  | block id a ih =>
    intro σ ex σ' h
    simp only [evC] at h
    split at h
    · rename_i j σ1 h1
      split at h <;> simp only [Option.some.injEq, Prod.mk.injEq] at h <;> obtain ⟨_, rfl⟩ := h <;> exact ih h1
    · exact ih h
  | loop a ih => intro σ ex σ' h; simp only [evC] at h; exact iter_tr (fun _ _ _ h => ih h) h
  | rng g ps wr a b iha ihb =>
    intro σ ex σ' h
    have key : ∀ {it : Nat → Option V} {τ : St}, τ.tr = σ.tr → rngE (roundE (evC call N a) (evC call N b) ps wr) it τ = some (ex, σ') → TrLe σ σ' := fun e h => by
      obtain ⟨k, T, _, hf⟩ := rngE_spec h
      obtain ⟨st, hf, _⟩ := hf.fold
      have := foldR_tr (fun _ _ _ _ h => roundE_tr (fun _ _ _ h => iha h) (fun _ _ _ h => ihb h) h) hf
      exact TrLe.trans (.of e) this
    simp only [evC] at h
    split at h
    · split at h
      · split at h
        · exact key (by rfl) h
        · cases h
      · cases h
    · split at h
      · split at h
        · exact key (by rfl) h
        · cases h
      · cases h
    · cases h
end

/-! ### What the iterator may know, and what the body learns -/
def frzB : OwnK → Bool
  | .frz => true
  | .arr _ true => true
  | _ => false
theorem froz_iff {Ω : Own} {b : Nat} : Ω.froz b ↔ frzB (Ω.o b) = true := by
  unfold Own.froz
  cases h : Ω.o b with
  | arr t p => cases p <;> simp [frzB]
  | _ => simp [frzB]
def itOwn (Ω : Own) (l b : Nat) : Own where
  o k := if frzB (Ω.o k) = true then .frz else .out
  lim := Ω.lim
  cur _ := none
  tsz _ := 0
  yl := some (l, b)
theorem itOwn_or (Ω : Own) (l b k : Nat) : (itOwn Ω l b).o k = .out ∨ ((itOwn Ω l b).o k = .frz ∧ Ω.froz k) := by
  simp only [itOwn]
  split
  · rename_i h; exact .inr ⟨rfl, froz_iff.2 h⟩
  · exact .inl rfl
theorem base_itOwn {Ω : Own} {w : World} {l b : Nat} (hb : ∀ k, Ω.o k ≠ .out → k < w.heap.size) : Base (itOwn Ω l b) w := by
  refine ⟨fun k => ?_, fun k hk => ?_⟩
  · rcases itOwn_or Ω l b k with h | ⟨h, _⟩ <;> simp [h]
  · rcases itOwn_or Ω l b k with h | ⟨_, h⟩
    · exact absurd h hk
    · exact hb k (Own.froz_ne h)
/-- What the iterator has frozen is frozen for the body. -/
def Own.mg (Ωo Ωi : Own) (n : Nat) : Own :=
  { Ωo with o := fun k => if n ≤ k ∧ frzB (Ωi.o k) = true then .frz else Ωo.o k, lim := fun k => if n ≤ k ∧ frzB (Ωi.o k) = true then Ωi.lim k else Ωo.lim k }

/-- While an iterator is at work: what was so at the start. -/
structure JS (Xc : Sc) (w0 : World) (Ω1 : Own) (we ws : World) (l : Nat) : Prop where
  plain : Plain Xc
  hl : we.heap.size = l
  hws : ws.heap.size = l + 1
  hj : Xc.j none Ω1 we
  lo : Ω1.o l = .out
  sz : w0.heap.size ≤ l
  bnd : ∀ k, Ω1.o k ≠ .out → k < l
/-- And what is so now. -/
structure JAt (Xc : Sc) (w0 : World) (Ω1 : Own) (ws : World) (tm : Array Value) (F : St → List V → Option (Ex × St)) (σ1 : St) (l b : Nat) (r0 : Loop) (ks : List Nat) (t : List (List V)) (Ωi : Own) (w : World) (Ωo : Own) (σo : St) (st : Option (Nat × Ex)) : Prop where
  fold : foldR F 0 σ1 t = some (st, σo)
  inv : Inv Xc w0 Ωo w tm σo
  rcd : w.heap[l]? = some (.loop { r0 with state := if (jumpOf st).isNone then .ready else .done, pending := jumpOf st })
  a1 : ∀ k, k < ws.heap.size → Ωi.o k = (itOwn Ω1 l b).o k ∧ Ωi.lim k = Ω1.lim k
  a2 : ∀ k, Ω1.froz k → Ωo.froz k ∧ Ω1.lim k ≤ Ωo.lim k
  b1 : ∀ k, ws.heap.size ≤ k → Ωi.o k ≠ .out → Ωo.o k = .out ∨ (Ωo.o k = .frz ∧ Ωi.froz k ∧ Ωo.lim k ≤ Ωi.lim k)
  c1 : ∀ k, Ωi.o k ≠ .out → k < w.heap.size
  d1 : Ωo.o l = .out
  e1 : ∀ k, k < ws.heap.size → Ωo.mine k → Ω1.mine k
  yl : Ωi.yl = some (l, b)
  kept : Kept (fun k => Ω1.mine k ∨ k = l) ws w
  fresh : ∀ d, Fresh Ω1 d → d ∉ ks → Fresh Ωo d
section
variable {Xc : Sc} {w0 we ws w w' : World} {Ω1 Ωi Ωi' Ωo : Own} {tm : Array Value} {F : St → List V → Option (Ex × St)} {σ1 σo : St} {l b : Nat} {r0 : Loop} {ks : List Nat} {t : List (List V)} {st : Option (Nat × Ex)}

theorem mine_ne {Ω : Own} {k : Nat} (h : Ω.mine k) : Ω.o k ≠ .out ∧ Ω.o k ≠ .frz := by
  rcases h with ⟨s, hs⟩ | ⟨t, p, hp⟩
  · rw [hs]; exact ⟨by simp, by simp⟩
  · rw [hp]; exact ⟨by simp, by simp⟩
theorem JAt.nm (h : JAt Xc w0 Ω1 ws tm F σ1 l b r0 ks t Ωi w Ωo σo st) {k : Nat} (hk : k < ws.heap.size) : ¬ Ωi.mine k := fun hm => by
  obtain ⟨g1, g2⟩ := mine_ne hm
  rw [(h.a1 k hk).1] at g1 g2
  rcases itOwn_or Ω1 l b k with e | ⟨e, _⟩
  · exact g1 e
  · exact g2 e
theorem JAt.trn (S : JS Xc w0 Ω1 we ws l) (h : JAt Xc w0 Ω1 ws tm F σ1 l b r0 ks t Ωi w Ωo σo st) : σo.tr = none := S.plain.1 _ _ _ h.inv.out
/-- The iterator goes on. -/
theorem JAt.step (S : JS Xc w0 Ω1 we ws l) (h : JAt Xc w0 Ω1 ws tm F σ1 l b r0 ks t Ωi w Ωo σo st) (s : Stp Ωi Ωi' w w') : JAt Xc w0 Ω1 ws tm F σ1 l b r0 ks t Ωi' w' Ωo σo st := by
  have hsz := h.kept.size
  have hlw : l < ws.heap.size := by rw [S.hws]; exact Nat.lt_succ_self l
  have blk : ∀ k, k < ws.heap.size → w'.heap[k]? = w.heap[k]? := fun k hk => s.s.block k (Nat.lt_of_lt_of_le hk hsz) (h.nm hk)
  have frzo : ∀ k, Ωi.mine k → Ωo.o k = .out ∨ (Ωo.o k = .frz ∧ Ωi.froz k ∧ Ωo.lim k ≤ Ωi.lim k) := fun k hm => h.b1 k (Nat.le_of_not_lt fun hlt => h.nm hlt hm) (mine_ne hm).1
  have hblk : ∀ k, Ωo.mine k → w'.heap[k]? = w.heap[k]? := fun k hm => by
    refine s.s.block k (h.inv.bnd k (mine_ne hm).1) fun hi => ?_
    rcases frzo k hi with e | ⟨e, _⟩
    · exact (mine_ne hm).1 e
    · exact (mine_ne hm).2 e
  have hcell : ∀ k off, Ωo.o k ≠ .out → off < Ωo.lim k → w'.cell? ⟨k, off, none⟩ = w.cell? ⟨k, off, none⟩ := fun k off hne hl => by
    by_cases hm : Ωi.mine k
    · rcases frzo k hm with e | ⟨_, f, g⟩
      · exact absurd e hne
      · exact s.m.cell k off f (Nat.lt_of_lt_of_le hl g)
    · exact World.cell?_of_block (s.s.block k (h.inv.bnd k hne) hm)
  have htr := h.trn S
  have hlt0 : ∀ k, k < w0.heap.size → k < ws.heap.size := fun k hk => by have := S.sz; have := S.hws; omega
  refine ⟨h.fold, ?_, by rw [blk l hlw]; exact h.rcd, fun k hk => ?_, h.a2, fun k hk hne => ?_, s.bnd, h.d1, h.e1, s.yl.trans h.yl, ?_, h.fresh⟩
  · refine h.inv.other (tr' := σo.tr) ⟨s.s.os.trans h.inv.kept.os, s.s.tape.trans h.inv.kept.tape, s.s.output.trans h.inv.kept.output, Nat.le_trans h.inv.kept.size s.s.size, fun k hk hX => by
      rw [blk k (hlt0 k hk)]; exact h.inv.kept.block k hk hX⟩ s.s.size hblk (fun k off hf hl => hcell k off (Own.frozp_ne hf) hl) ?_
    have hj := h.inv.out
    rw [htr] at hj ⊢
    exact S.plain.2 none Ω1 we Ωo Ωo w w' S.hj hj ⟨s.s.os, s.s.tape, s.s.output, s.s.size, fun k hk => blk k (by rw [S.hl] at hk; have := S.hws; omega), fun _ _ => ⟨rfl, rfl⟩, fun _ h => h, fun k hk => Nat.lt_of_lt_of_le (h.inv.bnd k hk) s.s.size, rfl⟩
  · obtain ⟨a1, a2⟩ := s.s.same k (Nat.lt_of_lt_of_le hk hsz) (h.nm hk)
    obtain ⟨b1, b2⟩ := h.a1 k hk
    exact ⟨a1.trans b1, a2.trans b2⟩
  · by_cases hlt : k < w.heap.size
    · by_cases hm : Ωi.mine k
      · rcases frzo k hm with e | ⟨e, f, g⟩
        · exact .inl e
        · exact .inr ⟨e, s.m.froz k f, Nat.le_trans g (s.m.lim k f)⟩
      · rw [(s.s.same k hlt hm).1] at hne
        rcases h.b1 k hk hne with e | ⟨e, f, g⟩
        · exact .inl e
        · exact .inr ⟨e, s.m.froz k f, Nat.le_trans g (s.m.lim k f)⟩
    · refine .inl (Classical.byContradiction fun e => hlt (h.inv.bnd k e))
  · exact ⟨s.s.os.trans h.kept.os, s.s.tape.trans h.kept.tape, s.s.output.trans h.kept.output, Nat.le_trans hsz s.s.size, fun k hk hx => by rw [blk k hk]; exact h.kept.block k hk hx⟩
/-- The scope of the iterator. -/
def itSc (Xc : Sc) (w0 : World) (Ω1 : Own) (ws : World) (tm : Array Value) (F : St → List V → Option (Ex × St)) (σ1 : St) (l b : Nat) (r0 : Loop) (ks : List Nat) : Sc where
  x k := Ω1.mine k ∨ k = l
  o := (itOwn Ω1 l b).o
  lim := Ω1.lim
  j tr Ω w := ∃ t Ωa wa Ωo σo st, tr = some t ∧ JAt Xc w0 Ω1 ws tm F σ1 l b r0 ks t Ωa wa Ωo σo st ∧ Stp Ωa Ω wa w
  st h s := by
    obtain ⟨t, Ωa, wa, Ωo, σo, st, h1, h2, h3⟩ := h
    exact ⟨t, Ωa, wa, Ωo, σo, st, h1, h2, h3.trans s⟩
theorem itSc_at (S : JS Xc w0 Ω1 we ws l) (h : (itSc Xc w0 Ω1 ws tm F σ1 l b r0 ks).j (some t) Ωi w) : ∃ Ωo σo st, JAt Xc w0 Ω1 ws tm F σ1 l b r0 ks t Ωi w Ωo σo st := by
  obtain ⟨t', Ωa, wa, Ωo, σo, st, h1, h2, h3⟩ := h
  injection h1 with h1; subst h1
  exact ⟨Ωo, σo, st, h2.step S h3⟩
theorem itSc_of (h : JAt Xc w0 Ω1 ws tm F σ1 l b r0 ks t Ωi w Ωo σo st) : (itSc Xc w0 Ω1 ws tm F σ1 l b r0 ks).j (some t) Ωi w :=
  ⟨t, Ωi, w, Ωo, σo, st, rfl, h, Stp.refl h.c1⟩
theorem mg_lt {n k : Nat} (h : k < n) : (Ωo.mg Ωi n).o k = Ωo.o k ∧ (Ωo.mg Ωi n).lim k = Ωo.lim k := by
  simp only [Own.mg, if_neg (fun (x : n ≤ k ∧ frzB (Ωi.o k) = true) => absurd x.1 (Nat.not_le_of_lt h)), and_self]
theorem mg_frz {n k : Nat} (h : n ≤ k) (hf : Ωi.froz k) : (Ωo.mg Ωi n).o k = .frz ∧ (Ωo.mg Ωi n).lim k = Ωi.lim k := by
  simp only [Own.mg, if_pos (And.intro h (froz_iff.1 hf)), and_self]
theorem mg_not {n k : Nat} (hf : ¬ Ωi.froz k) : (Ωo.mg Ωi n).o k = Ωo.o k ∧ (Ωo.mg Ωi n).lim k = Ωo.lim k := by
  simp only [Own.mg, if_neg (fun (x : n ≤ k ∧ frzB (Ωi.o k) = true) => hf (froz_iff.2 x.2)), and_self]
/-- Either way. -/
theorem JAt.mg (h : JAt Xc w0 Ω1 ws tm F σ1 l b r0 ks t Ωi w Ωo σo st) (k : Nat) : ((Ωo.mg Ωi ws.heap.size).o k = Ωo.o k ∧ (Ωo.mg Ωi ws.heap.size).lim k = Ωo.lim k) ∨
    (ws.heap.size ≤ k ∧ Ωi.froz k ∧ (Ωo.mg Ωi ws.heap.size).o k = .frz ∧ (Ωo.mg Ωi ws.heap.size).lim k = Ωi.lim k ∧ (Ωo.o k = .out ∨ (Ωo.o k = .frz ∧ Ωo.lim k ≤ Ωi.lim k))) := by
  by_cases hk : ws.heap.size ≤ k
  · by_cases hf : Ωi.froz k
    · obtain ⟨g1, g2⟩ := mg_frz (Ωo := Ωo) hk hf
      refine .inr ⟨hk, hf, g1, g2, ?_⟩
      rcases h.b1 k hk (Own.froz_ne hf) with e | ⟨e, _, g⟩
      · exact .inl e
      · exact .inr ⟨e, g⟩
    · exact .inl (mg_not hf)
  · exact .inl (mg_lt (Nat.lt_of_not_le hk))
theorem JAt.mgBack (h : JAt Xc w0 Ω1 ws tm F σ1 l b r0 ks t Ωi w Ωo σo st) {k : Nat} {o : OwnK} (ho : (Ωo.mg Ωi ws.heap.size).o k = o) (hne : o ≠ .frz) : Ωo.o k = o ∧ (Ωo.mg Ωi ws.heap.size).lim k = Ωo.lim k := by
  rcases h.mg k with ⟨g1, g2⟩ | ⟨_, _, g, _⟩
  · exact ⟨by rw [← g1]; exact ho, g2⟩
  · rw [g] at ho; exact absurd ho.symm hne
theorem JAt.mgOut (h : JAt Xc w0 Ω1 ws tm F σ1 l b r0 ks t Ωi w Ωo σo st) {k : Nat} {o : OwnK} (ho : Ωo.o k = o) (h1 : o ≠ .out) (h2 : o ≠ .frz) : (Ωo.mg Ωi ws.heap.size).o k = o ∧ (Ωo.mg Ωi ws.heap.size).lim k = Ωo.lim k := by
  rcases h.mg k with ⟨g1, g2⟩ | ⟨_, _, _, _, g | ⟨g, _⟩⟩
  · exact ⟨by rw [g1]; exact ho, g2⟩
  · rw [ho] at g; exact absurd g h1
  · rw [ho] at g; exact absurd g h2
theorem JAt.mgMine (h : JAt Xc w0 Ω1 ws tm F σ1 l b r0 ks t Ωi w Ωo σo st) {k : Nat} (hm : (Ωo.mg Ωi ws.heap.size).mine k) : Ωo.mine k := by
  rcases hm with ⟨s, hs⟩ | ⟨t, p, hp⟩
  · exact .inl ⟨s, (h.mgBack hs (by simp)).1⟩
  · exact .inr ⟨t, p, (h.mgBack hp (by simp)).1⟩
theorem JAt.mgFroz (h : JAt Xc w0 Ω1 ws tm F σ1 l b r0 ks t Ωi w Ωo σo st) {k : Nat} (hf : Ωo.froz k) : (Ωo.mg Ωi ws.heap.size).froz k ∧ Ωo.lim k ≤ (Ωo.mg Ωi ws.heap.size).lim k := by
  rcases h.mg k with ⟨g1, g2⟩ | ⟨_, _, g, g', g3⟩
  · exact ⟨(froz_same g1).2 hf, Nat.le_of_eq g2.symm⟩
  · refine ⟨.inl g, ?_⟩
    rw [g']
    rcases g3 with e | ⟨_, e⟩
    · exact absurd e (Own.froz_ne hf)
    · exact e
/-- The body learns what the iterator has frozen. -/
theorem JAt.merge (S : JS Xc w0 Ω1 we ws l) (h : JAt Xc w0 Ω1 ws tm F σ1 l b r0 ks t Ωi w Ωo σo st) : Inv Xc w0 (Ωo.mg Ωi ws.heap.size) w tm σo := by
  have hlt0 : ∀ k, k < w0.heap.size → k < ws.heap.size := fun k hk => by have := S.sz; have := S.hws; omega
  have hbnd : ∀ k, (Ωo.mg Ωi ws.heap.size).o k ≠ .out → k < w.heap.size := fun k hk => by
    rcases h.mg k with ⟨g1, _⟩ | ⟨_, hf, _⟩
    · exact h.inv.bnd k (by rw [← g1]; exact hk)
    · exact h.c1 k (Own.froz_ne hf)
  have hx : Ext Ωo (Ωo.mg Ωi ws.heap.size) w w := by
    refine ⟨fun k hk => (h.mgFroz hk).1, fun k hk => .inr (h.mgOut hk (by simp) (by simp)).1, fun k u p hk => ⟨p, (h.mgOut hk (by simp) (by simp)).1⟩, fun k s hk => (h.mgOut hk (by simp) (by simp)).1, fun k hk => ?_, fun _ _ _ _ => rfl, fun _ _ _ _ => rfl, fun _ _ _ c k n _ hc => ⟨c, k, n, hc, .inl ⟨rfl, rfl, rfl⟩⟩, rfl⟩
    rcases h.mg k with ⟨_, g2⟩ | ⟨_, _, _, g', g3⟩
    · exact Nat.le_of_eq g2.symm
    · rw [g']
      rcases g3 with e | ⟨_, e⟩
      · exact absurd e hk
      · exact e
  have htr := h.trn S
  refine ⟨h.inv.kept, fun k s hk => h.inv.ownB k s (h.mgBack hk (by simp)).1, fun k u p hk => h.inv.ownA k u p (h.mgBack hk (by simp)).1, hbnd, fun k k' s hk hk' => h.inv.uniq k k' s (h.mgBack hk (by simp)).1 (h.mgBack hk' (by simp)).1, fun k s hk => ?_,
    fun s v hs => ?_, fun u n wr hu => ?_, fun k hk hX => ?_, ?_⟩
  · obtain ⟨g1, g2⟩ := h.mgBack hk (by simp)
    rw [g2]; exact h.inv.limB k s g1
  · obtain ⟨g1, g2⟩ := h.inv.slot s v hs
    exact ⟨g1, g2.ext hx fun _ _ _ _ hh => hh⟩
  · obtain ⟨c, k, T, xs, g1, ⟨p, g2⟩, g3, g4, g5, g6, g7, g8⟩ := h.inv.tok u n wr hu
    obtain ⟨q1, q2⟩ := h.mgOut g2 (by simp) (by simp)
    exact ⟨c, k, T, xs, g1, ⟨p, q1⟩, g3, g4, g5, by rw [q2]; exact g6, g7, fun hw b q hb => g8 hw b q (h.mgBack hb (by simp)).1⟩
  · rw [(mg_lt (hlt0 k hk)).1, (mg_lt (hlt0 k hk)).2]; exact h.inv.old k hk hX
  · have hj := h.inv.out
    rw [htr] at hj ⊢
    refine S.plain.2 none Ω1 we Ωo _ w w S.hj hj ⟨rfl, rfl, rfl, Nat.le_refl _, fun _ _ => rfl, fun k hk => mg_lt ?_, fun k hm => h.mgMine hm, hbnd, rfl⟩
    rw [S.hl] at hk; have := S.hws; omega
end
end Go.Lo

/- Ranges over functions: a round; the statement. -/
open Go.RowKit (Below)
namespace Go.Lo
section
variable {P : Program} {X : Sc} {w0 w : World} {Ω : Own} {tm : Array Value} {σ : St}

/-! ### Slots -/
theorem not_mem_of_memN {s : Nat} {xs : List Nat} (h : memN s xs = false) : s ∉ xs := fun hm => by rw [memN_self hm] at h; cases h
theorem get_dropL {α : Type} {ks : List Nat} : ∀ {l : List (Nat × α)} {s : Nat} {v : α}, get (dropL ks l) s = some v → get l s = some v ∧ memN s ks = false
  | [], s, v, h => by simp [dropL, get] at h
  | (k, u) :: l, s, v, h => by
    simp only [dropL] at h
    split at h
    · rename_i hm
      obtain ⟨h1, h2⟩ := get_dropL h
      have hne : k ≠ s := fun e => by subst e; rw [hm] at h2; cases h2
      exact ⟨by simp only [get, if_neg hne]; exact h1, h2⟩
    · rename_i hm
      simp only [get] at h ⊢
      split at h
      · rename_i e; subst e; rw [if_pos rfl]; exact ⟨h, by simpa using hm⟩
      · rename_i e; rw [if_neg e]; exact get_dropL h
theorem inv_tm {tm' : Array Value} {ks : List Nat} (h : Inv X w0 Ω w tm' σ) (hs : tm'.size = tm.size) (hk : ∀ k, k ∉ ks → tm'.getD k undef = tm.getD k undef) : Inv X w0 Ω w tm { σ with fr := dropL ks σ.fr } where
  kept := h.kept
  ownB := h.ownB
  ownA := h.ownA
  bnd := h.bnd
  uniq := h.uniq
  limB := h.limB
  slot s v hv := by
    obtain ⟨h1, h2⟩ := get_dropL hv
    obtain ⟨g1, g2⟩ := h.slot s v h1
    exact ⟨hs ▸ g1, by rw [← hk s (not_mem_of_memN h2)]; exact g2⟩
  tok := h.tok
  old := h.old
  out := h.out
theorem inv_params : ∀ (ps : List Nat) (as : List V) (xs : List Value) {tm : Array Value} {σ : St}, Inv X w0 Ω w tm σ → DenL Ω w as xs → as.length = ps.length → (∀ p ∈ ps, p < tm.size) →
    Inv X w0 Ω w ((ps.zip xs).foldl (fun tm (p : Nat × Value) => tm.setIfInBounds p.1 p.2) tm) { σ with fr := putA ps as σ.fr } ∧ ((ps.zip xs).foldl (fun tm (p : Nat × Value) => tm.setIfInBounds p.1 p.2) tm).size = tm.size ∧
      ∀ k, k ∉ ps → ((ps.zip xs).foldl (fun tm (p : Nat × Value) => tm.setIfInBounds p.1 p.2) tm).getD k undef = tm.getD k undef
  | [], as, xs, tm, σ, h, hd, hl, hp => by
    cases as with
    | nil => exact ⟨h, rfl, fun _ _ => rfl⟩
    | cons _ _ => simp at hl
  | p :: ps, as, xs, tm, σ, h, hd, hl, hp => by
    cases as with
    | nil => simp at hl
    | cons v as =>
      simp only [DenL] at hd
      obtain ⟨x, ys, rfl, h2, h3⟩ := hd
      simp only [List.length_cons, Nat.add_right_cancel_iff] at hl
      have h1 := h.put (hp p (by simp)) (DenS.of h2)
      obtain ⟨g1, g2, g3⟩ := inv_params ps as ys h1 h3 hl (fun q hq => by rw [Array.size_setIfInBounds]; exact hp q (by simp [hq]))
      simp only [List.zip_cons_cons, List.foldl_cons, putA]
      refine ⟨g1, g2.trans (Array.size_setIfInBounds ..), fun k hk => ?_⟩
      simp only [List.mem_cons, not_or] at hk
      rw [g3 k hk.2]
      exact getD_set_other (fun e => hk.1 e.symm)
theorem Inv.rcd {l : Nat} {o : Obj} (h : Inv X w0 Ω w tm σ) (hl : Ω.o l = .out) (hs : w0.heap.size ≤ l) (hj : X.j σ.tr Ω (w.putObj l o)) : Inv X w0 Ω (w.putObj l o) tm σ :=
  h.other (tr' := σ.tr) ⟨h.kept.os, h.kept.tape, h.kept.output, by rw [World.putObj_size]; exact h.kept.size, fun b hb hX => by
      rw [World.putObj_heap_other (by omega)]; exact h.kept.block b hb hX⟩ (by simp)
    (fun b hm => World.putObj_heap_other fun e => by subst e; exact (mine_ne hm).1 hl) (fun b off hf _ => putObj_cell fun e => by subst e; exact Own.frozp_ne hf hl) hj
/-- A plain scope does not mind the record. -/
theorem Plain.rcd {Xc : Sc} {we ws w' : World} {Ω1 Ω' : Own} {l : Nat} {o : Obj} (S : JS Xc w0 Ω1 we ws l) {σ' : St} {tm' : Array Value} (h : Inv Xc w0 Ω' w' tm' σ') (hl : Ω'.o l = .out) : Inv Xc w0 Ω' (w'.putObj l o) tm' σ' := by
  have htr := S.plain.1 _ _ _ h.out
  refine h.rcd hl S.sz ?_
  have hj := h.out
  rw [htr] at hj ⊢
  exact S.plain.2 none Ω1 we Ω' Ω' w' _ S.hj hj ⟨rfl, rfl, rfl, by simp, fun b hb => World.putObj_heap_other (by rw [S.hl] at hb; omega), fun _ _ => ⟨rfl, rfl⟩, fun _ h => h, fun b hb => by simpa using h.bnd b hb, rfl⟩

mutual
theorem Den.itmC {Ω' : Own} {w' : World} (h : ExtM Ω Ω' w w') : ∀ (vs : List V) (xs : List Value), (vs.all V.pm) = true → DenL Ω w vs xs → DenL Ω' w' vs xs
  | [], _, _, hd => by simpa [DenL] using hd
  | v :: vs, xs, hp, hd => by
    simp only [List.all_cons, Bool.and_eq_true] at hp
    simp only [DenL] at hd
    obtain ⟨x, ys, rfl, h2, h3⟩ := hd
    exact DenL.cons (Den.extM h v x hp.1 h2) (Den.itmC h vs ys hp.2 h3)
end
theorem Den.itm {Ω' : Own} {w' : World} (h : ExtM Ω Ω' w w') {v : V} {x : Value} (hp : (v.cells.all V.pm) = true) (hd : Den Ω w v x) : Den Ω' w' v x := by
  have one : v.cells = [v] → Den Ω' w' v x := fun e => Den.extM h v x (by rw [e] at hp; simpa using hp) hd
  cases v <;> first
    | exact one rfl
    | (simp only [Den, V.cells] at hd hp ⊢
       obtain ⟨xs, h1, h2⟩ := hd
       exact ⟨xs, h1, Den.itmC h _ _ hp h2⟩)
theorem DenL.itm {Ω' : Own} {w' : World} (h : ExtM Ω Ω' w w') : ∀ {vs : List V} {xs : List Value}, (vs.all fun v => v.cells.all V.pm) = true → DenL Ω w vs xs → DenL Ω' w' vs xs
  | [], _, _, hd => by simpa [DenL] using hd
  | v :: vs, xs, hp, hd => by
    simp only [List.all_cons, Bool.and_eq_true] at hp
    simp only [DenL] at hd
    obtain ⟨x, ys, rfl, h2, h3⟩ := hd
    exact DenL.cons (Den.itm h hp.1 h2) (DenL.itm h (by simpa using hp.2) h3)
end

/-! ### A round -/
def stOf (k : Nat) : Ex → Option (Nat × Ex)
  | .normal => none
  | e => some (k, e)
theorem jump_stOf (k : Nat) (e : Ex) : jumpOf (stOf k e) = jumpOf (some (0, e)) := by cases e <;> rfl
section
variable {P : Program} {call : Nat → List V → Option V} {N : Nat} {Xc : Sc} {w0 we ws w : World} {Ω1 Ωi Ωo : Own} {tm : Array Value} {σ1 σo : St} {l b : Nat} {r0 : Loop} {t : List (List V)}
theorem round_ok {asg body : Code} {lx ly : LCode} {ps wr : List Nat} {T : List (List V)} {ro0 : Option Nat} (hx : CodeOk P call N asg lx) (hy : CodeOk P call N body ly) (ox : onceC lx = []) (oy : onceC ly = []) (sc : ScOk P Xc w0 T ro0)
    (hwr : wr = ps ++ (dstsC lx ++ dstsC ly)) (hsz : ∀ d ∈ wr, d < tm.size) (S : JS Xc w0 Ω1 we ws l) (hr0 : r0.tmps = tm ∧ r0.params.toList = ps ∧ r0.assign = asg ∧ r0.body = body)
    (h : JAt Xc w0 Ω1 ws tm (roundE (evC call N lx) (evC call N ly) ps wr) σ1 l b r0 (loopC lx ++ loopC ly) t Ωi w Ωo σo none) {as : List V} {xs : List Value} (hd : DenL Ωi w as xs) (hp : (as.all fun v => v.cells.all V.pm) = true)
    {e2 : Ex} {σ2 : St} (hF : roundE (evC call N lx) (evC call N ly) ps wr σo as = some (e2, σ2)) :
    ∃ fn tmps asg' body', (Instr.yield l xs.toArray).run P w = .ok (.round l fn tmps asg' body') w ∧ ∀ ro n, RoundIn (wideR ro) n P l fn tmps asg' body' w fun e w4 => e = .returned (.bool (jumpOf (some (0, e2))).isNone) ∧
      (∃ Ωo', JAt Xc w0 Ω1 ws tm (roundE (evC call N lx) (evC call N ly) ps wr) σ1 l b r0 (loopC lx ++ loopC ly) (t ++ [as]) Ωi w4 Ωo' σ2 (stOf t.length e2)) ∧ w.heap.size ≤ w4.heap.size ∧
      (∀ k, Ωi.mine k → w4.heap[k]? = w.heap[k]?) ∧ ∀ k off, Ωi.frozp k → off < Ωi.lim k → w4.cell? ⟨k, off, none⟩ = w.cell? ⟨k, off, none⟩ := by
  have hF0 := hF
  unfold roundE at hF
  split at hF
  case isFalse => cases hF
  rename_i hlen
  split at hF
  case h_2 => cases hF
  rename_i σa hA
  split at hF
  case h_2 => cases hF
  rename_i e2' σb hB
  simp only [Option.some.injEq, Prod.mk.injEq] at hF
  obtain ⟨rfl, rfl⟩ := hF
  obtain ⟨q1, q2, q3, q4⟩ := hr0
  have hxl : xs.length = ps.length := by rw [hd.length, hlen]
  have hrun := run_yield (P := P) (args := xs.toArray) h.rcd (by
    show xs.toArray.size = r0.params.size
    rw [List.size_toArray, hxl, ← q2, Array.length_toList])
  refine ⟨_, _, _, _, hrun, fun ro n => ?_⟩
  have htm : (r0.params.zip xs.toArray).foldl (fun tmps (p : Nat × Value) => tmps.setIfInBounds p.1 p.2) r0.tmps = (ps.zip xs).foldl (fun tm (p : Nat × Value) => tm.setIfInBounds p.1 p.2) tm := by
    rw [← Array.foldl_toList, Array.toList_zip, q1, q2]
  simp only at htm ⊢
  -- the state at the start of the round
  have hlt0 : l < ws.heap.size := by rw [S.hws]; exact Nat.lt_succ_self l
  have hlw : l < w.heap.size := Nat.lt_of_lt_of_le hlt0 h.kept.size
  have hmg := h.merge S
  have hlo : (Ωo.mg Ωi ws.heap.size).o l = .out := by rw [(mg_lt hlt0).1]; exact h.d1
  have htr := h.trn S
  have hdm : DenL (Ωo.mg Ωi ws.heap.size) w as xs := by
    refine DenL.itm ⟨fun k hf => ?_, fun k hf => ?_, fun _ _ _ _ => rfl⟩ hp hd
    · by_cases hk : ws.heap.size ≤ k
      · exact .inl (mg_frz hk hf).1
      · have hk := Nat.lt_of_not_le hk
        rw [froz_same (mg_lt hk).1]
        refine (h.a2 k ?_).1
        rcases itOwn_or Ω1 l b k with e | ⟨_, e⟩
        · exact absurd ((h.a1 k hk).1.trans e) (Own.froz_ne hf)
        · exact e
    · by_cases hk : ws.heap.size ≤ k
      · rw [(mg_frz hk hf).2]; exact Nat.le_refl _
      · have hk := Nat.lt_of_not_le hk
        rw [(mg_lt hk).2, (h.a1 k hk).2]
        refine (h.a2 k ?_).2
        rcases itOwn_or Ω1 l b k with e | ⟨_, e⟩
        · exact absurd ((h.a1 k hk).1.trans e) (Own.froz_ne hf)
        · exact e
  have hps : ∀ p ∈ ps, p < tm.size := fun p hm => hsz p (by rw [hwr]; simp [hm])
  obtain ⟨i1, i2, i3⟩ := inv_params ps as xs (inv_tm (ks := wr) hmg.rb rfl (fun _ _ => rfl)) hdm hlen hps
  rw [← htm] at i1 i2 i3
  refine roundIn_of_wpIn (F := wideR ro) trivial ?_
  show Code.wpIn (wideR (some l)) n P r0.assign _ _ w
  rw [q3, q4]
  have sc1 := sc.round S.plain hlo h.rcd (Ω := Ωo.mg Ωi ws.heap.size) (w := w)
  have hi0 : Inv ((Xc.rb (Ωo.mg Ωi ws.heap.size) w).df []) w (Ωo.mg Ωi ws.heap.size) w _ _ := i1.sc rfl rfl rfl (fun hj => ⟨hj, fun r hr => by cases hr⟩)
  have trA : σa.tr = none := (evC_tr lx hA).none (by simpa using htr)
  have trB : σb.tr = none := (evC_tr ly hB).none trA
  refine hx sc1 (.inl (S.plain.rb _ _)) (M := []) (df := []) List.nodup_nil (fun r hr => by cases hr) rfl hA (fun l hl => by rw [trA] at hl; cases hl) hi0 (fun d hd => by
    show d < Array.size _
    rw [i2]; exact hsz d (by rw [hwr]; simp [hd])) (by rw [ox]; intro d hd; cases hd) ⟨by rw [ox]; exact List.nodup_nil, by rw [ox]; intro d hd; cases hd⟩ ?_
  intro a1 w1 Ωa M1 A1
  have hM1 : M1 = [] := by
    rcases A1.same with e | ⟨_, e⟩
    · exact e
    · cases e
  subst hM1
  have inv1 : Inv (Xc.rb (Ωo.mg Ωi ws.heap.size) w) w Ωa w1 a1.tmps σa := A1.inv.sc rfl rfl rfl (fun hj => hj.1)
  have st1 : Stp (Ωo.mg Ωi ws.heap.size) Ωa w w1 := inv1.out.2
  have nml : ¬ (Ωo.mg Ωi ws.heap.size).mine l := fun hm => (mine_ne hm).1 hlo
  have rec1 : w1.heap[l]? = w.heap[l]? := st1.s.block l hlw nml
  have hla : Ωa.o l = .out := by rw [(st1.s.same l hlw nml).1]; exact hlo
  have invA : Inv Xc w0 Ωa w1 a1.tmps σa := hmg.unrb inv1
  rw [h.rcd] at rec1
  refine ⟨_, run_beginRound rec1 rfl, ?_⟩
  have hlw1 : l < w1.heap.size := (Array.getElem?_eq_some_iff.1 rec1).1
  have invA' := Plain.rcd (o := .loop { r0 with state := .busy, pending := jumpOf none }) S invA hla
  have rec2 := World.putObj_heap_same (w := w1) (o := .loop { r0 with state := .busy, pending := jumpOf none }) hlw1
  have sc2 := sc.round S.plain hla rec2 (Ω := Ωa)
  have hi2 := invA'.rb.sc (X' := (Xc.rb Ωa (w1.putObj l (.loop { r0 with state := .busy, pending := jumpOf none }))).df []) rfl rfl rfl (fun hj => ⟨hj, fun r hr => by cases hr⟩)
  refine hy sc2 (.inl (S.plain.rb _ _)) (M := []) (df := []) List.nodup_nil (fun r hr => by cases hr) A1.defers hB (fun l hl => by rw [trB] at hl; cases hl) hi2 (fun d hd => by
    rw [A1.size]
    show d < Array.size _
    rw [i2]; exact hsz d (by rw [hwr]; simp [hd])) (by rw [oy]; intro d hd; cases hd) ⟨by rw [oy]; exact List.nodup_nil, by rw [oy]; intro d hd; cases hd⟩ ?_
  intro a2 w3 Ωb M2 A2
  have hM2 : M2 = [] := by
    rcases A2.same with e | ⟨_, e⟩
    · exact e
    · cases e
  subst hM2
  have inv2 := A2.inv.sc (X' := Xc.rb Ωa (w1.putObj l (.loop { r0 with state := .busy, pending := jumpOf none }))) rfl rfl rfl (fun hj => hj.1)
  have st2 := inv2.out.2
  have nml2 : ¬ Ωa.mine l := fun hm => (mine_ne hm).1 hla
  have hlw2 : l < (w1.putObj l (.loop { r0 with state := .busy, pending := jumpOf none })).heap.size := by simpa using hlw1
  have rec3 := st2.s.block l hlw2 nml2
  rw [rec2] at rec3
  have hlb : Ωb.o l = .out := by rw [(st2.s.same l hlw2 nml2).1]; exact hla
  have invB : Inv Xc w0 Ωb w3 a2.tmps σb := invA'.unrb inv2
  -- what is kept of the slots
  have hsize : a2.tmps.size = tm.size := A2.size.trans (A1.size.trans i2)
  have hkeep : ∀ k, k ∉ wr → a2.tmps.getD k undef = tm.getD k undef := fun k hk => by
    rw [hwr] at hk
    simp only [List.mem_append, not_or] at hk
    rw [A2.keep k hk.2.2, A1.keep k hk.2.1]
    exact i3 k hk.1
  have invT := inv_tm (ks := wr) invB hsize hkeep
  -- the end of the round
  have fin : ∀ (j : Option Code), j = jumpOf (some (0, e2')) → ∃ v w', (Instr.endRound l j).run P w3 = .ok v w' ∧ (Ending.returned v = .returned (.bool (jumpOf (some (0, e2'))).isNone) ∧
      (∃ Ωo', JAt Xc w0 Ω1 ws tm (roundE (evC call N lx) (evC call N ly) ps wr) σ1 l b r0 (loopC lx ++ loopC ly) (t ++ [as]) Ωi w' Ωo' { σb with fr := dropL wr σb.fr } (stOf t.length e2')) ∧ w.heap.size ≤ w'.heap.size ∧
      (∀ k, Ωi.mine k → w'.heap[k]? = w.heap[k]?) ∧ ∀ k off, Ωi.frozp k → off < Ωi.lim k → w'.cell? ⟨k, off, none⟩ = w.cell? ⟨k, off, none⟩) := by
    intro j hj
    subst hj
    refine ⟨_, _, run_endRound _ rec3, rfl, ?_⟩
    generalize hw4 : w3.putObj l _ = w4
    have s3 : StpX l Ωb Ωb w3 w4 := hw4 ▸ StpX.put hlb
    have sx : StpX l (Ωo.mg Ωi ws.heap.size) Ωb w w4 := (st1.toX l).trans ((StpX.put hla).trans ((st2.toX l).trans s3))
    have nmi : ∀ k, ws.heap.size ≤ k → Ωi.o k ≠ .out → ¬ (Ωo.mg Ωi ws.heap.size).mine k := fun k hk hne hm => by
      rcases h.b1 k hk hne with e | ⟨e, _⟩
      · exact (mine_ne (h.mgMine hm)).1 e
      · exact (mine_ne (h.mgMine hm)).2 e
    have hnl : ∀ k, ws.heap.size ≤ k → k ≠ l := fun k hk e => by rw [S.hws] at hk; omega
    have kge : ∀ k, Ωi.mine k → ws.heap.size ≤ k := fun k hm => Nat.le_of_not_lt fun hlt => h.nm hlt hm
    refine ⟨⟨Ωb, ?_⟩, sx.size, fun k hm => sx.block k (h.c1 k (mine_ne hm).1) (nmi k (kge k hm) (mine_ne hm).1) (hnl k (kge k hm)), fun k off hf hl => ?_⟩
    · refine ⟨?_, ?_, ?_, h.a1, fun k hf => ?_, fun k hk hne => ?_, fun k hk => Nat.lt_of_lt_of_le (h.c1 k hk) sx.size, hlb, fun k hk hm => ?_, h.yl, ?_, fun d hf hd => ?_⟩
      · rw [foldR_snoc t 0 σ1 σo as h.fold, hF0, Nat.zero_add]
        cases e2' <;> rfl
      · rw [← hw4]; exact Plain.rcd S invT hlb
      · rw [← hw4, jump_stOf]
        exact World.putObj_heap_same (Array.getElem?_eq_some_iff.1 rec3).1
      · obtain ⟨g1, g2⟩ := h.a2 k hf
        obtain ⟨k1, k2⟩ := h.mgFroz g1
        exact ⟨sx.m.froz k k1, Nat.le_trans g2 (Nat.le_trans k2 (sx.m.lim k k1))⟩
      · obtain ⟨g1, g2⟩ := sx.same k (h.c1 k hne) (nmi k hk hne)
        rw [g1, g2]
        rcases h.mg k with ⟨k1, k2⟩ | ⟨_, hf, k1, k2, _⟩
        · rw [k1, k2]; exact h.b1 k hk hne
        · exact .inr ⟨k1, hf, by rw [k2]; exact Nat.le_refl _⟩
      · exact h.e1 k hk (h.mgMine (sx.mine hm (Nat.lt_of_lt_of_le hk h.kept.size)))
      · refine ⟨sx.os.trans h.kept.os, sx.tape.trans h.kept.tape, sx.output.trans h.kept.output, Nat.le_trans h.kept.size sx.size, fun k hk hxk => ?_⟩
        rw [sx.block k (Nat.lt_of_lt_of_le hk h.kept.size) (fun hm => hxk (.inl (h.e1 k hk (h.mgMine hm)))) (fun e => hxk (.inr e))]
        exact h.kept.block k hk hxk
      · simp only [List.mem_append, not_or] at hd
        have f0 := h.fresh d hf (by simp only [List.mem_append, not_or]; exact hd)
        have f1 : Fresh (Ωo.mg Ωi ws.heap.size) d := ⟨fun k hk => f0.1 k (h.mgBack hk (by simp)).1, fun k u p e hk => f0.2 k u p e (h.mgBack hk (by simp)).1⟩
        have f2 := A1.fresh d f1 (by rw [ox]; exact hd.1)
        exact A2.fresh d f2 (by rw [oy]; exact hd.2)
    · by_cases hk : ws.heap.size ≤ k
      · have hne := Own.frozp_ne hf
        exact World.cell?_of_block (sx.block k (h.c1 k hne) (nmi k hk hne) (hnl k hk))
      · have hk := Nat.lt_of_not_le hk
        obtain ⟨g1, g2⟩ := h.a1 k hk
        have hf1 : Ω1.froz k := by
          rcases itOwn_or Ω1 l b k with e | ⟨_, e⟩
          · exact absurd (g1.trans e) (Own.frozp_ne hf)
          · exact e
        obtain ⟨g3, g4⟩ := h.a2 k hf1
        obtain ⟨k1, k2⟩ := h.mgFroz g3
        exact sx.m.cell k off k1 (by rw [g2] at hl; omega)
  cases e2' with
  | normal => exact fin none rfl
  | exit id => exact fin (some (.exit id)) rfl
  | ret => exact fin (some .ret) rfl

/-! ### The statement -/
theorem enterLoop_inner {l1 : Nat} {r : Loop} (h : w.heap[l1]? = some (.loop r)) (fn : FuncId) (tmps : Array Value) (ps : Array Tmp) (assign body : Code) :
    (Instr.enterLoop fn tmps ps assign body (some l1)).run P w = .ok (w.heap.size, []) (w.alloc (.loop { state := .ready, pending := none, fn, tmps, params := ps, assign, body, defers := r.defers })) := by
  unfold Instr.enterLoop
  simp only [Sem.run_bind, run_getLoop h, run_newObj_alloc, Result.andThen, Sem.run_pure]
theorem below_alloc (w : World) (o : Obj) : Below w.heap.size w (w.alloc o) := ⟨rfl, rfl, rfl, by simp, fun _ hb => heap_alloc_lt w o hb⟩
theorem rng_core (hcall : CallsOk P call) {g : Operand} {g' : Opd} {ps : Array Tmp} {asg body : Code} {lx ly : LCode} (hx : CodeOk P call N asg lx) (hy : CodeOk P call N body ly) (ox : onceC lx = []) (oy : onceC ly = [])
    {X : Sc} {w0 : World} {T : List (List V)} {ro : Option Nat} {n : Nat} {Ω : Own} {w : World} {a : Act} {σ σ' : St} {ex : Ex} {Q : Exit → Act → World → Prop} {M : List Nat} {df : List Deferred} {f : Nat} {ts : List Nat} {pre post : List V} {xs1 xs2 : List Value}
    (sc : ScOk P X w0 T ro) (hMn : M.Nodup) (hMl : ∀ r ∈ M, w0.heap.size ≤ r) (hdf : a.defers = marks M ++ df) (h : Inv (X.df M) w0 Ω w a.tmps σ) (htr : σ.tr = none)
    (hev : rngE (roundE (evC call N lx) (evC call N ly) ps.toList (ps.toList ++ (dstsC lx ++ dstsC ly))) (fun a => call f (pre ++ .fn (.y a) [] :: post)) { σ with fr := dropL (ps.toList ++ (dstsC lx ++ dstsC ly)) σ.fr, tk := protT ts σ.tk } = some (ex, σ'))
    (hf : a.eval g = .func (.func f) xs1.toArray xs2.toArray) (hxs1 : DenL (Ω.prot ts) w pre xs1) (hxs2 : DenL (Ω.prot ts) w post xs2) (hpure1 : pureL pre = true) (hpure2 : pureL post = true) (hcs1 : (pre.all fun v => v.cells.all V.pm) = true) (hcs2 : (post.all fun v => v.cells.all V.pm) = true)
    (hdst : ∀ d ∈ dstsC (.rng g' ps.toList (ps.toList ++ (dstsC lx ++ dstsC ly)) lx ly), d < a.tmps.size)
    (hK : NextC X w0 ro Ω a M df σ' (dstsC (.rng g' ps.toList (ps.toList ++ (dstsC lx ++ dstsC ly)) lx ly)) (onceC (.rng g' ps.toList (ps.toList ++ (dstsC lx ++ dstsC ly)) lx ly) ++ loopC (.rng g' ps.toList (ps.toList ++ (dstsC lx ++ dstsC ly)) lx ly)) (Q ex.out)) :
    (Code.rangeFunc g ps asg body).wpIn (wideR ro) n P Q a w := by
  obtain ⟨b, T', hit, hfold⟩ := rngE_spec hev
  have hp : Plain X := by
    rcases sc.k with hp | hn
    · exact hp
    · have := h.out.1
      rw [htr] at this
      exact (hn Ω w this).elim
  have h1 := inv_tm (ks := ps.toList ++ (dstsC lx ++ dstsC ly)) (h.prot ts) rfl (fun _ _ => rfl)
  -- the function that is ranged over
  obtain ⟨R, hR, hRT⟩ : ∃ R, call f (pre ++ .fn (.y b) [] :: post) = some R ∧ itemsOf (some R) = some T' := by
    cases hc : call f (pre ++ .fn (.y b) [] :: post) with
    | none => rw [hc] at hit; cases hit
    | some R => rw [hc] at hit; exact ⟨R, rfl, hit⟩
  obtain ⟨hent, hok⟩ := hcall f _ R hR
  have hitok := hok.2 b pre post rfl
  -- the loop is entered
  generalize hσ1 : ({ σ with fr := dropL (ps.toList ++ (dstsC lx ++ dstsC ly)) σ.fr, tk := protT ts σ.tk } : St) = σ1 at hfold
  have h1 : Inv (X.df M) w0 (Ω.prot ts) w a.tmps σ1 := hσ1 ▸ h1
  have htr1 : σ1.tr = none := by rw [← hσ1]; exact htr
  obtain ⟨we, mk, dfr, M', hent1, hmk, hMn', hMl', hMs, hinv, hbe⟩ : ∃ (we : World) (mk : List Deferred) (dfr : Nat) (M' : List Nat), (∀ fn, (Instr.enterLoop fn a.tmps ps asg body ro).run P w = .ok (we.heap.size, mk)
        (we.alloc (.loop { state := .ready, pending := none, fn, tmps := a.tmps, params := ps, assign := asg, body := body, defers := dfr }))) ∧ mk ++ a.defers = marks M' ++ df ∧ M'.Nodup ∧ (∀ r ∈ M', w0.heap.size ≤ r) ∧ (M' = M ∨ (Plain X ∧ ro = none)) ∧
        Inv (X.df M') w0 (Ω.prot ts) we a.tmps σ1 ∧ Below w.heap.size w we := by
    cases ro with
    | none =>
      refine ⟨w.alloc (.deferred (some [])), [mark w.heap.size], w.heap.size, w.heap.size :: M, fun fn => ?_, ?_, ?_, fun r hr => ?_, .inr ⟨hp, rfl⟩, ?_, below_alloc _ _⟩
      · rw [run_enterLoop_outer, World.size_alloc]; rfl
      · rw [hdf]; rfl
      · refine List.nodup_cons.2 ⟨fun hm => ?_, hMn⟩
        have := (Array.getElem?_eq_some_iff.1 (h1.out.2 _ hm).2).1
        exact absurd this (Nat.lt_irrefl _)
      · rcases List.mem_cons.1 hr with rfl | hr
        · exact h1.kept.size
        · exact hMl r hr
      · have i1 := inv_below h1 (below_alloc w (.deferred (some [])))
        refine i1.sc rfl rfl rfl fun hj => ⟨hj.1, fun r hr => ?_⟩
        rcases List.mem_cons.1 hr with rfl | hr
        · exact ⟨fun hm => absurd (h1.bnd _ (mine_ne hm).1) (Nat.lt_irrefl _), World.alloc_heap_new w _⟩
        · exact hj.2 r hr
    | some l1 =>
      obtain ⟨r1, r2, r, r3⟩ := sc.r l1 rfl
      have hh := h.kept.block l1 r1 r2
      rw [r3] at hh
      exact ⟨w, [], r.defers, M, fun fn => enterLoop_inner hh fn _ _ _ _, by rw [hdf]; rfl, hMn, hMl, .inl rfl, h1, Go.RowKit.Below.refl _ _⟩
  refine wpIn_rangeFunc fun fn _ => ?_
  have hent2 := hent1 fn
  generalize hr0 : ({ state := .ready, pending := none, fn, tmps := a.tmps, params := ps, assign := asg, body := body, defers := dfr } : Loop) = r0 at hent2
  have hinvs := inv_below hinv (below_alloc we (.loop r0))
  have S : JS (X.df M') w0 (Ω.prot ts) we (we.alloc (.loop r0)) we.heap.size := by
    have hj := hinv.out
    rw [htr1] at hj
    exact ⟨hp.df M', rfl, by simp, hj, out_size hinv, hinv.kept.size, hinv.bnd⟩
  have hlt : ∀ k, (Ω.prot ts).o k ≠ .out → k < (we.alloc (.loop r0)).heap.size := fun k hk => by rw [S.hws]; exact Nat.lt_succ_of_lt (S.bnd k hk)
  have J0 : JAt (X.df M') w0 (Ω.prot ts) (we.alloc (.loop r0)) a.tmps (roundE (evC call N lx) (evC call N ly) ps.toList (ps.toList ++ (dstsC lx ++ dstsC ly))) σ1 we.heap.size b r0 (loopC lx ++ loopC ly) [] (itOwn (Ω.prot ts) we.heap.size b) (we.alloc (.loop r0)) (Ω.prot ts) σ1 none := by
    refine ⟨rfl, hinvs, ?_, fun _ _ => ⟨rfl, rfl⟩, fun k hk => ⟨hk, Nat.le_refl _⟩, fun k hk hne => ?_, fun k hk => ?_, S.lo, fun _ _ h => h, rfl, Kept.refl _ _, fun d hd _ => hd⟩
    · rw [World.alloc_heap_new, ← hr0]; rfl
    · rcases itOwn_or (Ω.prot ts) we.heap.size b k with e | ⟨_, e⟩
      · exact absurd e hne
      · exact absurd (hlt k (Own.froz_ne e)) (Nat.not_lt_of_le hk)
    · rcases itOwn_or (Ω.prot ts) we.heap.size b k with e | ⟨_, e⟩
      · exact absurd e hk
      · exact hlt k (Own.froz_ne e)
  have hm : ExtM (Ω.prot ts) (itOwn (Ω.prot ts) we.heap.size b) w (we.alloc (.loop r0)) := by
    refine ⟨fun k hk => .inl ?_, fun _ _ => Nat.le_refl _, fun k off hk _ => ?_⟩
    · rcases itOwn_or (Ω.prot ts) we.heap.size b k with e | ⟨e, _⟩
      · simp only [itOwn, froz_iff.1 hk, if_true] at e; cases e
      · exact e
    · have hk1 := h1.bnd k (Own.froz_ne hk)
      refine World.cell?_of_block ?_
      rw [heap_alloc_lt we _ (Nat.lt_of_lt_of_le hk1 hbe.size), hbe.block k hk1]
  have hY : YieldOk P (itSc (X.df M') w0 (Ω.prot ts) (we.alloc (.loop r0)) a.tmps (roundE (evC call N lx) (evC call N ly) ps.toList (ps.toList ++ (dstsC lx ++ dstsC ly))) σ1 we.heap.size b r0 (loopC lx ++ loopC ly)) (we.alloc (.loop r0)) T' := by
    refine ⟨fun Ωi wi hj => (by obtain ⟨t, _, _, _, _, _, e, _⟩ := hj; cases e), fun ro' n' b' l' tr as ys Ωi wi hj hyl hd hpm hpre => ?_⟩
    obtain ⟨Ωo, σo, st, J⟩ := itSc_at S hj
    have hlb := J.yl
    rw [hyl] at hlb
    injection hlb with hlb
    injection hlb with e1 e2
    subst e1; subst e2
    obtain ⟨σo', e2, σ2, k1, k2, k3⟩ := hfold.at hpre
    have hfo := J.fold
    rw [k1] at hfo
    injection hfo with hfo
    injection hfo with e3 e4
    subst e3; subst e4
    have scd : ScOk P (X.df M') w0 T ro := ⟨sc.y.df (.inl hp), .inl (hp.df M'), sc.r⟩
    obtain ⟨fn', tmps', asg', body', q1, q2⟩ := round_ok hx hy ox oy scd rfl (fun d hd => hdst d (by simpa [dstsC] using hd)) S (by rw [← hr0]; exact ⟨rfl, rfl, rfl, rfl⟩) J hd hpm k2
    refine ⟨fn', tmps', asg', body', q1, RoundIn.mono (q2 ro' n') fun e w4 he => ?_⟩
    obtain ⟨g1, ⟨Ωo', g2⟩, g3, g4, g5⟩ := he
    exact ⟨by rw [k3]; exact g1, itSc_of g2, g2.kept, g3, g4, g5⟩
  have hC := hitok T' hRT _ (itOwn (Ω.prot ts) we.heap.size b) (we.alloc (.loop r0)) we.heap.size xs1 xs2 (base_itOwn hlt) rfl hpure1 hpure2 (DenL.itm hm hcs1 hxs1) (DenL.itm hm hcs2 hxs2) rfl rfl (itSc_of J0) (fun _ _ hj => (by obtain ⟨t, _, _, _, _, _, e, _⟩ := hj; cases e)) hY
  refine ⟨we.heap.size, mk, we.alloc (.loop r0), { target := .fn (.func f) xs2.toArray, args := xs1.toArray ++ #[Value.func (.yield we.heap.size) #[] #[]] }, we.alloc (.loop r0), f, _, we.alloc (.loop r0), hent2, ?_, fun _ _ => trivial, ?_, fun h => by simp [wideR, Fence.wide] at h, CallsIn.mono (callsIn_wideR hC) fun e w1 he => ?_⟩
  · simp only [resolve, hf, Deferred.ofValue, Sem.run_pure]
    congr 2
    apply Array.ext'; simp [Act.eval]
  · simp only [invoke, run_callFunc hent]
    congr 2
    apply Array.ext'; simp
  · obtain ⟨x, Ωi, rfl, hj⟩ := he
    obtain ⟨Ωo, σo, st, J⟩ := itSc_at S hj
    obtain ⟨st', hf1, hf2⟩ := hfold.fold
    have hfo := J.fold
    rw [hf1] at hfo
    injection hfo with hfo
    injection hfo with e3 e4
    subst e3; subst e4
    have hend := run_endLoop (P := P) J.rcd (by simp only; split <;> simp)
    refine ⟨jumpOf st', w1.putObj we.heap.size (.loop { r0 with state := .exhausted, pending := jumpOf st' }), hend, ?_⟩
    have hfin := Plain.rcd (o := .loop { r0 with state := .exhausted, pending := jumpOf st' }) S J.inv J.d1
    have hnext := hK { a with defers := mk ++ a.defers } _ Ωo M' ⟨rfl, hmk, hMn', hMl', hMs, fun _ _ => rfl, hfin, fun d hd hds => J.fresh d ⟨fun k hk => hd.1 k (prot_box hk), fun k u p e hk => by
      obtain ⟨q, hq, _⟩ := prot_arr hk
      exact hd.2 k u q e hq⟩ (by simpa [onceC, loopC] using hds)⟩
    revert hnext
    generalize jumpOf st' = j at hf2
    subst hf2
    intro hnext
    cases ex with
    | normal => exact hnext
    | exit id => exact wpIn_exit hnext
    | ret => exact wpIn_ret hnext
theorem rng_sound (hcall : CallsOk P call) {g : Operand} {g' : Opd} {ps : Array Tmp} {asg body : Code} {lx ly : LCode} (hg : opdC g = some g') (hx : CodeOk P call N asg lx) (hy : CodeOk P call N body ly) (ox : onceC lx = []) (oy : onceC ly = []) :
    CodeOk P call N (.rangeFunc g ps asg body) (.rng g' ps.toList (ps.toList ++ (dstsC lx ++ dstsC ly)) lx ly) := by
  intro X w0 T ro n Ω w a σ σ' ex Q M df sc hpl hMn hMl hdf hev hT h hdst hfr hon hK
  simp only [evC] at hev
  split at hev
  · rename_i f caps htr hop
    split at hev
    case h_2 => cases hev
    rename_i cs ts hfrz
    split at hev
    case isFalse => cases hev
    rename_i hcs
    have hden := opd_sound h hg hop
    simp only [Den, Fk.Is] at hden
    obtain ⟨xs, hf, hxs⟩ := hden
    obtain ⟨hxs1, hpure, _⟩ := DenL.frzE (ps := ts) caps cs ts xs hfrz (fun t ht => memN_self ht) hxs
    exact rng_core hcall hx hy ox oy sc hMn hMl hdf h htr (pre := []) (post := cs) (xs1 := []) hev hf DenL.nil hxs1 rfl hpure rfl hcs hdst hK
  · rename_i f caps htr hop
    split at hev
    case h_2 => cases hev
    rename_i cs ts hfrz
    split at hev
    case isFalse => cases hev
    rename_i hcs
    have hden := opd_sound h hg hop
    simp only [Den, Fk.Is] at hden
    obtain ⟨xs, hf, hxs⟩ := hden
    obtain ⟨hxs1, hpure, _⟩ := DenL.frzE (ps := ts) caps cs ts xs hfrz (fun t ht => memN_self ht) hxs
    exact rng_core hcall hx hy ox oy sc hMn hMl hdf h htr (pre := cs) (post := []) (xs2 := []) hev hf hxs1 DenL.nil hpure rfl hcs rfl hdst hK
  · cases hev
end
end Go.Lo

/- Control. -/
namespace Go.Lo
section
variable {P : Program} {call : Nat → List V → Option V}

theorem once_loop : ∀ (c : Code) {kp : Nat → List Nat} {lc : LCode}, codeC P kp true c = some lc → onceC lc = []
  | c, kp, lc, h => by
    induction c generalizing lc with
    | region id ops draw =>
      simp only [codeC] at h
      unfold regC at h
      generalize (if draw = true then Region.before ops else #[]) = b at h
      simp only at h
      split at h
      · split at h
        · split at h
          · rename_i hl _
            simp only [Option.some.injEq] at h; subst h; simp [onceC]
          · cases h
        · simp only [Option.some.injEq] at h; subst h; rfl
      · cases h
    | seq a b iha ihb =>
      simp only [codeC] at h
      split at h
      · rename_i x y hx hy
        simp only [Option.some.injEq] at h; subst h
        simp [onceC, iha _ hx, ihb _ hy]
      · cases h
    | cond c a b iha ihb =>
      simp only [codeC] at h
      split at h
      · rename_i c' x y hc hx hy
        simp only [Option.some.injEq] at h; subst h
        simp [onceC, iha _ hx, ihb _ hy]
      · cases h
    | block id a iha =>
      simp only [codeC] at h
      split at h
      · rename_i x hx
        simp only [Option.some.injEq] at h; subst h
        simp [onceC, iha _ hx]
      · cases h
    | loop a iha =>
      simp only [codeC] at h
      split at h
      · simp only [Option.some.injEq] at h; subst h; rfl
      · cases h
    | rangeFunc g ps a b iha ihb =>
      simp only [codeC] at h
      split at h
      · simp only [Option.some.injEq] at h; subst h; rfl
      · cases h
    | _ => simp only [codeC, Option.some.injEq] at h; subst h; rfl
theorem least {R : Nat → Prop} (h : ∃ k, R k) : ∃ k, R k ∧ ∀ j, R j → k ≤ j := by
  obtain ⟨k, hk⟩ := h
  induction k using Nat.strongRecOn with
  | _ k ih =>
    by_cases hj : ∃ j, j < k ∧ R j
    · obtain ⟨j, hlt, hr⟩ := hj
      exact ih j hlt hr
    · refine ⟨k, hk, fun j hr => ?_⟩
      apply Decidable.byContradiction
      intro hlt
      exact hj ⟨j, by omega, hr⟩
/-- Behind nothing. -/
theorem Arr.here {X : Sc} {w0 w : World} {ro : Option Nat} {Ω : Own} {a : Act} {M : List Nat} {df : List Deferred} {σ : St} {ks ds : List Nat} (hn : M.Nodup) (hl : ∀ r ∈ M, w0.heap.size ≤ r) (hd : a.defers = marks M ++ df) (h : Inv (X.df M) w0 Ω w a.tmps σ) :
    Arr X w0 ro Ω a M df σ ks ds a w Ω M := ⟨rfl, hd, hn, hl, .inl rfl, fun _ _ => rfl, h, fun _ hf _ => hf⟩
/-- One behind the other. -/
theorem Arr.trans {X : Sc} {w0 w1 w2 : World} {ro : Option Nat} {Ω Ω1 Ω2 : Own} {a a1 a2 : Act} {M M1 M2 : List Nat} {df : List Deferred} {σ1 σ2 : St} {ks1 ds1 ks2 ds2 ks ds : List Nat} (h : Arr X w0 ro Ω a M df σ1 ks1 ds1 a1 w1 Ω1 M1) (k : Arr X w0 ro Ω1 a1 M1 df σ2 ks2 ds2 a2 w2 Ω2 M2)
    (hk : ∀ s, s ∉ ks → s ∉ ks1 ∧ s ∉ ks2) (hd : ∀ s, s ∉ ds → s ∉ ds1 ∧ s ∉ ds2) : Arr X w0 ro Ω a M df σ2 ks ds a2 w2 Ω2 M2 := by
  refine ⟨k.size.trans h.size, k.defers, k.nodup, k.low, ?_, fun s hs => (k.keep s (hk s hs).2).trans (h.keep s (hk s hs).1), k.inv, fun d hf hds => k.fresh d (h.fresh d hf (hd d hds).1) (hd d hds).2⟩
  rcases k.same with e | e
  · rw [e]; exact h.same
  · exact .inr e
theorem Arr.mono {X : Sc} {w0 w1 : World} {ro : Option Nat} {Ω Ω1 : Own} {a a1 : Act} {M M1 : List Nat} {df : List Deferred} {σ1 : St} {ks1 ds1 ks ds : List Nat} (h : Arr X w0 ro Ω a M df σ1 ks1 ds1 a1 w1 Ω1 M1)
    (hk : ∀ s, s ∉ ks → s ∉ ks1) (hd : ∀ s, s ∉ ds → s ∉ ds1) : Arr X w0 ro Ω a M df σ1 ks ds a1 w1 Ω1 M1 :=
  ⟨h.size, h.defers, h.nodup, h.low, h.same, fun s hs => h.keep s (hk s hs), h.inv, fun d hf hds => h.fresh d hf (hd d hds)⟩
theorem Arr.pl {X : Sc} {w0 w1 : World} {ro : Option Nat} {Ω Ω1 : Own} {a a1 : Act} {M M1 : List Nat} {df : List Deferred} {σ1 : St} {ks1 ds1 : List Nat} (h : Arr X w0 ro Ω a M df σ1 ks1 ds1 a1 w1 Ω1 M1) (hp : Plain X ∨ M = []) : Plain X ∨ M1 = [] := by
  rcases h.same with e | e
  · rw [e]; exact hp
  · exact .inl e.1
theorem code_sound (hcall : CallsOk P call) (hmix : P.follows .mixedOrders = true) {N : Nat} {kp : Nat → List Nat} : ∀ (c : Code) {lp : Bool} {lc : LCode}, codeC P kp lp c = some lc → CodeOk P call N c lc := by
  intro c
  induction c with
  | skip =>
    intro lp lc hc X w0 T ro n Ω w a σ σ' ex Q M df sc hpl hMn hMl hdf hev hT h hdst hfr hon hK
    simp only [codeC, Option.some.injEq] at hc; subst hc
    simp only [evC, Option.some.injEq, Prod.mk.injEq] at hev
    obtain ⟨rfl, rfl⟩ := hev
    exact wpIn_skip (hK a w Ω M (.here hMn hMl hdf h))
  | exit id =>
    intro lp lc hc X w0 T ro n Ω w a σ σ' ex Q M df sc hpl hMn hMl hdf hev hT h hdst hfr hon hK
    simp only [codeC, Option.some.injEq] at hc; subst hc
    simp only [evC, Option.some.injEq, Prod.mk.injEq] at hev
    obtain ⟨rfl, rfl⟩ := hev
    exact wpIn_exit (hK a w Ω M (.here hMn hMl hdf h))
  | ret =>
    intro lp lc hc X w0 T ro n Ω w a σ σ' ex Q M df sc hpl hMn hMl hdf hev hT h hdst hfr hon hK
    simp only [codeC, Option.some.injEq] at hc; subst hc
    simp only [evC, Option.some.injEq, Prod.mk.injEq] at hev
    obtain ⟨rfl, rfl⟩ := hev
    exact wpIn_ret (hK a w Ω M (.here hMn hMl hdf h))
  | region id ops draw =>
    intro lp lc hc X w0 T ro n Ω w a σ σ' ex Q M df sc hpl hMn hMl hdf hev hT h hdst hfr hon hK
    simp only [codeC] at hc
    refine region_sound (sc.y.df hpl) hT hcall hmix hc h hev hdst hfr (fun hex => ?_)
    subst hex
    intro a' w' Ω' hsz hdf' htm hinv hfresh
    exact hK a' w' Ω' M ⟨hsz, hdf'.trans hdf, hMn, hMl, .inl rfl, htm, hinv, hfresh⟩
  | seq x y ihx ihy =>
    intro lp lc hc X w0 T ro n Ω w a σ σ' ex Q M df sc hpl hMn hMl hdf hev hT h hdst hfr hon hK
    simp only [codeC] at hc
    split at hc
    · rename_i lx ly hx hy
      simp only [Option.some.injEq] at hc; subst hc
      obtain ⟨hon1, hon2⟩ := hon
      simp only [onceC, loopC, dstsC, List.mem_append] at hon1 hon2 hdst hfr hK
      rw [List.nodup_append] at hon1
      have honx : Once lx := ⟨hon1.1, fun d hd hl => hon2 d (.inl hd) (.inl hl)⟩
      have hony : Once ly := ⟨hon1.2.1, fun d hd hl => hon2 d (.inr hd) (.inr hl)⟩
      simp only [evC] at hev
      refine wpIn_seq ?_
      split at hev
      · rename_i σ1 h1
        refine ihx hx sc hpl hMn hMl hdf h1 ((evC_tr ly hev).upTo hT) h (fun d hd => hdst d (.inl hd)) (fun d hd => hfr d (.inl hd)) honx ?_
        intro a' w' Ω' M' A
        refine ihy hy sc (A.pl hpl) A.nodup A.low A.defers hev hT A.inv (fun d hd => by rw [A.size]; exact hdst d (.inr hd)) (fun d hd => A.fresh d (hfr d (.inr hd)) (fun hm => ?_)) hony ?_
        · rcases List.mem_append.1 hm with hm | hm
          · exact hon1.2.2 d hm d hd rfl
          · exact hon2 d (.inr hd) (.inl hm)
        · intro a'' w'' Ω'' M'' B
          refine hK a'' w'' Ω'' M'' (A.trans B (fun s hs => ?_) (fun s hs => ?_))
          · simp only [List.mem_append, not_or] at hs; exact hs
          · simp only [List.mem_append, not_or] at hs ⊢; exact ⟨⟨hs.1.1, hs.2.1⟩, ⟨hs.1.2, hs.2.2⟩⟩
      · rename_i hne
        refine ihx hx sc hpl hMn hMl hdf hev hT h (fun d hd => hdst d (.inl hd)) (fun d hd => hfr d (.inl hd)) honx ?_
        intro a' w' Ω' M' A
        have := hK a' w' Ω' M' (A.mono (fun s hs => by simp only [List.mem_append, not_or] at hs; exact hs.1) (fun s hs => by
          simp only [List.mem_append, not_or] at hs ⊢
          exact ⟨hs.1.1, hs.2.1⟩))
        cases ex with
        | normal => exact (hne _ hev).elim
        | exit id => exact this
        | ret => exact this
    · cases hc
  | cond c x y ihx ihy =>
    intro lp lc hc X w0 T ro n Ω w a σ σ' ex Q M df sc hpl hMn hMl hdf hev hT h hdst hfr hon hK
    simp only [codeC] at hc
    split at hc
    · rename_i c' lx ly hcc hx hy
      simp only [Option.some.injEq] at hc; subst hc
      obtain ⟨hon1, hon2⟩ := hon
      simp only [onceC, loopC, dstsC, List.mem_append] at hon1 hon2 hdst hfr hK
      rw [List.nodup_append] at hon1
      simp only [evC] at hev
      split at hev
      · rename_i t ht
        have hd := opd_sound h hcc ht
        simp only [Den] at hd
        refine wpIn_cond hd ?_
        cases t with
        | true =>
          simp only [if_true] at hev ⊢
          refine ihx hx sc hpl hMn hMl hdf hev hT h (fun d hd => hdst d (.inl hd)) (fun d hd => hfr d (.inl hd)) ⟨hon1.1, fun d hd hl => hon2 d (.inl hd) (.inl hl)⟩ ?_
          intro a' w' Ω' M' A
          exact hK a' w' Ω' M' (A.mono (fun s hs => by simp only [List.mem_append, not_or] at hs; exact hs.1) (fun s hs => by
            simp only [List.mem_append, not_or] at hs ⊢; exact ⟨hs.1.1, hs.2.1⟩))
        | false =>
          simp only [Bool.false_eq_true, if_false] at hev ⊢
          refine ihy hy sc hpl hMn hMl hdf hev hT h (fun d hd => hdst d (.inr hd)) (fun d hd => hfr d (.inr hd)) ⟨hon1.2.1, fun d hd hl => hon2 d (.inr hd) (.inr hl)⟩ ?_
          intro a' w' Ω' M' A
          exact hK a' w' Ω' M' (A.mono (fun s hs => by simp only [List.mem_append, not_or] at hs; exact hs.2) (fun s hs => by
            simp only [List.mem_append, not_or] at hs ⊢; exact ⟨hs.1.2, hs.2.2⟩))
      · cases hev
    · cases hc
  | block id x ih =>
    intro lp lc hc X w0 T ro n Ω w a σ σ' ex Q M df sc hpl hMn hMl hdf hev hT h hdst hfr hon hK
    simp only [codeC] at hc
    split at hc
    · rename_i lx hx
      simp only [Option.some.injEq] at hc; subst hc
      simp only [evC] at hev
      refine wpIn_block ?_
      split at hev
      · rename_i j σ1 h1
        split at hev
        · rename_i hj
          simp only [Option.some.injEq, Prod.mk.injEq] at hev
          obtain ⟨rfl, rfl⟩ := hev
          refine ih hx sc hpl hMn hMl hdf h1 hT h hdst hfr hon ?_
          intro a' w' Ω' M' A
          simp only [Ex.out, Exit.inBlock, if_pos hj]
          exact hK a' w' Ω' M' A
        · rename_i hj
          simp only [Option.some.injEq, Prod.mk.injEq] at hev
          obtain ⟨rfl, rfl⟩ := hev
          refine ih hx sc hpl hMn hMl hdf h1 hT h hdst hfr hon ?_
          intro a' w' Ω' M' A
          simp only [Ex.out, Exit.inBlock, if_neg hj]
          exact hK a' w' Ω' M' A
      · rename_i hne
        refine ih hx sc hpl hMn hMl hdf hev hT h hdst hfr hon ?_
        intro a' w' Ω' M' A
        have := hK a' w' Ω' M' A
        cases ex with
        | normal => exact this
        | exit id => exact (hne _ _ hev).elim
        | ret => exact this
    · cases hc
  | loop x ih =>
    intro lp lc hc X w0 T ro n Ω w a σ σ' ex Q M df sc hpl hMn hMl hdf hev hT h hdst hfr hon hK
    simp only [codeC] at hc
    split at hc
    · rename_i lx hx
      simp only [Option.some.injEq] at hc; subst hc
      simp only [evC] at hev
      have honce := once_loop x hx
      simp only [onceC, loopC, dstsC, List.nil_append] at hdst hK
      -- what holds before a round, with so many rounds at most
      let R : Nat → Act → World → Prop := fun k a1 w1 => ∃ Ω1 σ1 M1, Arr X w0 ro Ω a M df σ1 (dstsC lx) (loopC lx) a1 w1 Ω1 M1 ∧ iter (evC call N lx) k σ1 = some (ex, σ')
      let μ : Act → World → Nat := fun a1 w1 => open Classical in if hk : ∃ k, R k a1 w1 then Classical.choose (least hk) else 0
      have hμ : ∀ k a1 w1, R k a1 w1 → R (μ a1 w1) a1 w1 ∧ μ a1 w1 ≤ k := by
        intro k a1 w1 hk
        have hex : ∃ k, R k a1 w1 := ⟨k, hk⟩
        have hs := Classical.choose_spec (least hex)
        simp only [μ, dif_pos hex]
        exact ⟨hs.1, hs.2 k hk⟩
      refine wpIn_loop (fun a1 w1 => ∃ k, R k a1 w1) μ ⟨N, Ω, σ, M, .here hMn hMl hdf h, hev⟩ ?_
      rintro a1 w1 ⟨k, hk⟩
      obtain ⟨⟨Ω1, σ1, M1, A, hit⟩, _⟩ := hμ k a1 w1 hk
      generalize hm : μ a1 w1 = m at hit
      cases m with
      | zero => simp [iter] at hit
      | succ m =>
        simp only [iter] at hit
        split at hit
        · rename_i σ2 h2
          refine ih hx sc (A.pl hpl) A.nodup A.low A.defers h2 ((iter_tr (fun _ _ _ h => evC_tr lx h) hit).upTo hT) A.inv (fun d hd => by rw [A.size]; exact hdst d hd) (fun d hd => by rw [honce] at hd; cases hd) ⟨by rw [honce]; exact List.nodup_nil, fun d hd => by rw [honce] at hd; cases hd⟩ ?_
          intro a' w' Ω' M' B
          have hR : R m a' w' := ⟨Ω', σ2, M', A.trans B (fun s hs => ⟨hs, hs⟩) (fun s hs => ⟨hs, by rw [honce, List.nil_append]; exact hs⟩), hit⟩
          refine ⟨⟨m, hR⟩, ?_⟩
          have := (hμ m a' w' hR).2
          omega
        · rename_i hne
          refine ih hx sc (A.pl hpl) A.nodup A.low A.defers hit hT A.inv (fun d hd => by rw [A.size]; exact hdst d hd) (fun d hd => by rw [honce] at hd; cases hd) ⟨by rw [honce]; exact List.nodup_nil, fun d hd => by rw [honce] at hd; cases hd⟩ ?_
          intro a' w' Ω' M' B
          have := hK a' w' Ω' M' (A.trans B (fun s hs => ⟨hs, hs⟩) (fun s hs => ⟨hs, by rw [honce, List.nil_append]; exact hs⟩))
          cases ex with
          | normal => exact (hne _ hit).elim
          | exit id => exact this
          | ret => exact this
    · cases hc
  | rangeFunc g ps x y ihx ihy =>
    intro lp lc hc
    simp only [codeC] at hc
    split at hc
    · rename_i g' lx ly hg hx hy
      simp only [Option.some.injEq] at hc; subst hc
      exact rng_sound hcall hg (ihx hx) (ihy hy) (once_loop x hx) (once_loop y hy)
    · cases hc
  | _ =>
    intro lp lc hc X w0 T ro n Ω w a σ σ' ex Q M df sc hpl hMn hMl hdf hev hT h hdst hfr hon hK
    simp only [codeC, Option.some.injEq] at hc; subst hc
    simp only [evC] at hev
    cases hev
end
end Go.Lo

/- Function bodies. -/
namespace Go.Lo
open Go.RowKit (Below)
section
variable {P : Program} {X : Sc} {w0 w : World} {Ω : Own} {call : Nat → List V → Option V} {σ : St}

theorem loadAt_var {t : TypeId} {ad : Addr} : (Instr.loadAt t (.pointer (some ad))).run P w = (loadVar t ad).run P w := by
  simp [Instr.loadAt, Instr.sureAddr]
def readRV (tm : Array Value) : ResultVar → Sem Value
  | .tmp t => pure (tm.getD t undef)
  | .cell a t => do loadVar t (← asAddr (tm.getD a undef))
theorem run_results {fn : Func} {tm : Array Value} {xs : List Value} (h : (fn.results.toList.mapM (readRV tm)).run P w = .ok xs w) : (results fn tm).run P w = .ok (if h : xs.length = 1 then xs[0] else .tuple xs.toArray) w := by
  change (do
    let vs ← fn.results.mapM (readRV tm)
    pure (if h : vs.size = 1 then vs[0] else Value.tuple vs) : Sem Value).run P w = _
  rw [Array.mapM_eq_mapM_toList, Sem.run_bind, Sem.run_map, h]
  simp only [Result.andThen_ok]
  rfl
/-- The results, read. -/
theorem rvs_sound {tm : Array Value} (h : Inv X w0 Ω w tm σ) : ∀ {rs : List ResultVar} {ls : List RV} {vs : List V}, rvsC P rs = some ls → rvs σ.fr ls = some vs →
    ∃ xs, (rs.mapM (readRV tm)).run P w = .ok xs w ∧ DenL Ω w vs xs
  | [], ls, vs, hc, hv => by
    simp only [rvsC, Option.some.injEq] at hc; subst hc
    simp only [rvs, Option.some.injEq] at hv; subst hv
    exact ⟨[], by simp, DenL.nil⟩
  | r :: rs, ls, vs, hc, hv => by
    simp only [rvsC] at hc
    split at hc
    · rename_i x xs hx hxs
      simp only [Option.some.injEq] at hc; subst hc
      cases r with
      | tmp t =>
        simp only [rvC, Option.some.injEq] at hx; subst hx
        simp only [rvs] at hv
        split at hv
        · rename_i v vs' h1 h2
          simp only [Option.some.injEq] at hv; subst hv
          obtain ⟨ys, g1, g2⟩ := rvs_sound h hxs h2
          have hd := opd_sound (a := { tmps := tm, defers := [] }) h (x := .tmp t) (y := .t t) rfl h1
          refine ⟨tm.getD t undef :: ys, ?_, DenL.cons hd g2⟩
          simp only [List.mapM_cons, readRV, Sem.run_bind, Sem.run_pure, Result.andThen_ok, g1]
        · cases hv
      | cell ad t =>
        simp only [rvC] at hx
        split at hx
        · rename_i n hn
          simp only [Option.some.injEq] at hx; subst hx
          simp only [rvs] at hv
          split at hv
          · rename_i cs vs' h1 h2
            split at hv
            · rename_i v hp
              simp only [Option.some.injEq] at hv; subst hv
              obtain ⟨ys, g1, g2⟩ := rvs_sound h hxs h2
              obtain ⟨_, hs⟩ := h.slot ad _ h1
              simp only [DenS] at hs
              obtain ⟨b, zs, T, e1, e2, e3, e4, e5⟩ := hs
              obtain ⟨y, k1, k2⟩ := load_cells (P := P) (base := 0) (off := 0) (b := b) hn e4 (fun j z hj => by
                rw [Nat.zero_add, cell_of_row w b j _ T (0, 0) e3]
                simpa using hj) hp
              rw [loadAt_var] at k1
              refine ⟨y :: ys, ?_, DenL.cons k2 g2⟩
              simp only [Nat.add_zero] at k1
              simp only [List.mapM_cons, readRV, Sem.run_bind, Sem.run_pure, Result.andThen_ok, g1, e1, asAddr, k1]
            · cases hv
          · cases hv
        · cases hx
    · cases hc
end
end Go.Lo

/- What a function gives back. -/
namespace Go.Lo
section
variable {w : World} {Ω Ω1 : Own} {tk : List (Nat × Nat × Bool)}

def posN (t : Nat) : List Nat → Option Nat
  | [] => none
  | x :: xs => if x = t then some 0 else (posN t xs).map (· + 1)
theorem posN_get : ∀ {l : List Nat} {t k : Nat}, posN t l = some k → l[k]? = some t
  | x :: xs, t, k, h => by
    simp only [posN] at h
    split at h
    · rename_i e; injection h with h; subst h; subst e; rfl
    · cases hp : posN t xs with
      | none => rw [hp] at h; cases h
      | some j =>
        rw [hp] at h
        simp only [Option.map_some, Option.some.injEq] at h; subst h
        simpa using posN_get hp
theorem posN_of : ∀ {l : List Nat} {t k : Nat}, l.Nodup → l[k]? = some t → posN t l = some k
  | x :: xs, t, 0, hn, h => by simp only [List.getElem?_cons_zero, Option.some.injEq] at h; simp [posN, h]
  | x :: xs, t, k + 1, hn, h => by
    simp only [List.getElem?_cons_succ] at h
    have hne : x ≠ t := fun e => (List.nodup_cons.1 hn).1 (e ▸ List.mem_of_getElem? h)
    simp only [posN, if_neg hne, posN_of (List.nodup_cons.1 hn).2 h, Option.map_some]
/-- The own map for the caller. 'U': the arrays that are given with their ownership. -/
def Own.fin (Ω B : Own) (n0 : Nat) (U : List Nat) : Own where
  o b := if b < n0 then B.o b else match Ω.o b with
    | .arr t p => (match posN t U with
      | some k => .arr k p
      | none => .frz)
    | .frz => .frz
    | _ => .out
  lim b := if b < n0 then B.lim b else Ω.lim b
  cur k := match U[k]? with
    | some t => Ω.cur t
    | none => none
  tsz k := match U[k]? with
    | some t => Ω.tsz t
    | none => 0
/-- Threading: what was listed stays listed; nothing is listed twice. -/
structure Lists (us us' : List Nat × List Nat) : Prop where
  pre : us.1 <+: us'.1
  sub : ∀ t ∈ us.2, t ∈ us'.2
  nodup : us.1.Nodup → us'.1.Nodup
  apart : (∀ t ∈ us.1, t ∉ us.2) → ∀ t ∈ us'.1, t ∉ us'.2
theorem Lists.refl (us : List Nat × List Nat) : Lists us us := ⟨List.prefix_refl _, fun _ h => h, fun h => h, fun h => h⟩
theorem Lists.trans {a b c : List Nat × List Nat} (h : Lists a b) (k : Lists b c) : Lists a c :=
  ⟨h.pre.trans k.pre, fun t ht => k.sub t (h.sub t ht), fun x => k.nodup (h.nodup x), fun x => k.apart (h.apart x)⟩
theorem Lists.dum {us gs : List Nat} (h : dumOk us gs = true) : Lists (us, gs) (us ++ [dumT us.length], gs) := by
  unfold dumOk at h
  simp only [Bool.and_eq_true, Bool.not_eq_true'] at h
  refine ⟨List.prefix_append _ _, fun _ h => h, fun hn => ?_, fun ha s hs => ?_⟩
  · rw [List.nodup_append]
    refine ⟨hn, by simp, fun a ha b hb e => ?_⟩
    rw [List.mem_singleton] at hb
    subst hb; subst e
    exact not_mem_of_memN h.1 ha
  · rcases List.mem_append.1 hs with hs | hs
    · exact ha s hs
    · rw [List.mem_singleton] at hs; subst hs
      exact not_mem_of_memN h.2
mutual
theorem fin_lists : ∀ (v v' : V) (us us' : List Nat × List Nat), v.fin tk us = some (v', us') → Lists us us'
  | .bool _, v', us, us', h => by simp only [V.fin, Option.some.injEq, Prod.mk.injEq] at h; rw [← h.2]; exact Lists.refl us
  | .int _ _, v', us, us', h => by simp only [V.fin, Option.some.injEq, Prod.mk.injEq] at h; rw [← h.2]; exact Lists.refl us
  | .nil, v', (us, gs), us', h => by
    simp only [V.fin] at h
    split at h
    · rename_i hd
      simp only [Option.some.injEq, Prod.mk.injEq] at h
      rw [← h.2]
      exact Lists.dum hd
    · cases h
  | .sl none _ _, v', (us, gs), us', h => by
    simp only [V.fin] at h
    split at h
    · rename_i hd
      simp only [Option.some.injEq, Prod.mk.injEq] at h
      rw [← h.2]
      exact Lists.dum hd
    · cases h
  | .sl (some t) sz es, v', (us, gs), us', h => by
    simp only [V.fin] at h
    split at h
    · cases h
    · rename_i hu
      have hu : t ∉ us := not_mem_of_memN (by simpa using hu)
      split at h
      · rename_i hc
        simp only [Option.some.injEq, Prod.mk.injEq] at h
        rw [← h.2]
        refine ⟨List.prefix_append _ _, fun _ h => h, fun hn => ?_, fun ha s hs => ?_⟩
        · rw [List.nodup_append]
          refine ⟨hn, by simp, fun a ha b hb e => ?_⟩
          rw [List.mem_singleton] at hb
          subst hb; subst e
          exact hu ha
        · rcases List.mem_append.1 hs with hs | hs
          · exact ha s hs
          · rw [List.mem_singleton] at hs; subst hs
            exact not_mem_of_memN hc.2
      · split at h
        · rename_i hd
          simp only [Option.some.injEq, Prod.mk.injEq] at h
          rw [← h.2]
          refine Lists.trans (b := (us, t :: gs)) ⟨List.prefix_refl _, fun s hs => List.mem_cons_of_mem _ hs, fun hn => hn, fun ha s hs => ?_⟩ (Lists.dum hd)
          intro hm
          rcases List.mem_cons.1 hm with rfl | hm
          · exact hu hs
          · exact ha s hs hm
        · cases h
  | .agg cs, v', us, us', h => by
    simp only [V.fin] at h
    split at h
    · rename_i cs' us2 h2
      simp only [Option.some.injEq, Prod.mk.injEq] at h
      rw [← h.2]
      exact finL_lists cs cs' us us2 h2
    · cases h
  | .und, v', us, us', h => by simp [V.fin] at h
  | .dead, v', us, us', h => by simp [V.fin] at h
  | .tup _, v', us, us', h => by simp [V.fin] at h
  | .gref _, v', us, us', h => by simp only [V.fin, Option.some.injEq, Prod.mk.injEq] at h; rw [← h.2]; exact Lists.refl us
  | .np, v', us, us', h => by simp only [V.fin, Option.some.injEq, Prod.mk.injEq] at h; rw [← h.2]; exact Lists.refl us
  | .fn (.f f) cs, v', us, us', h => by
    simp only [V.fin] at h
    split at h
    · simp only [Option.some.injEq, Prod.mk.injEq] at h; rw [← h.2]; exact Lists.refl us
    · cases h
  | .fn (.m _) _, v', us, us', h => by simp [V.fin] at h
  | .fn (.y _) _, v', us, us', h => by simp [V.fin] at h
  | .ref _ _, v', us, us', h => by simp [V.fin] at h
  | .cref _, v', us, us', h => by simp [V.fin] at h
  | .eref _ _ _ _ _, v', us, us', h => by simp [V.fin] at h
  | .box _, v', us, us', h => by simp [V.fin] at h
  | .mbox _, v', us, us', h => by simp [V.fin] at h
  | .mref _, v', us, us', h => by simp [V.fin] at h
theorem finL_lists : ∀ (vs vs' : List V) (us us' : List Nat × List Nat), finL tk vs us = some (vs', us') → Lists us us'
  | [], vs', us, us', h => by simp only [finL, Option.some.injEq, Prod.mk.injEq] at h; rw [← h.2]; exact Lists.refl us
  | v :: vs, vs', us, us', h => by
    simp only [finL] at h
    split at h
    · rename_i v' us1 h1
      split at h
      · rename_i vs2 us2 h2
        simp only [Option.some.injEq, Prod.mk.injEq] at h
        rw [← h.2]
        exact (fin_lists v v' us us1 h1).trans (finL_lists vs vs2 us1 us2 h2)
      · cases h
    · cases h
end
/-- What must be known of the two own maps. -/
structure FinOk (Ω Ω1 : Own) (w : World) (U G : List Nat) : Prop where
  ext : ExtM Ω Ω1 w w
  lim : ∀ b t p, Ω.o b = .arr t p → Ω.lim b = Ω1.lim b
  own : ∀ b t p k, Ω.o b = .arr t p → U[k]? = some t → Ω1.o b = .arr k p ∧ Ω1.tsz k = Ω.tsz t ∧ Ω1.cur k = Ω.cur t
  give : ∀ b t p, Ω.o b = .arr t p → t ∈ G → Ω1.froz b
mutual
theorem Den.fin {U G : List Nat} (hf : FinOk Ω Ω1 w U G) : ∀ (v v' : V) (us us' : List Nat × List Nat) (x : Value), v.fin tk us = some (v', us') → us'.1 <+: U → (∀ t ∈ us'.2, t ∈ G) → Den Ω w v x → Den Ω1 w v' x
  | .bool _, v', us, us', x, h, _, _, hd => by simp only [V.fin, Option.some.injEq, Prod.mk.injEq] at h; rw [← h.1]; exact hd
  | .int _ _, v', us, us', x, h, _, _, hd => by simp only [V.fin, Option.some.injEq, Prod.mk.injEq] at h; rw [← h.1]; exact hd
  | .nil, v', (us, gs), us', x, h, _, _, hd => by
    simp only [V.fin] at h
    split at h
    · simp only [Option.some.injEq, Prod.mk.injEq] at h; rw [← h.1]; exact hd
    · cases h
  | .sl none sz es, v', (us, gs), us', x, h, _, _, hd => by
    simp only [V.fin] at h
    split at h
    · simp only [Option.some.injEq, Prod.mk.injEq] at h; rw [← h.1]
      exact Den.extM hf.ext _ _ rfl hd
    · cases h
  | .sl (some t) sz es, v', (us, gs), us', x, h, hp, hg, hd => by
    simp only [V.fin] at h
    simp only [Den] at hd
    obtain ⟨b, cap, p, h1, h2, h3, h4, h5⟩ := hd
    have hE : DenE Ω1 w es sz b 0 := DenE.extM hf.ext es sz b 0 (Nat.le_of_eq (hf.lim b t p h2)) (fun _ _ => rfl) h5
    split at h
    · cases h
    · split at h
      · simp only [Option.some.injEq, Prod.mk.injEq] at h
        obtain ⟨rfl, rfl⟩ := h
        have hk : U[us.length]? = some t := by
          obtain ⟨r, rfl⟩ := hp
          simp
        obtain ⟨g1, g2, g3⟩ := hf.own b t p us.length h2 hk
        simp only [Den]
        exact ⟨b, cap, p, h1, g1, by rw [g2]; exact h3, by rw [g3]; exact h4, hE⟩
      · split at h
        · simp only [Option.some.injEq, Prod.mk.injEq] at h
          obtain ⟨rfl, rfl⟩ := h
          simp only [Den]
          exact .inr ⟨b, 0, cap, h1, hf.give b t p h2 (hg t (by simp)), hE⟩
        · cases h
  | .agg cs, v', us, us', x, h, hp, hg, hd => by
    simp only [V.fin] at h
    split at h
    · rename_i cs' us2 h2
      simp only [Option.some.injEq, Prod.mk.injEq] at h
      obtain ⟨rfl, rfl⟩ := h
      simp only [Den] at hd ⊢
      obtain ⟨xs, h3, h4⟩ := hd
      exact ⟨xs, h3, DenL.fin hf cs cs' us us2 xs h2 hp hg h4⟩
    · cases h
  | .und, v', us, us', x, h, _, _, _ => by simp [V.fin] at h
  | .dead, v', us, us', x, h, _, _, _ => by simp [V.fin] at h
  | .tup _, v', us, us', x, h, _, _, _ => by simp [V.fin] at h
  | .gref cs, v', us, us', x, h, _, _, hd => by
    simp only [V.fin, Option.some.injEq, Prod.mk.injEq] at h; rw [← h.1]
    exact Den.extM hf.ext _ _ rfl hd
  | .np, v', us, us', x, h, _, _, hd => by simp only [V.fin, Option.some.injEq, Prod.mk.injEq] at h; rw [← h.1]; exact hd
  | .fn (.f f) cs, v', us, us', x, h, _, _, hd => by
    simp only [V.fin] at h
    split at h
    · rename_i hp
      simp only [Option.some.injEq, Prod.mk.injEq] at h; rw [← h.1]
      simp only [Den] at hd ⊢
      obtain ⟨xs, h1, h2⟩ := hd
      exact ⟨xs, h1, DenL.extMa hf.ext cs xs hp h2⟩
    · cases h
  | .fn (.m _) _, v', us, us', x, h, _, _, _ => by simp [V.fin] at h
  | .fn (.y _) _, v', us, us', x, h, _, _, _ => by simp [V.fin] at h
  | .ref _ _, v', us, us', x, h, _, _, _ => by simp [V.fin] at h
  | .cref _, v', us, us', x, h, _, _, _ => by simp [V.fin] at h
  | .eref _ _ _ _ _, v', us, us', x, h, _, _, _ => by simp [V.fin] at h
  | .box _, v', us, us', x, h, _, _, _ => by simp [V.fin] at h
  | .mbox _, v', us, us', x, h, _, _, _ => by simp [V.fin] at h
  | .mref _, v', us, us', x, h, _, _, _ => by simp [V.fin] at h
theorem DenL.fin {U G : List Nat} (hf : FinOk Ω Ω1 w U G) : ∀ (vs vs' : List V) (us us' : List Nat × List Nat) (xs : List Value), finL tk vs us = some (vs', us') → us'.1 <+: U → (∀ t ∈ us'.2, t ∈ G) → DenL Ω w vs xs → DenL Ω1 w vs' xs
  | [], vs', us, us', xs, h, _, _, hd => by
    simp only [finL, Option.some.injEq, Prod.mk.injEq] at h; rw [← h.1]
    simpa [DenL] using hd
  | v :: vs, vs', us, us', xs, h, hp, hg, hd => by
    simp only [finL] at h
    split at h
    · rename_i v' us1 h1
      split at h
      · rename_i vs2 us2 h2
        simp only [Option.some.injEq, Prod.mk.injEq] at h
        obtain ⟨rfl, rfl⟩ := h
        simp only [DenL] at hd
        obtain ⟨x, ys, rfl, h3, h4⟩ := hd
        have hl := finL_lists vs vs2 us1 us2 h2
        exact DenL.cons (Den.fin hf v v' us us1 x h1 (hl.pre.trans hp) (fun t ht => hg t (hl.sub t ht)) h3) (DenL.fin hf vs vs2 us1 us2 ys h2 hp hg h4)
      · cases h
    · cases h
end
mutual
/-- The arrays of what is given back. -/
theorem fin_tks {U : List Nat} : ∀ (v v' : V) (us us' : List Nat × List Nat), v.fin tk us = some (v', us') → us'.1 <+: U → ∀ k n, (k, n) ∈ v'.tks → ∃ t, U[k]? = some t ∧ get tk t = some (n, true)
  | .bool _, v', us, us', h, _, k, n, hk => by simp only [V.fin, Option.some.injEq, Prod.mk.injEq] at h; rw [← h.1] at hk; simp [V.tks] at hk
  | .int _ _, v', us, us', h, _, k, n, hk => by simp only [V.fin, Option.some.injEq, Prod.mk.injEq] at h; rw [← h.1] at hk; simp [V.tks] at hk
  | .nil, v', (us, gs), us', h, _, k, n, hk => by
    simp only [V.fin] at h
    split at h
    · simp only [Option.some.injEq, Prod.mk.injEq] at h; rw [← h.1] at hk; simp [V.tks] at hk
    · cases h
  | .sl none _ _, v', (us, gs), us', h, _, k, n, hk => by
    simp only [V.fin] at h
    split at h
    · simp only [Option.some.injEq, Prod.mk.injEq] at h; rw [← h.1] at hk; simp [V.tks] at hk
    · cases h
  | .sl (some t) sz es, v', (us, gs), us', h, hp, k, n, hk => by
    simp only [V.fin] at h
    split at h
    · cases h
    · split at h
      · rename_i hc
        simp only [Option.some.injEq, Prod.mk.injEq] at h
        obtain ⟨rfl, rfl⟩ := h
        simp only [V.tks, List.mem_singleton, Prod.mk.injEq] at hk
        obtain ⟨rfl, rfl⟩ := hk
        obtain ⟨r, rfl⟩ := hp
        exact ⟨t, by simp, hc.1⟩
      · split at h
        · simp only [Option.some.injEq, Prod.mk.injEq] at h
          obtain ⟨rfl, rfl⟩ := h
          simp [V.tks] at hk
        · cases h
  | .agg cs, v', us, us', h, hp, k, n, hk => by
    simp only [V.fin] at h
    split at h
    · rename_i cs' us2 h2
      simp only [Option.some.injEq, Prod.mk.injEq] at h
      obtain ⟨rfl, rfl⟩ := h
      exact finL_tks cs cs' us us2 h2 hp k n (by simpa [V.tks] using hk)
    · cases h
  | .und, v', us, us', h, _, _, _, _ => by simp [V.fin] at h
  | .dead, v', us, us', h, _, _, _, _ => by simp [V.fin] at h
  | .tup _, v', us, us', h, _, _, _, _ => by simp [V.fin] at h
  | .gref _, v', us, us', h, _, k, n, hk => by simp only [V.fin, Option.some.injEq, Prod.mk.injEq] at h; rw [← h.1] at hk; simp [V.tks] at hk
  | .np, v', us, us', h, _, k, n, hk => by simp only [V.fin, Option.some.injEq, Prod.mk.injEq] at h; rw [← h.1] at hk; simp [V.tks] at hk
  | .fn (.f f) cs, v', us, us', h, _, k, n, hk => by
    simp only [V.fin] at h
    split at h
    · simp only [Option.some.injEq, Prod.mk.injEq] at h; rw [← h.1] at hk; simp [V.tks] at hk
    · cases h
  | .fn (.m _) _, v', us, us', h, _, _, _, _ => by simp [V.fin] at h
  | .fn (.y _) _, v', us, us', h, _, _, _, _ => by simp [V.fin] at h
  | .ref _ _, v', us, us', h, _, _, _, _ => by simp [V.fin] at h
  | .cref _, v', us, us', h, _, _, _, _ => by simp [V.fin] at h
  | .eref _ _ _ _ _, v', us, us', h, _, _, _, _ => by simp [V.fin] at h
  | .box _, v', us, us', h, _, _, _, _ => by simp [V.fin] at h
  | .mbox _, v', us, us', h, _, _, _, _ => by simp [V.fin] at h
  | .mref _, v', us, us', h, _, _, _, _ => by simp [V.fin] at h
theorem finL_tks {U : List Nat} : ∀ (vs vs' : List V) (us us' : List Nat × List Nat), finL tk vs us = some (vs', us') → us'.1 <+: U → ∀ k n, (k, n) ∈ tksL vs' → ∃ t, U[k]? = some t ∧ get tk t = some (n, true)
  | [], vs', us, us', h, _, k, n, hk => by
    simp only [finL, Option.some.injEq, Prod.mk.injEq] at h; rw [← h.1] at hk
    simp [tksL] at hk
  | v :: vs, vs', us, us', h, hp, k, n, hk => by
    simp only [finL] at h
    split at h
    · rename_i v' us1 h1
      split at h
      · rename_i vs2 us2 h2
        simp only [Option.some.injEq, Prod.mk.injEq] at h
        obtain ⟨rfl, rfl⟩ := h
        simp only [tksL, List.mem_append] at hk
        rcases hk with hk | hk
        · exact fin_tks v v' us us1 h1 ((finL_lists vs vs2 us1 us2 h2).pre.trans hp) k n hk
        · exact finL_tks vs vs2 us1 us2 h2 hp k n hk
      · cases h
    · cases h
end
end
end Go.Lo

/- Functions. -/
namespace Go.Lo
open Go.RowKit (Below)
section
variable {P : Program} {X : Sc} {w0 w : World} {Ω Ω0 : Own} {call : Nat → List V → Option V} {σ : St} {tm : Array Value}

/-- A walk that may turn nothing that was there. -/
def scOf (Ω0 : Own) : Sc where
  x _ := False
  o := Ω0.o
  lim := Ω0.lim
  j tr Ω _ := tr = none ∧ Ω.yl = none
  st h s := ⟨h.1, s.yl.trans h.2⟩
theorem plain_scOf (Ω0 : Own) : Plain (scOf Ω0) := ⟨fun _ _ _ h => h.1, fun _ _ _ _ _ _ _ _ h g => ⟨h.1, g.yl.trans h.2⟩⟩
/-- The marks are taken. -/
structure Taken (M : List Nat) (w w' : World) : Prop where
  os : w'.os = w.os
  tape : w'.tape = w.tape
  output : w'.output = w.output
  size : w'.heap.size = w.heap.size
  block : ∀ b, b ∉ M → w'.heap[b]? = w.heap[b]?
  gone : ∀ b, b ∈ M → w'.heap[b]? = some (.deferred none)
theorem leaves_marks {P : Program} {F : Fence} {n : Nat} {fn : Func} {tmps : Array Value} {R : Ending → World → Prop} : ∀ (M : List Nat) (w : World), M.Nodup → (∀ r ∈ M, w.heap[r]? = some (.deferred (some []))) →
    (∀ w', Taken M w w' → LeavesIn F n P fn tmps R [] .returning w') → LeavesInM F n P fn tmps R (marks M) .returning w
  | [], w, _, _, h => h w ⟨rfl, rfl, rfl, rfl, fun _ _ => rfl, fun _ hb => by cases hb⟩
  | r :: M, w, hn, hM, h => by
    obtain ⟨h1, h2⟩ := List.nodup_cons.1 hn
    refine ⟨by simp, .inl ⟨r, w.putObj r (.deferred none), rfl, run_takeDeferred (hM r (by simp)), ?_⟩⟩
    have hlt := (Array.getElem?_eq_some_iff.1 (hM r (by simp))).1
    refine leaves_marks M _ h2 (fun s hs => ?_) fun w' t => h w' ⟨t.os, t.tape, t.output, t.size.trans World.putObj_size, fun b hb => ?_, fun b hb => ?_⟩
    · rw [World.putObj_heap_other (fun e => h1 (by subst e; exact hs))]; exact hM s (by simp [hs])
    · simp only [List.mem_cons, not_or] at hb
      rw [t.block b hb.2, World.putObj_heap_other hb.1]
    · by_cases hs : b ∈ M
      · exact t.gone b hs
      · rcases List.mem_cons.1 hb with rfl | hb
        · rw [t.block b hs, World.putObj_heap_same hlt]
        · exact absurd hb hs
theorem inv_taken {M : List Nat} {w' : World} {Ωs : Own} {ws : World} (hp : Plain X) (hs : X.j none Ωs ws) (hws : ∀ r ∈ M, ws.heap.size ≤ r) (h : Inv (X.df M) w0 Ω w tm σ) (hl : ∀ r ∈ M, w0.heap.size ≤ r) (t : Taken M w w') : Inv X w0 Ω w' tm σ := by
  have h0 : Inv X w0 Ω w tm σ := h.sc rfl rfl rfl fun hj => hj.1
  have htr := hp.1 _ _ _ h0.out
  have key : ∀ b off, w'.cell? ⟨b, off, none⟩ = w.cell? ⟨b, off, none⟩ := fun b off => by
    by_cases hb : b ∈ M
    · unfold World.cell?
      rw [t.gone b hb, (h.out.2 b hb).2]
    · exact World.cell?_of_block (t.block b hb)
  refine h0.other (tr' := σ.tr) ⟨t.os.trans h0.kept.os, t.tape.trans h0.kept.tape, t.output.trans h0.kept.output, by rw [t.size]; exact h0.kept.size, fun b hb hX => ?_⟩ (Nat.le_of_eq t.size.symm) (fun b hm => t.block b fun hb => (h.out.2 b hb).1 hm) (fun b off _ _ => key b off) ?_
  · rw [t.block b (fun hm => absurd (hl b hm) (Nat.not_le_of_lt hb))]; exact h0.kept.block b hb hX
  · have hj := h0.out
    rw [htr] at hj ⊢
    exact hp.2 none Ωs ws Ω Ω w w' hs hj ⟨t.os, t.tape, t.output, Nat.le_of_eq t.size.symm, fun b hb => t.block b (fun hm => absurd (hws b hm) (Nat.not_le_of_lt hb)), fun _ _ => ⟨rfl, rfl⟩, fun _ h => h, fun b hb => by rw [t.size]; exact h0.bnd b hb, rfl⟩
theorem itemsL_tups : ∀ (l : List (List V)), itemsL (tupsL l) = some l
  | [] => rfl
  | x :: l => by simp only [tupsL, itemsL, itemsL_tups l]
theorem pure_ranged : ∀ {args : List V}, pureL args = true → ranged args = false
  | [], _ => rfl
  | v :: vs, h => by
    simp only [pureL] at h
    split at h
    · rename_i hv
      have ih := pure_ranged h
      cases v <;> first | exact ih | skip
      rename_i f cs
      cases f with
      | f n => exact ih
      | m n => exact ih
      | y b => simp [V.pure] at hv
    · cases h
theorem ranged_mid {y : Nat} {post : List V} : ∀ {pre : List V}, ranged (pre ++ .fn (.y y) [] :: post) = true
  | [] => rfl
  | v :: vs => by
    have ih := ranged_mid (y := y) (post := post) (pre := vs)
    cases v <;> first | exact ih | skip
    rename_i f cs
    cases f with
    | f n => exact ih
    | m n => exact ih
    | y b => rfl
theorem finOk (h : Inv (scOf Ω0) w0 Ω w tm σ) {U G : List Nat} (hU : U.Nodup) (ha : ∀ t ∈ U, t ∉ G) : FinOk Ω (Ω.fin Ω0 w0.heap.size U) w U G := by
  have new : ∀ b t p, Ω.o b = .arr t p → ¬ b < w0.heap.size := fun b t p hb hlt => h.oldArr hlt (fun x => x) t p hb
  refine ⟨⟨fun b hb => ?_, fun b hb => ?_, fun _ _ _ _ => rfl⟩, fun b t p hb => ?_, fun b t p k hb hk => ?_, fun b t p hb hg => ?_⟩
  · by_cases hlt : b < w0.heap.size
    · have := (h.old b hlt (fun x => x)).1
      rcases hb with hb | ⟨t, hb⟩
      · exact .inl (by simp only [Own.fin, if_pos hlt]; rw [← hb, this]; rfl)
      · exact (new b t true hb hlt).elim
    · rcases hb with hb | ⟨t, hb⟩
      · exact .inl (by simp only [Own.fin, if_neg hlt, hb])
      · cases hp : posN t U with
        | none => exact .inl (by simp only [Own.fin, if_neg hlt, hb, hp])
        | some k => exact .inr ⟨k, by simp only [Own.fin, if_neg hlt, hb, hp]⟩
  · by_cases hlt : b < w0.heap.size
    · have := (h.old b hlt (fun x => x)).2
      simp only [Own.fin, if_pos hlt]
      rw [this]; exact Nat.le_refl _
    · simp only [Own.fin, if_neg hlt]; exact Nat.le_refl _
  · simp only [Own.fin, if_neg (new b t p hb)]
  · refine ⟨by simp only [Own.fin, if_neg (new b t p hb), hb, posN_of hU hk], by simp only [Own.fin, hk], by simp only [Own.fin, hk]⟩
  · cases hp : posN t U with
    | none => exact .inl (by simp only [Own.fin, if_neg (new b t p hb), hb, hp])
    | some k => exact (ha t (List.mem_of_getElem? (posN_get hp)) hg).elim
theorem fin_tok (h : Inv (scOf Ω0) w0 Ω w tm σ) (hb0 : Base Ω0 w0) {U : List Nat} (hU : U.Nodup) {k n t : Nat} (hk : U[k]? = some t) (ht : get σ.tk t = some (n, true)) : TokOk (Ω.fin Ω0 w0.heap.size U) w k n true := by
  obtain ⟨c, q, T, xs, g1, ⟨p, g2⟩, g3, g4, g5, g6, g7, g8⟩ := h.tok t n true ht
  have hc : ¬ c < w0.heap.size := fun hlt => h.oldArr hlt (fun x => x) t p g2
  refine ⟨c, q, T, xs, by simp only [Own.fin, hk, g1], ⟨p, by simp only [Own.fin, if_neg hc, g2, posN_of hU hk]⟩, g3, by simp only [Own.fin, hk]; exact g4, g5, by simp only [Own.fin, if_neg hc, hk]; exact g6, by simp only [Own.fin, hk]; exact g7, fun _ b p' hb => ?_⟩
  simp only [Own.fin] at hb
  split at hb
  · rcases hb0.o b with e | e | e <;> rw [e] at hb <;> cases hb
  · split at hb
    · rename_i t' p2 h2
      split at hb
      · rename_i k' hp
        injection hb with e1 e2
        subst e1; subst e2
        have := posN_get hp
        rw [hk] at this
        injection this with this; subst this
        exact g8 rfl b _ h2
      · cases hb
    · cases hb
    · cases hb
theorem one_tks {vs : List V} {k n : Nat} (h : (k, n) ∈ (one vs).tks) : (k, n) ∈ tksL vs := by
  unfold one at h
  split at h
  · simpa [tksL] using h
  · simpa [V.tks] using h
theorem one_den {vs : List V} {xs : List Value} (h : DenL Ω w vs xs) : Den Ω w (one vs) (if h : xs.length = 1 then xs[0] else .tuple xs.toArray) := by
  unfold one
  split
  · rename_i v
    simp only [DenL] at h
    obtain ⟨x, ys, rfl, h1, rfl⟩ := h
    simpa using h1
  · rename_i hne
    have hl := h.length
    have : ¬ xs.length = 1 := fun e => by
      rw [hl] at e
      obtain ⟨v, rfl⟩ := List.length_eq_one_iff.1 e
      exact hne v rfl
    rw [dif_neg this]
    simp only [Den]
    exact ⟨xs, rfl, h⟩
theorem params_get : ∀ {vs : List V} {k s : Nat} {v : V}, get (params k vs) s = some v → ∃ j, s = k + j ∧ vs[j]? = some v
  | [], k, s, v, h => by simp [params, get] at h
  | u :: vs, k, s, v, h => by
    simp only [params, get] at h
    split at h
    · rename_i e
      injection h with h; subst h; subst e
      exact ⟨0, rfl, rfl⟩
    · obtain ⟨j, e, hj⟩ := params_get h
      exact ⟨j + 1, by omega, by simpa using hj⟩
theorem deadL_get : ∀ {l : List Nat} {s : Nat} {v : V}, get (deadL l) s = some v → s ∈ l ∧ v = .dead
  | [], s, v, h => by simp [deadL, get] at h
  | k :: l, s, v, h => by
    simp only [deadL, get] at h
    split at h
    · rename_i e
      injection h with h; subst h; subst e
      exact ⟨by simp, rfl⟩
    · obtain ⟨h1, h2⟩ := deadL_get h
      exact ⟨by simp [h1], h2⟩
theorem get_append {α : Type} : ∀ {a b : List (Nat × α)} {s : Nat} {v : α}, get (a ++ b) s = some v → get a s = some v ∨ get b s = some v
  | [], b, s, v, h => .inr h
  | (k, u) :: a, b, s, v, h => by
    simp only [List.cons_append, get] at h ⊢
    split at h
    · rename_i e; rw [if_pos e]; exact .inl h
    · rename_i e; rw [if_neg e]; exact get_append h
theorem inv_start (X : Sc) {tr0 : Option (List (List V))} (ho : X.o = Ω0.o) (hlm : X.lim = Ω0.lim) (hj : X.j tr0 Ω0 w) (hb : Base Ω0 w) {args : List V} {xs : List Value} (hd : DenL Ω0 w args xs) (n : Nat) {sl : List Nat} (hsl : ∀ s ∈ sl, s < xs.length + n) :
    Inv X w Ω0 w (xs.toArray ++ Array.replicate n undef) { fr := params 0 args ++ deadL sl, tk := [], tr := tr0 } where
  kept := Kept.refl _ _
  ownB b s h := by rcases hb.o b with e | e | e <;> rw [e] at h <;> cases h
  ownA b t p h := by rcases hb.o b with e | e | e <;> rw [e] at h <;> cases h
  bnd := hb.bnd
  uniq b b' s h := by rcases hb.o b with e | e | e <;> rw [e] at h <;> cases h
  limB b s h := by rcases hb.o b with e | e | e <;> rw [e] at h <;> cases h
  slot s v hs := by
    rcases get_append hs with hs | hs
    case inr =>
      obtain ⟨h1, rfl⟩ := deadL_get hs
      exact ⟨by simp only [Array.size_append, List.size_toArray, Array.size_replicate]; exact hsl s h1, by simp [DenS, Den]⟩
    obtain ⟨j, e, hj⟩ := params_get hs
    rw [Nat.zero_add] at e; subst e
    obtain ⟨x, hx, hv⟩ := hd.get hj
    have hlt := (List.getElem?_eq_some_iff.1 hx).1
    refine ⟨by simp only [Array.size_append, List.size_toArray]; omega, DenS.of ?_⟩
    have : (xs.toArray ++ Array.replicate n undef).getD s undef = x := by
      rw [Array.getD_eq_getD_getElem?, Array.getElem?_append_left (by simpa using hlt)]
      simp [hx]
    rw [this]; exact hv
  tok t n wr h := by simp [get] at h
  old _ _ _ := by rw [ho, hlm]; exact ⟨rfl, rfl⟩
  out := hj
theorem fresh_start (hb : Base Ω0 w) (d : Nat) : Fresh Ω0 d := by
  refine ⟨fun b h => ?_, fun b t p _ h => ?_⟩ <;> rcases hb.o b with e | e | e <;> rw [e] at h <;> cases h
/-! ### Boxes that are given away -/
def Own.giv (Ω : Own) (w : World) (bs : List Nat) : Own where
  o b := match Ω.o b with
    | .box s => if memN s bs = true then .frz else .box s
    | x => x
  lim b := match Ω.o b with
    | .box s => if memN s bs = true then blkSize w b else Ω.lim b
    | _ => Ω.lim b
  cur := Ω.cur
  tsz := Ω.tsz
  yl := Ω.yl
theorem giv_box {w : World} {bs : List Nat} {b s : Nat} (h : (Ω.giv w bs).o b = .box s) : Ω.o b = .box s ∧ memN s bs = false := by
  simp only [Own.giv] at h
  cases ho : Ω.o b <;> rw [ho] at h <;> simp only [reduceCtorEq] at h
  rename_i u
  split at h
  · cases h
  · rename_i hm
    injection h with h; subst h
    exact ⟨rfl, by simpa using hm⟩
theorem giv_arr {w : World} {bs : List Nat} {b t : Nat} {p : Bool} (h : (Ω.giv w bs).o b = .arr t p) : Ω.o b = .arr t p := by
  simp only [Own.giv] at h
  cases ho : Ω.o b <;> rw [ho] at h <;> simp only [reduceCtorEq] at h
  · split at h <;> cases h
  · exact h
theorem giv_same {w : World} {bs : List Nat} {b : Nat} (h : ∀ s, Ω.o b ≠ .box s) : (Ω.giv w bs).o b = Ω.o b ∧ (Ω.giv w bs).lim b = Ω.lim b := by
  simp only [Own.giv]
  cases ho : Ω.o b <;> simp_all
theorem giv_ne {w : World} {bs : List Nat} {b : Nat} (h : (Ω.giv w bs).o b ≠ .out) : Ω.o b ≠ .out := by
  intro e
  exact h (by rw [(giv_same (by intro s; rw [e]; simp)).1, e])
theorem giv_extM {w : World} {bs : List Nat} : ExtM Ω (Ω.giv w bs) w w := by
  have key : ∀ b, Ω.froz b → ∀ s, Ω.o b ≠ .box s := fun b hb s e => by
    rcases hb with hb | ⟨t, hb⟩ <;> rw [e] at hb <;> cases hb
  refine ⟨fun b hb => ?_, fun b hb => Nat.le_of_eq (giv_same (key b hb)).2.symm, fun _ _ _ _ => rfl⟩
  unfold Own.froz
  rw [(giv_same (key b hb)).1]
  exact hb
theorem Inv.giv {X : Sc} (h : Inv X w0 Ω w tm σ) (bs : List Nat) : Inv X w0 (Ω.giv w bs) w tm { fr := [], tk := σ.tk, tr := σ.tr } where
  kept := h.kept
  ownB b s hb := h.ownB b s (giv_box hb).1
  ownA b t p hb := h.ownA b t p (giv_arr hb)
  bnd b hb := h.bnd b (giv_ne hb)
  uniq b b' s hb hb' := h.uniq b b' s (giv_box hb).1 (giv_box hb').1
  limB b s hb := by
    obtain ⟨h1, h2⟩ := giv_box hb
    simp only [Own.giv, h1, h2, Bool.false_eq_true, if_false]
    exact h.limB b s h1
  slot s v hs := by simp [get] at hs
  tok t n wr ht := by
    obtain ⟨c, k, T, xs, g1, ⟨p, g2⟩, g3, g4, g5, g6, g7, g8⟩ := h.tok t n wr ht
    have hc := giv_same (Ω := Ω) (w := w) (bs := bs) (b := c) (by intro s; rw [g2]; simp)
    exact ⟨c, k, T, xs, g1, ⟨p, by rw [hc.1, g2]⟩, g3, g4, g5, by rw [hc.2]; exact g6, g7, fun hw b q hb => g8 hw b q (giv_arr hb)⟩
  old b hb hX := by
    obtain ⟨h1, h2⟩ := giv_same (Ω := Ω) (w := w) (bs := bs) (b := b) (h.oldBox hb hX)
    rw [h1, h2]
    exact h.old b hb hX
  out := X.st h.out ⟨⟨rfl, rfl, rfl, Nat.le_refl _, fun _ _ _ => rfl, fun b _ hm => giv_same fun s hs => hm (.inl ⟨s, hs⟩)⟩, giv_extM, fun b hb => h.bnd b (giv_ne hb), rfl, h.bnd⟩
/-- What stands behind a gift. -/
abbrev Own.gift (Ω : Own) (w : World) (bs ts : List Nat) : Own := (Ω.giv w bs).prot ts
theorem gift_extM {w : World} {bs ts : List Nat} : ExtM Ω (Ω.gift w bs ts) w w := by
  have e := ext_prot (Ω.giv w bs) w ts
  exact ⟨fun b hb => e.froz b (giv_extM.froz b hb), fun b hb => giv_extM.lim b hb, fun _ _ _ _ => rfl⟩
theorem gift_extP {w : World} {bs ts : List Nat} : ExtM (Ω.prot ts) (Ω.gift w bs ts) w w := by
  refine ⟨fun b hb => ?_, fun b hb => ?_, fun _ _ _ _ => rfl⟩
  · rcases hb with hb | ⟨t, hb⟩
    · have : Ω.o b = .frz := by
        simp only [Own.prot] at hb
        cases ho : Ω.o b <;> rw [ho] at hb <;> simp at hb
      exact .inl (by rw [prot_other (by intro t p; rw [(giv_same (by intro s; rw [this]; simp)).1, this]; simp), (giv_same (by intro s; rw [this]; simp)).1, this])
    · obtain ⟨q, hq, e⟩ := prot_arr hb
      have hg := (giv_same (Ω := Ω) (w := w) (bs := bs) (b := b) (by intro s; rw [hq]; simp)).1
      exact .inr ⟨t, by simp only [Own.prot, hg, hq]; rw [e]⟩
  · have hn : ∀ s, Ω.o b ≠ .box s := fun s e => by
      rcases hb with hb | ⟨t, hb⟩ <;> simp only [Own.prot, e] at hb <;> cases hb
    exact Nat.le_of_eq (giv_same hn).2.symm
mutual
theorem Den.plainR {bs ts : List Nat} : ∀ (v : V) (x : Value), v.plainR = true → Den Ω w v x → Den (Ω.gift w bs ts) w v x
  | .bool _, _, _, hd => hd
  | .int _ _, _, _, hd => hd
  | .nil, _, _, hd => hd
  | .np, _, _, hd => hd
  | .gref cs, _, _, hd => Den.extM gift_extM _ _ rfl hd
  | .sl none sz es, _, _, hd => Den.extM gift_extM _ _ rfl hd
  | .sl (some t) sz es, x, _, hd => by
    simp only [Den] at hd ⊢
    obtain ⟨b, cap, p, h1, h2, h3, h4, h5⟩ := hd
    have hg := giv_same (Ω := Ω) (w := w) (bs := bs) (b := b) (by intro s; rw [h2]; simp)
    exact ⟨b, cap, p || memN t ts, h1, by simp only [Own.prot, hg.1, h2], h3, h4, DenE.extM gift_extM es sz b 0 (Nat.le_of_eq hg.2.symm) (fun _ _ => rfl) h5⟩
  | .agg cs, x, hp, hd => by
    simp only [Den] at hd ⊢
    obtain ⟨xs, h1, h2⟩ := hd
    exact ⟨xs, h1, DenL.plainR cs xs (by simpa [V.plainR] using hp) h2⟩
  | .und, _, hp, _ => by simp [V.plainR] at hp
  | .dead, _, hp, _ => by simp [V.plainR] at hp
  | .tup _, _, hp, _ => by simp [V.plainR] at hp
  | .fn _ _, _, hp, _ => by simp [V.plainR] at hp
  | .ref _ _, _, hp, _ => by simp [V.plainR] at hp
  | .cref _, _, hp, _ => by simp [V.plainR] at hp
  | .eref _ _ _ _ _, _, hp, _ => by simp [V.plainR] at hp
  | .box _, _, hp, _ => by simp [V.plainR] at hp
  | .mbox _, _, hp, _ => by simp [V.plainR] at hp
  | .mref _, _, hp, _ => by simp [V.plainR] at hp
theorem DenL.plainR {bs ts : List Nat} : ∀ (vs : List V) (xs : List Value), plainRL vs = true → DenL Ω w vs xs → DenL (Ω.gift w bs ts) w vs xs
  | [], _, _, hd => by simpa [DenL] using hd
  | v :: vs, xs, hp, hd => by
    simp only [DenL] at hd
    simp only [plainRL, Bool.and_eq_true] at hp
    obtain ⟨x, ys, rfl, h2, h3⟩ := hd
    exact DenL.cons (Den.plainR v x hp.1 h2) (DenL.plainR vs ys hp.2 h3)
end
theorem frzE_cells {bs ts : List Nat} {b : Nat} {T : TypeId} {zs : Array Value} (hz : w.heap[b]? = some (.cells zs T (0, 0))) (hlim : (Ω.gift w bs ts).lim b = zs.size) : ∀ (cs cs' : List V) (us : List Nat) (xs : List Value) (i : Nat), frzEL cs = some (cs', us) → (∀ t ∈ us, memN t ts = true) → cs'.all V.pm = true → DenL Ω w cs xs → (∀ v ∈ cs, v.cellOk = true ∨ v = .dead) → (∀ j x, xs[j]? = some x → zs[i + j]? = some x) →
    DenC (Ω.gift w bs ts) w cs' b i
  | [], cs', us, xs, i, hf, _, _, _, _, _ => by
    simp only [frzEL, Option.some.injEq, Prod.mk.injEq] at hf
    rw [← hf.1]; simp [DenC]
  | v :: vs, cs', us, xs, i, hf, hu, hp, hd, hc, hx => by
    simp only [frzEL] at hf
    split at hf
    · rename_i v' u1 ws u2 hv hvs
      simp only [Option.some.injEq, Prod.mk.injEq] at hf; obtain ⟨rfl, rfl⟩ := hf
      simp only [DenL] at hd
      obtain ⟨x, ys, rfl, h2, h3⟩ := hd
      simp only [List.all_cons, Bool.and_eq_true] at hp
      obtain ⟨g1, g2, g3⟩ := Den.frzE (ps := ts) v v' u1 x hv (fun t ht => hu t (by simp [ht])) h2
      have hx0 := hx 0 x rfl
      rw [Nat.add_zero] at hx0
      have hlt : i < zs.size := (Array.getElem?_eq_some_iff.1 hx0).1
      have hck : v.cellOk = true := by
        rcases hc v (by simp) with h | rfl
        · exact h
        · simp [V.frzE] at hv
      simp only [DenC]
      refine ⟨⟨x, by rw [hlim]; exact hlt, ?_, g2, g3 hck, Den.extM gift_extP v' x hp.1 g1⟩, frzE_cells hz hlim vs ws u2 ys (i + 1) hvs (fun t ht => hu t (by simp [ht])) hp.2 h3 (fun v hv => hc v (by simp [hv])) (fun j y hy => ?_)⟩
      · rw [cell_of_row w b i _ T (0, 0) hz]; exact hx0
      · have := hx (j + 1) y (by simpa using hy)
        rw [show i + 1 + j = i + (j + 1) by omega]; exact this
    · cases hf
theorem DenC.drop' {Ω : Own} : ∀ (n : Nat) {cs : List V} {b off : Nat}, DenC Ω w cs b off → DenC Ω w (cs.drop n) b (off + n)
  | 0, cs, b, off, h => h
  | n + 1, [], b, off, h => by simp [DenC]
  | n + 1, v :: vs, b, off, h => by
    simp only [DenC] at h
    have := DenC.drop' n h.2
    rw [List.drop_succ_cons, show off + (n + 1) = off + 1 + n by omega]
    exact this
theorem givB_den {X : Sc} (h : Inv X w0 Ω w tm σ) {bs ts : List Nat} {s off : Nat} {v' : V} {a b : List Nat} {x : Value} (hg : givB (bxOf σ.fr []) s off = some (v', a, b)) (ha : ∀ s ∈ a, memN s bs = true) (hb : ∀ t ∈ b, memN t ts = true) (hd : Den Ω w (.ref s off) x) : Den (Ω.gift w bs ts) w v' x ∧ v'.pm = true := by
  unfold givB at hg
  split at hg
  case isFalse => cases hg
  rename_i hlt
  split at hg
  · rename_i cs hcs
    split at hg
    · rename_i cs' us hus
      split at hg
      · rename_i hpm
        simp only [Option.some.injEq, Prod.mk.injEq] at hg
        obtain ⟨rfl, rfl, rfl⟩ := hg
        refine ⟨?_, rfl⟩
        have hfr : get σ.fr s = some (.box cs) := (bxOf_get hlt hcs).1
        obtain ⟨_, hs⟩ := h.slot s _ hfr
        simp only [DenS] at hs
        obtain ⟨c, xs, T, _, h2, h3, h4, h5⟩ := hs
        simp only [Den] at hd ⊢
        obtain ⟨c', h6, h7⟩ := hd
        have := h.uniq c c' s h2 h7
        subst this
        have hms := ha s (by simp)
        have ho : (Ω.giv w bs).o c = .frz := by simp only [Own.giv, h2, hms, if_true]
        have hl : (Ω.gift w bs ts).lim c = xs.toArray.size := by
          show (Ω.giv w bs).lim c = _
          simp only [Own.giv, h2, hms, if_true, blkSize, h3]
        refine ⟨c, off, h6, .inl (by rw [prot_other (by intro t p; rw [ho]; simp), ho]), ?_, ?_⟩
        · rw [List.all_eq_true] at hpm ⊢; exact fun x hx => hpm x (List.mem_of_mem_drop hx)
        · have := frzE_cells (bs := bs) (ts := ts) h3 hl cs cs' us xs 0 hus hb hpm h4 h5 (fun j x hj => by rw [Nat.zero_add]; simpa using hj)
          have := DenC.drop' off this
          rwa [Nat.zero_add] at this
      · cases hg
    · cases hg
  · cases hg
theorem givC_den {X : Sc} (h : Inv X w0 Ω w tm σ) {bs ts : List Nat} : ∀ (vs vs' : List V) (a b : List Nat) (xs : List Value), givC (bxOf σ.fr []) vs = some (vs', a, b) → (∀ s ∈ a, memN s bs = true) → (∀ t ∈ b, memN t ts = true) → DenL Ω w vs xs → DenL (Ω.gift w bs ts) w vs' xs := by
  intro vs
  induction vs with
  | nil =>
    intro vs' a b xs hg _ _ hd
    simp only [givC, Option.some.injEq, Prod.mk.injEq] at hg
    rw [← hg.1]
    simpa [DenL] using hd
  | cons v vs ih =>
    intro vs' a b xs hg ha hb hd
    simp only [DenL] at hd
    obtain ⟨x, ys, rfl, h2, h3⟩ := hd
    have other : (match givC (bxOf σ.fr []) vs with
        | some (vs', c, d) => if v.pm = true then some (v :: vs', c, d) else none
        | none => none) = some (vs', a, b) → DenL (Ω.gift w bs ts) w vs' (x :: ys) := fun hg => by
      split at hg
      · rename_i ws c d hr
        split at hg
        · rename_i hp
          simp only [Option.some.injEq, Prod.mk.injEq] at hg
          obtain ⟨rfl, rfl, rfl⟩ := hg
          exact DenL.cons (Den.extM gift_extM _ _ hp h2) (ih _ _ _ ys hr ha hb h3)
        · cases hg
      · cases hg
    cases v with
    | ref s off =>
      simp only [givC] at hg
      split at hg
      · rename_i v' a1 b1 ws c d h1 hr
        simp only [Option.some.injEq, Prod.mk.injEq] at hg
        obtain ⟨rfl, rfl, rfl⟩ := hg
        exact DenL.cons (givB_den h h1 (fun s hs => ha s (by simp [hs])) (fun t ht => hb t (by simp [ht])) h2).1 (ih _ _ _ ys hr (fun s hs => ha s (by simp [hs])) (fun t ht => hb t (by simp [ht])) h3)
      · cases hg
    | _ => exact other hg
theorem giv_den {X : Sc} (h : Inv X w0 Ω w tm σ) {bs ts : List Nat} {v v' : V} {a b : List Nat} {x : Value} (hg : v.giv (bxOf σ.fr []) = some (v', a, b)) (ha : ∀ s ∈ a, memN s bs = true) (hb : ∀ t ∈ b, memN t ts = true) (hd : Den Ω w v x) : Den (Ω.gift w bs ts) w v' x := by
  have other : (if v.plainR = true then some (v, ([] : List Nat), ([] : List Nat)) else none) = some (v', a, b) → Den (Ω.gift w bs ts) w v' x := fun hg => by
    split at hg
    · rename_i hp
      simp only [Option.some.injEq, Prod.mk.injEq] at hg
      rw [← hg.1]
      exact Den.plainR v x hp hd
    · cases hg
  cases v with
  | ref s off => exact (givB_den h hg ha hb hd).1
  | fn f caps =>
    cases f with
    | f n =>
      simp only [V.giv] at hg
      split at hg
      · rename_i cs c d hr
        simp only [Option.some.injEq, Prod.mk.injEq] at hg
        obtain ⟨rfl, rfl, rfl⟩ := hg
        simp only [Den] at hd ⊢
        obtain ⟨xs, h1, h2⟩ := hd
        exact ⟨xs, h1, givC_den h caps cs _ _ xs hr ha hb h2⟩
      · cases hg
    | m n => exact other hg
    | y n => exact other hg
  | _ => exact other hg
theorem givL_den {X : Sc} (h : Inv X w0 Ω w tm σ) {bs ts : List Nat} : ∀ (vs vs' : List V) (a b : List Nat) (xs : List Value), givL (bxOf σ.fr []) vs = some (vs', a, b) → (∀ s ∈ a, memN s bs = true) → (∀ t ∈ b, memN t ts = true) → DenL Ω w vs xs → DenL (Ω.gift w bs ts) w vs' xs
  | [], vs', a, b, xs, hg, _, _, hd => by
    simp only [givL, Option.some.injEq, Prod.mk.injEq] at hg
    rw [← hg.1]
    simpa [DenL] using hd
  | v :: vs, vs', a, b, xs, hg, ha, hb, hd => by
    simp only [givL] at hg
    split at hg
    · rename_i v' a1 b1 ws c d h1 hr
      simp only [Option.some.injEq, Prod.mk.injEq] at hg
      obtain ⟨rfl, rfl, rfl⟩ := hg
      simp only [DenL] at hd
      obtain ⟨x, ys, rfl, h2, h3⟩ := hd
      exact DenL.cons (giv_den h h1 (fun s hs => ha s (by simp [hs])) (fun t ht => hb t (by simp [ht])) h2) (givL_den h vs ws c d ys hr (fun s hs => ha s (by simp [hs])) (fun t ht => hb t (by simp [ht])) h3)
    · cases hg
/-- A function does what its compiled form does. -/
theorem fun_sound (hmix : P.follows .mixedOrders = true) (hcall : CallsOk P call) {f : Nat} {fn : Func} (hf : P.funcs[f]? = some fn) (hn : fn.name ≠ "runtime.NumGoroutine") {kp : List (Nat × List Nat)} {lf : LFun} (hc : funC P kp fn = some lf)
    {N : Nat} {args : List V} {R : V} (hev : evBody call N lf args = some R) : Enters P f ∧ CallOk P f args R := by
  unfold funC at hc
  split at hc
  case h_2 => cases hc
  rename_i c hbody
  refine ⟨⟨fn, c, hf, hn, hbody⟩, ?_⟩
  split at hc
  case h_2 => cases hc
  rename_i b rs hb hrs
  split at hc
  case isFalse => cases hc
  rename_i hchk
  obtain ⟨k1, k2, k3, k4, k5⟩ := hchk
  simp only [Option.some.injEq] at hc; subst hc
  unfold evBody at hev
  simp only at hev
  split at hev
  case isFalse => cases hev
  rename_i hlen
  obtain ⟨ex, σ', hex, hevc, hres⟩ : ∃ ex σ', (ex = Ex.normal ∨ ex = Ex.ret) ∧ evC call N b { fr := params 0 args ++ deadL [], tk := [], tr := if ranged args = true then some [] else none } = some (ex, σ') ∧ finish (ranged args) rs σ' = some R := by
    split at hev
    · rename_i σ' h1; exact ⟨_, σ', .inl rfl, h1, hev⟩
    · rename_i σ' h1; exact ⟨_, σ', .inr rfl, h1, hev⟩
    · cases hev
  -- a walk through the body
  have walk : ∀ {X : Sc} {T : List (List V)} {Ω0 : Own} {w : World} {xs : List Value} {R' : Ending → World → Prop}, Base Ω0 w → DenL Ω0 w args xs → X.o = Ω0.o → X.lim = Ω0.lim → X.j (if ranged args = true then some [] else none) Ω0 w → ScOk P X w T none → UpTo T σ' →
      (∀ a' w' Ω' M', Arr X w none Ω0 { tmps := xs.toArray ++ Array.replicate (fn.ntmps - xs.toArray.size) undef, defers := [] } [] [] σ' (dstsC b) (onceC b ++ loopC b) a' w' Ω' M' → LeavesInM Fence.wide 0 P fn a'.tmps R' a'.defers .returning w') → Calls P f xs.toArray w R' := by
    intro X T Ω0 w xs R' hbase hd ho hl hj sc hT hK
    have hxl : xs.length = fn.params.size + fn.nfree := by rw [hd.length, hlen]
    have hsz : (xs.toArray ++ Array.replicate (fn.ntmps - xs.toArray.size) undef).size = fn.ntmps := by
      simp only [Array.size_append, List.size_toArray, Array.size_replicate]; omega
    have hinv := inv_start X ho hl hj hbase hd (fn.ntmps - xs.toArray.size) (sl := []) (fun s hs => by cases hs)
    refine callsIn_wide.1 (callsIn_of_wp_marks (n := 0) hf hbody trivial ?_)
    refine code_sound hcall hmix c hb sc (.inr rfl) (M := []) (df := []) List.nodup_nil (fun r hr => by cases hr) rfl hevc hT (hinv.sc rfl rfl rfl fun hj => ⟨hj, fun r hr => by cases hr⟩) (fun d hdd => ?_) (fun d _ => fresh_start hbase d) ⟨distinct_nodup k2, fun d hd hl => ?_⟩ ?_
    · show d < Array.size _
      rw [hsz]
      have := List.all_eq_true.1 k1 d hdd
      simpa using this
    · have := List.all_eq_true.1 k3 d hd
      simp only [Bool.and_eq_true, Bool.not_eq_true'] at this
      exact not_mem_of_memN this.1 hl
    · intro a' w' Ω' M' A
      have := hK a' w' Ω' M' A
      rcases hex with rfl | rfl <;> exact this
  refine ⟨fun hpure Ω0 w xs hbase hd => ?_, fun y pre post hargs T hRT X Ω w l xs zs hbase hyl hp1 hp2 hd1 hd2 ho hlm hj hnn hY => ?_⟩
  · -- called
    rw [pure_ranged hpure] at hres hevc walk
    simp only [Bool.false_eq_true, if_false] at hres hevc walk
    have hbase' : Base { Ω0 with yl := none } w := ⟨hbase.o, hbase.bnd⟩
    have hxp : ExtP Ω0 { Ω0 with yl := none } w w := ⟨fun _ h => h, fun _ h => .inr h, fun _ _ => Nat.le_refl _, fun _ _ _ _ => rfl⟩
    have hd' : DenL { Ω0 with yl := none } w args xs := DenL.extP hxp args xs hpure hd
    have trn : σ'.tr = none := (evC_tr b hevc).none rfl
    refine walk (X := scOf { Ω0 with yl := none }) (T := []) hbase' hd' rfl rfl ⟨rfl, rfl⟩ ⟨⟨fun _ _ h => h.2, fun _ _ _ _ _ _ _ _ _ h => (by have := h.1; cases this)⟩, .inl (plain_scOf _), fun _ h => by cases h⟩ (fun l hl => by rw [trn] at hl; cases hl) ?_
    intro a' w' Ω' M' A
    rw [A.defers, List.append_nil]
    refine leaves_marks M' w' A.nodup (fun r hr => (A.inv.out.2 r hr).2) fun w'' ht => ?_
    have hi : Inv (scOf { Ω0 with yl := none }) w Ω' w'' a'.tmps σ' := inv_taken (plain_scOf _) (Ωs := { Ω0 with yl := none }) (ws := w) ⟨rfl, rfl⟩ A.low A.inv A.low ht
    unfold finish result at hres
    simp only [Bool.false_eq_true, if_false] at hres
    split at hres
    case h_2 => cases hres
    rename_i vs hvs
    split at hres
    case h_2 => cases hres
    rename_i vs1 bs ts hgiv
    split at hres
    case h_2 => cases hres
    rename_i vs' us hfin
    injection hres with hres; subst hres
    obtain ⟨ys, r1, r2⟩ := rvs_sound (P := P) hi hrs hvs
    have r2 := givL_den hi (bs := bs) (ts := ts) vs vs1 bs ts ys hgiv (fun s hs => memN_self hs) (fun t ht => memN_self ht) r2
    have hi := (hi.giv bs).prot ts
    have r2 : DenL ((Ω'.giv w'' bs).prot ts) w'' vs1 ys := r2
    generalize hOg : (Ω'.giv w'' bs).prot ts = Ωg at hi r2
    obtain ⟨U, G⟩ := us
    have hl := finL_lists vs1 vs' ([], []) (U, G) hfin
    have hU : U.Nodup := hl.nodup List.nodup_nil
    have ha : ∀ t ∈ U, t ∉ G := hl.apart (fun t h => by cases h)
    have hok := finOk hi hU ha
    have hden := DenL.fin hok vs1 vs' ([], []) (U, G) ys hfin (List.prefix_refl _) (fun _ h => h) r2
    refine ⟨_, run_results r1, _, Ωg.fin { Ω0 with yl := none } w.heap.size U, rfl, ?_, one_den hden, ?_⟩
    · exact ⟨hi.kept.os, hi.kept.tape, hi.kept.output, hi.kept.size, fun k hk => hi.kept.block k hk (fun x => x)⟩
    · refine ⟨fun b hlt => ⟨by simp only [Own.fin, if_pos hlt], by simp only [Own.fin, if_pos hlt]⟩, fun b hne => ?_, fun k n hk => ?_⟩
      · by_cases hlt : b < w.heap.size
        · exact Nat.lt_of_lt_of_le hlt hi.kept.size
        · refine hi.bnd b (fun e => hne ?_)
          simp only [Own.fin, if_neg hlt, e]
      · obtain ⟨t, q1, q2⟩ := finL_tks vs1 vs' ([], []) (U, G) hfin (List.prefix_refl _) k n (one_tks hk)
        exact fin_tok hi hbase' hU q1 q2
  · -- ranged over
    subst hargs
    have hrg : ranged (pre ++ V.fn (.y y) [] :: post) = true := ranged_mid
    rw [hrg] at hres hevc walk
    simp only [if_true] at hevc walk
    unfold finish at hres
    simp only [if_true] at hres
    split at hres
    case isFalse => cases hres
    rename_i hre
    split at hres
    case h_2 => cases hres
    rename_i tr htr
    injection hres with hres; subst hres
    simp only [itemsOf, itemsL_tups, Option.some.injEq] at hRT
    subst hRT
    have hd' : DenL Ω w (pre ++ V.fn (.y y) [] :: post) (xs ++ Value.func (.yield l) #[] #[] :: zs) := hd1.append (DenL.cons (by simp only [Den, DenL, Fk.Is]; exact ⟨[], ⟨l, hyl, rfl⟩, rfl⟩) hd2)
    refine walk (T := tr) hbase hd' ho hlm hj ⟨hY, .inr hnn, fun _ h => by cases h⟩ (fun l' hl' => by rw [htr] at hl'; injection hl' with hl'; subst hl'; exact List.prefix_refl _) ?_
    intro a' w' Ω' M' A
    have hM : M' = [] := by
      rcases A.same with e | e
      · exact e
      · have := e.1.1 _ _ _ hj; cases this
    subst hM
    rw [A.defers]
    have hi : Inv X w Ω' w' a'.tmps σ' := A.inv.sc rfl rfl rfl fun hj => hj.1
    have hrs0 : rs = [] := List.isEmpty_iff.1 hre
    obtain ⟨ys, r1, r2⟩ := rvs_sound (P := P) hi hrs (vs := []) (by rw [hrs0]; rfl)
    have hj' := hi.out
    rw [htr] at hj'
    exact ⟨_, run_results r1, _, Ω', rfl, hj'⟩
end
end Go.Lo

/- The evaluator is sound; its limit. -/
namespace Go.Lo

/-! ### More fuel -/
def Le (c c' : Nat → List V → Option V) : Prop := ∀ f as r, c f as = some r → c' f as = some r
section
variable {c c' : Nat → List V → Option V}
theorem sem_le (h : Le c c') {bx : Nat → Option (List V)} {tk : Nat → Option (Nat × Bool)} {d : Nat} {k : K} {vs : List V} {e : Eff} (he : sem c bx tk d k vs = some e) : sem c' bx tk d k vs = some e := by
  cases k with
  | call dr al mk =>
    have key : ∀ {f : Nat} {us : List V}, callE c bx d dr al mk f us = some e → callE c' bx d dr al mk f us = some e := fun he => by
      unfold callE at he ⊢
      split at he
      · rename_i as has
        split at he
        · rename_i r hr
          simp only [h _ as r hr]
          exact he
        · cases he
      · cases he
    simp only [sem] at he ⊢
    split at he
    · exact key he
    · exact key he
    · exact he
    · exact he
  | _ => exact he
theorem stepI_le (h : Le c c') {i : LIns} {σ σ' : St} (hs : stepI c i σ = some σ') : stepI c' i σ = some σ' := by
  unfold stepI at hs ⊢
  cases hw : wanted σ.fr i.guard with
  | none => rw [hw] at hs; cases hs
  | some b =>
    rw [hw] at hs
    cases b with
    | false => exact hs
    | true =>
      simp only at hs ⊢
      cases hvs : opds σ.fr i.xs with
      | none => rw [hvs] at hs; cases hs
      | some vs =>
        rw [hvs] at hs
        simp only at hs ⊢
        cases he : sem c (bxOf σ.fr i.ex) (tkOf σ.tk i.ex) (i.dst.getD 0) i.k vs with
        | none => rw [he] at hs; cases hs
        | some e =>
          rw [he] at hs
          rw [sem_le h he]
          exact hs
theorem stepL_le (h : Le c c') : ∀ {is : List LIns} {σ σ' : St}, stepL c is σ = some σ' → stepL c' is σ = some σ'
  | [], _, _, hs => hs
  | i :: is, σ, σ', hs => by
    simp only [stepL] at hs ⊢
    split at hs
    · rename_i σ1 h1
      rw [stepI_le h h1]
      exact stepL_le h hs
    · cases hs
theorem iter_le {f g : St → Option (Ex × St)} (h : ∀ σ x, f σ = some x → g σ = some x) : ∀ {n m : Nat} {σ : St} {x : Ex × St}, n ≤ m → iter f n σ = some x → iter g m σ = some x
  | 0, _, _, _, _, hs => by simp [iter] at hs
  | n + 1, 0, _, _, hl, _ => by omega
  | n + 1, m + 1, σ, x, hl, hs => by
    simp only [iter] at hs ⊢
    split at hs
    · rename_i σ1 h1
      rw [h _ _ h1]
      exact iter_le h (by omega) hs
    · rename_i hne
      rw [h _ _ hs]
      split
      · rename_i σ1 h1
        injection h1 with h1
        subst h1
        exact (hne _ hs).elim
      · rfl
theorem roundE_le {evA evB evA' evB' : St → Option (Ex × St)} (hA : ∀ σ x, evA σ = some x → evA' σ = some x) (hB : ∀ σ x, evB σ = some x → evB' σ = some x) {ps wr : List Nat} {σ : St} {as : List V} {x : Ex × St}
    (h : roundE evA evB ps wr σ as = some x) : roundE evA' evB' ps wr σ as = some x := by
  unfold roundE at h ⊢
  split at h
  · rename_i hl
    rw [if_pos hl]
    split at h
    · rename_i σ1 h1
      rw [hA _ _ h1]
      simp only
      split at h
      · rename_i ex σ2 h2
        rw [hB _ _ h2]
        exact h
      · cases h
    · cases h
  · cases h
theorem foldR_le {f f' : St → List V → Option (Ex × St)} (h : ∀ σ as x, f σ as = some x → f' σ as = some x) : ∀ {t : List (List V)} {k : Nat} {σ : St} {r : Option (Nat × Ex) × St}, foldR f k σ t = some r → foldR f' k σ t = some r
  | [], _, _, _, hs => hs
  | x :: t, k, σ, r, hs => by
    simp only [foldR] at hs ⊢
    split at hs
    · rename_i σ1 h1
      rw [h _ _ _ h1]
      exact foldR_le h hs
    · rename_i ex σ1 hne h1
      rw [h _ _ _ h1]
      cases ex with
      | normal => exact (hne rfl).elim
      | exit id => exact hs
      | ret => exact hs
    · cases hs
theorem itemsOf_le {o o' : Option V} (h : ∀ R, o = some R → o' = some R) {T : List (List V)} (ho : itemsOf o = some T) : itemsOf o' = some T := by
  cases o with
  | none => cases ho
  | some R => rw [h R rfl]; exact ho
theorem rngE_le {f f' : St → List V → Option (Ex × St)} {it it' : Nat → Option V} (h : ∀ σ as x, f σ as = some x → f' σ as = some x) (hi : ∀ a R, it a = some R → it' a = some R) {σ : St} {x : Ex × St} (hs : rngE f it σ = some x) : rngE f' it' σ = some x := by
  unfold rngE at hs ⊢
  split at hs
  · cases hs
  · rename_i items h1
    rw [itemsOf_le (hi 0) h1]
    simp only
    split at hs
    · rename_i σ1 h2
      rw [foldR_le h h2]
      exact hs
    · rename_i k e σ1 h2
      rw [foldR_le h h2]
      simp only
      split at hs
      · cases hs
      · rename_i items' h3
        rw [itemsOf_le (hi (k + 1)) h3]
        simp only
        split at hs
        · rename_i k' ex σ2 h4
          rw [foldR_le h h4]
          exact hs
        · cases hs
    · cases hs
theorem evC_le (h : Le c c') {N N' : Nat} (hN : N ≤ N') : ∀ (lc : LCode) {σ : St} {x : Ex × St}, evC c N lc σ = some x → evC c' N' lc σ = some x := by
  intro lc
  induction lc with
  | skip => intro σ x hs; exact hs
  | exit id => intro σ x hs; exact hs
  | ret => intro σ x hs; exact hs
  | bad => intro σ x hs; exact hs
  | reg lp ds pp ops kn kp =>
    intro σ x hs
    simp only [evC] at hs ⊢
    split at hs
    · rename_i σ1 h1
      rw [stepL_le h h1]
      exact hs
    · cases hs
  | seq a b iha ihb =>
    intro σ x hs
    simp only [evC] at hs ⊢
    split at hs
    · rename_i σ1 h1
      rw [iha h1]
      exact ihb hs
    · rename_i hne
      rw [iha hs]
      split
      · rename_i σ1 h1
        injection h1 with h1
        subst h1
        exact (hne _ hs).elim
      · rfl
  | alt ts ks a b iha ihb =>
    intro σ x hs
    simp only [evC] at hs ⊢
    split at hs
    · rename_i hb; simp only [if_pos hb]; exact ihb hs
    · rename_i hb; simp only [if_neg hb]; exact iha hs
  | cond cc a b iha ihb =>
    intro σ x hs
    simp only [evC] at hs ⊢
    split at hs
    · rename_i t ht
      cases t with
      | true => simp only [if_true] at hs ⊢; exact iha hs
      | false => simp only [Bool.false_eq_true, if_false] at hs ⊢; exact ihb hs
    · cases hs
  | block id a ih =>
    intro σ x hs
    simp only [evC] at hs ⊢
    split at hs
    · rename_i j σ1 h1
      rw [ih h1]
      exact hs
    · rename_i hne
      rw [ih hs]
      split
      · rename_i j σ1 h1
        injection h1 with h1
        subst h1
        exact (hne _ _ hs).elim
      · rfl
  | loop a ih =>
    intro σ x hs
    simp only [evC] at hs ⊢
    exact iter_le (fun _ _ h => ih h) hN hs
  | rng g ps wr a b iha ihb =>
    intro σ x hs
    simp only [evC] at hs ⊢
    split at hs
    · split at hs
      · split at hs
        · rename_i hc
          rw [if_pos hc]
          exact rngE_le (fun _ _ _ h => roundE_le (fun _ _ h => iha h) (fun _ _ h => ihb h) h) (fun _ R hR => h _ _ R hR) hs
        · cases hs
      · cases hs
    · split at hs
      · split at hs
        · rename_i hc
          rw [if_pos hc]
          exact rngE_le (fun _ _ _ h => roundE_le (fun _ _ h => iha h) (fun _ _ h => ihb h) h) (fun _ R hR => h _ _ R hR) hs
        · cases hs
      · cases hs
    · cases hs
theorem evBody_le (h : Le c c') {N N' : Nat} (hN : N ≤ N') {lf : LFun} {args : List V} {r : V} (hs : evBody c N lf args = some r) : evBody c' N' lf args = some r := by
  unfold evBody at hs ⊢
  split at hs
  · rename_i hl
    rw [if_pos hl]
    split at hs
    · rename_i σ h1; rw [evC_le h hN _ h1]; exact hs
    · rename_i σ h1; rw [evC_le h hN _ h1]; exact hs
    · cases hs
  · cases hs
end
section
variable {F : Nat → Option (List V → Option V)} {C : Nat → Option LFun}
theorem evF_succ : ∀ (n : Nat), Le (evF F C n) (evF F C (n + 1))
  | 0, f, as, r, h => by simp [evF] at h
  | n + 1, f, as, r, h => by
    rw [evF] at h ⊢
    split at h
    · exact h
    · split at h
      · exact evBody_le (evF_succ n) (Nat.le_succ n) h
      · cases h
theorem evF_le {n m : Nat} (h : n ≤ m) : Le (evF F C n) (evF F C m) := by
  induction h with
  | refl => exact fun _ _ _ h => h
  | step _ ih => exact fun f as r hr => evF_succ _ f as r (ih f as r hr)
/-- What a function gives back, if it ends: whatever the fuel. -/
noncomputable def run (F : Nat → Option (List V → Option V)) (C : Nat → Option LFun) (f : Nat) (as : List V) : Option V :=
  open Classical in if h : ∃ r n, evF F C n f as = some r then some (Classical.choose h) else none
theorem run_of {n f : Nat} {as : List V} {r : V} (h : evF F C n f as = some r) : run F C f as = some r := by
  unfold run
  have hex : ∃ r n, evF F C n f as = some r := ⟨r, n, h⟩
  rw [dif_pos hex]
  obtain ⟨m, hm⟩ := Classical.choose_spec hex
  have h1 := evF_le (Nat.le_max_left n m) f as r h
  have h2 := evF_le (Nat.le_max_right n m) f as _ hm
  rw [h1] at h2
  exact h2.symm
theorem of_run {f : Nat} {as : List V} {r : V} (h : run F C f as = some r) : ∃ n, evF F C n f as = some r := by
  unfold run at h
  split at h
  · rename_i hex
    injection h with h; subst h
    exact Classical.choose_spec hex
  · cases h
/-! Few calls need little fuel. -/
theorem sem_fin {bx : Nat → Option (List V)} {tk : Nat → Option (Nat × Bool)} {d : Nat} {k : K} {vs : List V} {e : Eff} (he : sem (run F C) bx tk d k vs = some e) : ∃ n, sem (evF F C n) bx tk d k vs = some e := by
  cases k with
  | call dr al mk =>
    have key : ∀ {f : Nat} {us : List V}, callE (run F C) bx d dr al mk f us = some e → ∃ n, callE (evF F C n) bx d dr al mk f us = some e := fun he => by
      unfold callE at he ⊢
      split at he
      · rename_i as has
        split at he
        · rename_i r hr
          obtain ⟨n, hn⟩ := of_run hr
          refine ⟨n, ?_⟩
          simp only [hn]
          exact he
        · cases he
      · cases he
    simp only [sem] at he ⊢
    split at he
    · exact key he
    · exact key he
    · exact ⟨0, he⟩
    · exact ⟨0, he⟩
  | _ => exact ⟨0, he⟩
theorem stepI_fin {i : LIns} {σ σ' : St} (hs : stepI (run F C) i σ = some σ') : ∃ n, stepI (evF F C n) i σ = some σ' := by
  unfold stepI at hs ⊢
  cases hw : wanted σ.fr i.guard with
  | none => rw [hw] at hs; cases hs
  | some b =>
    rw [hw] at hs
    cases b with
    | false => exact ⟨0, hs⟩
    | true =>
      simp only at hs ⊢
      cases hvs : opds σ.fr i.xs with
      | none => rw [hvs] at hs; cases hs
      | some vs =>
        rw [hvs] at hs
        simp only at hs ⊢
        cases he : sem (run F C) (bxOf σ.fr i.ex) (tkOf σ.tk i.ex) (i.dst.getD 0) i.k vs with
        | none => rw [he] at hs; cases hs
        | some e =>
          rw [he] at hs
          obtain ⟨n, hn⟩ := sem_fin he
          exact ⟨n, by rw [hn]; exact hs⟩
theorem stepL_fin : ∀ {is : List LIns} {σ σ' : St}, stepL (run F C) is σ = some σ' → ∃ n, stepL (evF F C n) is σ = some σ'
  | [], _, _, hs => ⟨0, hs⟩
  | i :: is, σ, σ', hs => by
    simp only [stepL] at hs ⊢
    split at hs
    · rename_i σ1 h1
      obtain ⟨n, hn⟩ := stepI_fin h1
      obtain ⟨m, hm⟩ := stepL_fin hs
      refine ⟨max n m, ?_⟩
      rw [stepI_le (evF_le (Nat.le_max_left n m)) hn]
      exact stepL_le (evF_le (Nat.le_max_right n m)) hm
    · cases hs
theorem iter_fin {g : St → Option (Ex × St)} {f : Nat → St → Option (Ex × St)} (hf : ∀ n m, n ≤ m → ∀ σ x, f n σ = some x → f m σ = some x) (h : ∀ σ x, g σ = some x → ∃ n, f n σ = some x) : ∀ {k : Nat} {σ : St} {x : Ex × St}, iter g k σ = some x → ∃ n, iter (f n) k σ = some x
  | 0, _, _, hs => by simp [iter] at hs
  | k + 1, σ, x, hs => by
    simp only [iter] at hs ⊢
    split at hs
    · rename_i σ1 h1
      obtain ⟨n, hn⟩ := h _ _ h1
      obtain ⟨m, hm⟩ := iter_fin hf h hs
      refine ⟨max n m, ?_⟩
      rw [hf n _ (Nat.le_max_left n m) _ _ hn]
      exact iter_le (hf m _ (Nat.le_max_right n m)) (Nat.le_refl _) hm
    · rename_i hne
      obtain ⟨n, hn⟩ := h _ _ hs
      refine ⟨n, ?_⟩
      rw [hn]
      split
      · rename_i σ1 h1
        injection h1 with h1
        subst h1
        exact (hne _ hs).elim
      · rfl
theorem roundE_fin {gA gB : St → Option (Ex × St)} {fA fB : Nat → St → Option (Ex × St)} (mA : ∀ n m, n ≤ m → ∀ σ x, fA n σ = some x → fA m σ = some x) (mB : ∀ n m, n ≤ m → ∀ σ x, fB n σ = some x → fB m σ = some x)
    (hA : ∀ σ x, gA σ = some x → ∃ n, fA n σ = some x) (hB : ∀ σ x, gB σ = some x → ∃ n, fB n σ = some x) {ps wr : List Nat} {σ : St} {as : List V} {x : Ex × St} (h : roundE gA gB ps wr σ as = some x) : ∃ n, roundE (fA n) (fB n) ps wr σ as = some x := by
  unfold roundE at h
  split at h
  · rename_i hl
    split at h
    · rename_i σ1 h1
      split at h
      · rename_i ex σ2 h2
        obtain ⟨n, hn⟩ := hA _ _ h1
        obtain ⟨m, hm⟩ := hB _ _ h2
        refine ⟨max n m, ?_⟩
        unfold roundE
        rw [if_pos hl, mA n _ (Nat.le_max_left n m) _ _ hn]
        simp only
        rw [mB m _ (Nat.le_max_right n m) _ _ hm]
        exact h
      · cases h
    · cases h
  · cases h
theorem foldR_fin {g : St → List V → Option (Ex × St)} {f : Nat → St → List V → Option (Ex × St)} (hf : ∀ n m, n ≤ m → ∀ σ as x, f n σ as = some x → f m σ as = some x) (h : ∀ σ as x, g σ as = some x → ∃ n, f n σ as = some x) :
    ∀ {t : List (List V)} {k : Nat} {σ : St} {r : Option (Nat × Ex) × St}, foldR g k σ t = some r → ∃ n, foldR (f n) k σ t = some r
  | [], _, _, _, hs => ⟨0, hs⟩
  | x :: t, k, σ, r, hs => by
    simp only [foldR] at hs ⊢
    split at hs
    · rename_i σ1 h1
      obtain ⟨n, hn⟩ := h _ _ _ h1
      obtain ⟨m, hm⟩ := foldR_fin hf h hs
      refine ⟨max n m, ?_⟩
      rw [hf n _ (Nat.le_max_left n m) _ _ _ hn]
      exact foldR_le (hf m _ (Nat.le_max_right n m)) hm
    · rename_i ex σ1 hne h1
      obtain ⟨n, hn⟩ := h _ _ _ h1
      refine ⟨n, ?_⟩
      rw [hn]
      cases ex with
      | normal => exact (hne rfl).elim
      | exit id => exact hs
      | ret => exact hs
    · cases hs
theorem rngE_fin {g : St → List V → Option (Ex × St)} {f : Nat → St → List V → Option (Ex × St)} {it : Nat → Option V} {jt : Nat → Nat → Option V} (hf : ∀ n m, n ≤ m → ∀ σ as x, f n σ as = some x → f m σ as = some x) (h : ∀ σ as x, g σ as = some x → ∃ n, f n σ as = some x)
    (hj : ∀ n m, n ≤ m → ∀ a R, jt n a = some R → jt m a = some R) (hi : ∀ a R, it a = some R → ∃ n, jt n a = some R) {σ : St} {x : Ex × St} (hs : rngE g it σ = some x) : ∃ n, rngE (f n) (jt n) σ = some x := by
  have hit : ∀ a T, itemsOf (it a) = some T → ∃ n, itemsOf (jt n a) = some T := fun a T hT => by
    cases hR : it a with
    | none => rw [hR] at hT; cases hT
    | some R =>
      rw [hR] at hT
      obtain ⟨n, hn⟩ := hi a R hR
      exact ⟨n, by rw [hn]; exact hT⟩
  unfold rngE at hs
  split at hs
  · cases hs
  · rename_i items h1
    obtain ⟨n1, k1⟩ := hit _ _ h1
    split at hs
    · rename_i σ1 h2
      obtain ⟨n2, k2⟩ := foldR_fin hf h h2
      refine ⟨max n1 n2, ?_⟩
      unfold rngE
      rw [itemsOf_le (hj n1 _ (Nat.le_max_left n1 n2) 0) k1]
      simp only
      rw [foldR_le (hf n2 _ (Nat.le_max_right n1 n2)) k2]
      exact hs
    · rename_i k e σ1 h2
      obtain ⟨n2, k2⟩ := foldR_fin hf h h2
      split at hs
      · cases hs
      · rename_i items' h3
        obtain ⟨n3, k3⟩ := hit _ _ h3
        split at hs
        · rename_i k' ex σ2 h4
          obtain ⟨n4, k4⟩ := foldR_fin hf h h4
          refine ⟨max (max n1 n2) (max n3 n4), ?_⟩
          unfold rngE
          rw [itemsOf_le (hj n1 _ (by omega) 0) k1]
          simp only
          rw [foldR_le (hf n2 _ (by omega)) k2]
          simp only
          rw [itemsOf_le (hj n3 _ (by omega) (k + 1)) k3]
          simp only
          rw [foldR_le (hf n4 _ (by omega)) k4]
          exact hs
        · cases hs
    · cases hs
theorem evC_fin {N : Nat} : ∀ (lc : LCode) {σ : St} {x : Ex × St}, evC (run F C) N lc σ = some x → ∃ n, evC (evF F C n) N lc σ = some x := by
  intro lc
  induction lc with
  | skip => intro σ x hs; exact ⟨0, hs⟩
  | exit id => intro σ x hs; exact ⟨0, hs⟩
  | ret => intro σ x hs; exact ⟨0, hs⟩
  | bad => intro σ x hs; exact ⟨0, hs⟩
  | reg lp ds pp ops kn kp =>
    intro σ x hs
    simp only [evC] at hs ⊢
    split at hs
    · rename_i σ1 h1
      obtain ⟨n, hn⟩ := stepL_fin h1
      exact ⟨n, by rw [hn]; exact hs⟩
    · cases hs
  | seq a b iha ihb =>
    intro σ x hs
    simp only [evC] at hs ⊢
    split at hs
    · rename_i σ1 h1
      obtain ⟨n, hn⟩ := iha h1
      obtain ⟨m, hm⟩ := ihb hs
      refine ⟨max n m, ?_⟩
      rw [evC_le (evF_le (Nat.le_max_left n m)) (Nat.le_refl N) _ hn]
      exact evC_le (evF_le (Nat.le_max_right n m)) (Nat.le_refl N) _ hm
    · rename_i hne
      obtain ⟨n, hn⟩ := iha hs
      refine ⟨n, ?_⟩
      rw [hn]
      split
      · rename_i σ1 h1
        injection h1 with h1
        subst h1
        exact (hne _ hs).elim
      · rfl
  | alt ts ks a b iha ihb =>
    intro σ x hs
    simp only [evC] at hs ⊢
    split at hs
    · rename_i hb; simp only [if_pos hb]; exact ihb hs
    · rename_i hb; simp only [if_neg hb]; exact iha hs
  | cond cc a b iha ihb =>
    intro σ x hs
    simp only [evC] at hs ⊢
    split at hs
    · rename_i t ht
      cases t with
      | true => simp only [if_true] at hs ⊢; exact iha hs
      | false => simp only [Bool.false_eq_true, if_false] at hs ⊢; exact ihb hs
    · cases hs
  | block id a ih =>
    intro σ x hs
    simp only [evC] at hs ⊢
    split at hs
    · rename_i j σ1 h1
      obtain ⟨n, hn⟩ := ih h1
      exact ⟨n, by rw [hn]; exact hs⟩
    · rename_i hne
      obtain ⟨n, hn⟩ := ih hs
      refine ⟨n, ?_⟩
      rw [hn]
      split
      · rename_i j σ1 h1
        injection h1 with h1
        subst h1
        exact (hne _ _ hs).elim
      · rfl
  | loop a ih =>
    intro σ x hs
    simp only [evC] at hs ⊢
    exact iter_fin (f := fun n => evC (evF F C n) N a) (fun n m hnm σ x h => evC_le (evF_le hnm) (Nat.le_refl N) a h) (fun σ x h => ih h) hs
  | rng g ps wr a b iha ihb =>
    intro σ x hs
    have key : ∀ {f : Nat} {mkA : Nat → List V} {τ : St}, rngE (roundE (evC (run F C) N a) (evC (run F C) N b) ps wr) (fun a => run F C f (mkA a)) τ = some x → ∃ n, rngE (roundE (evC (evF F C n) N a) (evC (evF F C n) N b) ps wr) (fun a => evF F C n f (mkA a)) τ = some x := by
      intro f mkA τ hs
      refine rngE_fin (it := fun a => run F C f (mkA a)) (jt := fun n a => evF F C n f (mkA a)) (f := fun n => roundE (evC (evF F C n) N a) (evC (evF F C n) N b) ps wr) (fun n m hnm σ as x h => ?_) (fun σ as x h => ?_) (fun n m hnm a R h => evF_le hnm _ _ R h) (fun a R h => of_run h) hs
      · exact roundE_le (fun _ _ h => evC_le (evF_le hnm) (Nat.le_refl N) a h) (fun _ _ h => evC_le (evF_le hnm) (Nat.le_refl N) b h) h
      · exact roundE_fin (fA := fun n => evC (evF F C n) N a) (fB := fun n => evC (evF F C n) N b) (fun n m hnm σ x h => evC_le (evF_le hnm) (Nat.le_refl N) a h) (fun n m hnm σ x h => evC_le (evF_le hnm) (Nat.le_refl N) b h) (fun _ _ h => iha h) (fun _ _ h => ihb h) h
    simp only [evC] at hs ⊢
    split at hs
    · split at hs
      · split at hs
        · rename_i hc
          simp only [if_pos hc]
          exact key (mkA := fun a => .fn (.y a) [] :: _) hs
        · cases hs
      · cases hs
    · split at hs
      · split at hs
        · rename_i hc
          simp only [if_pos hc]
          exact key (mkA := fun a => _ ++ [.fn (.y a) []]) hs
        · cases hs
      · cases hs
    · cases hs
/-- A body's equation: the calls in it may be told by theirs. -/
theorem run_of_body {f N : Nat} {lf : LFun} {as : List V} {r : V} (hF : F f = none) (hC : C f = some lf) (h : evBody (run F C) N lf as = some r) : run F C f as = some r := by
  have key : ∃ n, evBody (evF F C n) N lf as = some r := by
    unfold evBody at h ⊢
    split at h
    · rename_i hl
      split at h
      · rename_i σ h1
        obtain ⟨n, hn⟩ := evC_fin _ h1
        exact ⟨n, by rw [if_pos hl, hn]; exact h⟩
      · rename_i σ h1
        obtain ⟨n, hn⟩ := evC_fin _ h1
        exact ⟨n, by rw [if_pos hl, hn]; exact h⟩
      · cases h
    · cases h
  obtain ⟨n, hn⟩ := key
  refine run_of (n := max n N + 1) ?_
  rw [evF, hF]
  simp only [hC]
  exact evBody_le (evF_le (Nat.le_max_left n N)) (Nat.le_max_right n N) hn
theorem run_told {f : Nat} {g : List V → Option V} {as : List V} (hF : F f = some g) : run F C f as = g as := by
  cases hg : g as with
  | some r => exact run_of (n := 1) (by rw [evF, hF]; exact hg)
  | none =>
    cases hr : run F C f as with
    | none => rfl
    | some r =>
      obtain ⟨n, hn⟩ := of_run hr
      cases n with
      | zero => simp [evF] at hn
      | succ n =>
        rw [evF, hF] at hn
        simp only at hn
        rw [hg] at hn
        cases hn
/-- The tables are those of the program. -/
structure TabOk (P : Program) (F : Nat → Option (List V → Option V)) (C : Nat → Option LFun) : Prop where
  mixed : P.follows .mixedOrders = true
  told : ∀ f g as r, F f = some g → g as = some r → Enters P f ∧ CallOk P f as r
  code : ∀ f lf, C f = some lf → ∃ fn kp, P.funcs[f]? = some fn ∧ fn.name ≠ "runtime.NumGoroutine" ∧ funC P kp fn = some lf
theorem evF_sound {P : Program} (h : TabOk P F C) : ∀ (n : Nat), CallsOk P (evF F C n)
  | 0, f, as, r, hr => by simp [evF] at hr
  | n + 1, f, as, r, hr => by
    rw [evF] at hr
    split at hr
    · rename_i g hg
      exact h.told f g as r hg hr
    · split at hr
      · rename_i lf hlf
        obtain ⟨fn, kp, h1, h2, h3⟩ := h.code f lf hlf
        exact fun_sound h.mixed (evF_sound h n) h1 h2 h3 hr
      · cases hr
theorem run_sound {P : Program} (h : TabOk P F C) : CallsOk P (run F C) := fun f as r hr =>
  let ⟨n, hn⟩ := of_run hr
  evF_sound h n f as r hn
end
end Go.Lo

/- Arguments that read as data are logical values. -/
namespace Go.Lo
inductive Ty where
  | bool
  | int (k : IntKind)
  | st (fs : List Ty)
  | arr (n : Nat) (e : Ty)
  | sl (e : Ty)
  deriving Inhabited
mutual
def Ty.cells : Ty → Nat
  | .bool => 1
  | .int _ => 1
  | .st fs => cellsL fs
  | .arr n e => n * e.cells
  | .sl _ => 1
def cellsL : List Ty → Nat
  | [] => 0
  | t :: ts => t.cells + cellsL ts
end
mutual
/-- Cells of the type. -/
def HasC : Ty → List V → Prop
  | .bool, cs => ∃ b, cs = [.bool b]
  | .int k, cs => ∃ n, cs = [.int k n] ∧ (Lit.int k n).wf = true
  | .st fs, cs => HasCs fs cs
  | .arr n e, cs => ∃ es : List (List V), es.length = n ∧ cs = es.flatten ∧ ∀ x ∈ es, HasC e x
  | .sl e, cs => cs = [.nil] ∨ ∃ es, cs = [.sl none e.cells es] ∧ es.length ≤ maxLen ∧ ∀ x ∈ es, HasC e x
def HasCs : List Ty → List V → Prop
  | [], cs => cs = []
  | t :: ts, cs => ∃ a b, cs = a ++ b ∧ HasC t a ∧ HasCs ts b
end
def tysC (f : TypeId → Option Ty) : List Field → Nat → Option (List Ty)
  | [], _ => some []
  | x :: xs, o => match f x.type with
    | some t => if x.offset = o then (match tysC f xs (o + t.cells) with
      | some ts => some (t :: ts)
      | none => none) else none
    | none => none
def tyC (P : Program) : Nat → TypeId → Option Ty
  | 0, _ => none
  | d + 1, t =>
    let r : Option Ty := match P.underlying t with
      | some .bool => some .bool
      | some (.int k) => some (.int k)
      | some (.struct fs) => match tysC (tyC P d) fs.toList 0 with
        | some ts => some (.st ts)
        | none => none
      | some (.array n e) => match tyC P d e with
        | some ty => some (.arr n ty)
        | none => none
      | some (.slice e) => match tyC P d e with
        | some ty => if ty.cells ≠ 0 then some (.sl ty) else none
        | none => none
      | _ => none
    match r with
    | some ty => if P.cellsOf t = ty.cells then some ty else none
    | none => none
def allFrz (W : World) : Own where
  o b := if b < W.heap.size then .frz else .out
  lim b := blkSize W b
  cur _ := none
  tsz _ := 0
theorem base_allFrz (W : World) : Base (allFrz W) W := ⟨fun b => by simp only [allFrz]; split <;> simp, fun b h => by
  simp only [allFrz] at h
  split at h
  · assumption
  · exact absurd rfl h⟩
theorem tyC_cells {P : Program} {d : Nat} {t : TypeId} {ty : Ty} (h : tyC P d t = some ty) : P.cellsOf t = ty.cells := by
  cases d with
  | zero => simp [tyC] at h
  | succ d =>
    unfold tyC at h
    simp only at h
    split at h
    · split at h
      · simp only [Option.some.injEq] at h; subst h; assumption
      · cases h
    · cases h
theorem choose_list {α : Type} {p : Nat → α → Prop} : ∀ (n : Nat), (∀ i, i < n → ∃ x, p i x) → ∃ l : List α, l.length = n ∧ ∀ i x, l[i]? = some x → p i x
  | 0, _ => ⟨[], rfl, fun i x h => by simp at h⟩
  | n + 1, h => by
    obtain ⟨l, h1, h2⟩ := choose_list n (fun i hi => h i (by omega))
    obtain ⟨x, hx⟩ := h n (by omega)
    refine ⟨l ++ [x], by simp [h1], fun i y hy => ?_⟩
    by_cases hi : i < l.length
    · rw [List.getElem?_append_left hi] at hy; exact h2 i y hy
    · rw [List.getElem?_append_right (by omega)] at hy
      have : i - l.length = 0 := by
        have := (List.getElem?_eq_some_iff.1 hy).1
        simp at this; omega
      rw [this] at hy
      simp only [List.getElem?_cons_zero, Option.some.injEq] at hy
      subst hy
      rw [show i = n by omega]; exact hx
/-- Plain cells. -/
def PlainL (vs : List V) : Prop := ∀ v ∈ vs, v.pure = true ∧ v.cellOk = true ∧ v.pm = true
section
variable {H : Type} {enc : TypeId × Value → H} {P : Program} {W : World} {held : Bool}
theorem cells_get {a : Addr} : ∀ {n : Nat} {cs : List Value}, W.cells? 0 a n = some cs → cs.length = n ∧ ∀ j, j < n → W.cell? (a.add j) = cs[j]? := by
  intro n cs h
  unfold World.cells? at h
  simp only [Nat.zero_le, if_true] at h
  have key : ∀ (l : List Nat) (cs : List Value), l.mapM (fun i => W.cell? (a.add i)) = some cs → cs.length = l.length ∧ ∀ (j i : Nat), l[j]? = some i → W.cell? (a.add i) = cs[j]? := by
    intro l
    induction l with
    | nil => intro cs h; simp at h; subst h; exact ⟨rfl, fun j i h => by simp at h⟩
    | cons k l ih =>
      intro cs h
      rw [List.mapM_cons] at h
      simp only [bind, Option.bind_eq_some_iff, pure, Option.some.injEq] at h
      obtain ⟨x, hx, ys, hy, rfl⟩ := h
      obtain ⟨h1, h2⟩ := ih ys hy
      refine ⟨by simp [h1], fun j i hj => ?_⟩
      cases j with
      | zero => simp only [List.getElem?_cons_zero, Option.some.injEq] at hj; subst hj; simpa using hx
      | succ j => simp only [List.getElem?_cons_succ] at hj ⊢; exact h2 j i hj
  obtain ⟨h1, h2⟩ := key _ _ h
  simp only [List.length_range] at h1
  exact ⟨h1, fun j hj => h2 j j (by rw [List.getElem?_range hj])⟩
theorem cell_spot {a : Addr} {x : Value} (h : W.cell? a = some x) : a.spot = none ∧ a.off < blkSize W a.block ∧ a.block < W.heap.size := by
  unfold World.cell? at h
  split at h
  · rename_i c t fz hc
    split at h
    · cases h
    · rename_i hs
      refine ⟨by cases hsp : a.spot <;> simp_all, ?_, (Array.getElem?_eq_some_iff.1 hc).1⟩
      unfold blkSize
      rw [hc]
      exact (Array.getElem?_eq_some_iff.1 h).1
  · cases h
theorem mapM_all {α β : Type} {f : α → Option β} : ∀ {l : List α} {ys : List β}, l.mapM f = some ys → ∀ a ∈ l, ∃ y, f a = some y
  | [], _, _, a, ha => by cases ha
  | b :: l, ys, h, a, ha => by
    rw [List.mapM_cons] at h
    simp only [bind, Option.bind_eq_some_iff, pure, Option.some.injEq] at h
    obtain ⟨y, hy, zs, hz, rfl⟩ := h
    rcases List.mem_cons.1 ha with rfl | ha
    · exact ⟨y, hy⟩
    · exact mapM_all hz a ha
theorem trod_arr {n : Nat} {t e : TypeId} {m : Nat} {cs : List Value} {x : DataW H × List MemPlace} (hu : P.underlying t = some (.array m e)) (h : DataW.trod enc P W 0 (fun _ => true) held (n + 1) t cs = some x) :
    cs.length = P.cellsOf t ∧ ∀ i, i < m → ∃ y, DataW.trod enc P W 0 (fun _ => true) held n e ((cs.drop (i * P.cellsOf e)).take (P.cellsOf e)) = some y := by
  unfold DataW.trod at h
  rw [hu] at h
  simp only at h
  split at h
  · rename_i hl
    refine ⟨hl, fun i hi => ?_⟩
    rw [Option.map_eq_some_iff] at h
    obtain ⟨ys, hy, _⟩ := h
    exact mapM_all hy i (List.mem_range.2 hi)
  · cases h
theorem plain_append {a b : List V} (ha : PlainL a) (hb : PlainL b) : PlainL (a ++ b) := fun v hv => by
  rcases List.mem_append.1 hv with h | h
  · exact ha v h
  · exact hb v h
theorem trod_cells : ∀ (n d : Nat) (t : TypeId) (ty : Ty) (cs : List Value) (x : DataW H × List MemPlace), tyC P d t = some ty → DataW.trod enc P W 0 (fun _ => true) held n t cs = some x →
    ∃ vs, DenL (allFrz W) W vs cs ∧ HasC ty vs ∧ PlainL vs
  | 0, _, _, _, _, _, _, h => by simp [DataW.trod] at h
  | n + 1, 0, _, _, _, _, hty, _ => by simp [tyC] at hty
  | n + 1, d + 1, t, ty, cs, x, hty, h => by
    have hce := tyC_cells hty
    unfold tyC at hty
    simp only at hty
    cases hu : P.underlying t with
    | none => simp [hu] at hty
    | some k =>
      cases k <;> simp only [hu, reduceCtorEq] at hty
      case bool =>
        split at hty
        · simp only [Option.some.injEq] at hty; subst hty
          obtain ⟨b, rfl, _⟩ := DataW.trod_bool hu h
          exact ⟨[.bool b], DenL.cons (by simp [Den]) DenL.nil, ⟨b, rfl⟩, fun v hv => by rw [List.mem_singleton] at hv; subst hv; exact ⟨rfl, rfl, rfl⟩⟩
        · cases hty
      case int q =>
        split at hty
        · simp only [Option.some.injEq] at hty; subst hty
          obtain ⟨m, rfl, _, hw⟩ := DataW.trod_int hu h
          exact ⟨[.int q m], DenL.cons (by simp [Den]) DenL.nil, ⟨m, rfl, hw⟩, fun v hv => by rw [List.mem_singleton] at hv; subst hv; exact ⟨rfl, rfl, rfl⟩⟩
        · cases hty
      case struct fs =>
        split at hty
        · rename_i ty' hr
          split at hty
          · simp only [Option.some.injEq] at hty; subst hty
            split at hr
            · rename_i ts hts
              simp only [Option.some.injEq] at hr; subst hr
              obtain ⟨xs, n', hn, hx, hlen, hxl, hall⟩ := DataW.trod_struct hu h
              have hn' : n' = n := by omega
              subst hn'
              have hall' : ∀ f ∈ fs.toList, ∃ y, DataW.trod enc P W 0 (fun _ => true) held n' f.type ((cs.drop f.offset).take (P.cellsOf f.type)) = some y := fun f hf => by
                obtain ⟨i, hi⟩ := List.getElem?_of_mem hf
                rw [Array.getElem?_toList] at hi
                have hlt : i < xs.length := by rw [hxl]; exact (Array.getElem?_eq_some_iff.1 hi).1
                exact ⟨xs[i], by rw [hall i f hi, List.getElem?_eq_getElem hlt]⟩
              have go : ∀ (l : List Field) (o : Nat) (ts : List Ty), tysC (tyC P d) l o = some ts → (∀ f ∈ l, ∃ y, DataW.trod enc P W 0 (fun _ => true) held n' f.type ((cs.drop f.offset).take (P.cellsOf f.type)) = some y) →
                  ∃ vs, DenL (allFrz W) W vs ((cs.drop o).take (cellsL ts)) ∧ HasCs ts vs ∧ PlainL vs := by
                intro l
                induction l with
                | nil =>
                  intro o ts h1 _
                  simp only [tysC, Option.some.injEq] at h1; subst h1
                  exact ⟨[], by simp [cellsL, DenL], rfl, fun v hv => by cases hv⟩
                | cons f l ih =>
                  intro o ts h1 h2
                  simp only [tysC] at h1
                  split at h1
                  · rename_i ty1 hty1
                    split at h1
                    · rename_i hof
                      split at h1
                      · rename_i ts' hts'
                        simp only [Option.some.injEq] at h1; subst h1
                        obtain ⟨y, hy⟩ := h2 f (by simp)
                        obtain ⟨v1, a1, a2, a3⟩ := trod_cells n' d f.type ty1 _ y hty1 hy
                        obtain ⟨v2, b1, b2, b3⟩ := ih _ _ hts' (fun g hg => h2 g (by simp [hg]))
                        refine ⟨v1 ++ v2, ?_, ⟨v1, v2, rfl, a2, b2⟩, plain_append a3 b3⟩
                        rw [cellsL, List.take_add]
                        rw [hof, tyC_cells hty1] at a1
                        rw [← List.drop_drop] at b1
                        exact a1.append b1
                      · cases h1
                    · cases h1
                  · cases h1
              obtain ⟨vs, g1, g2, g3⟩ := go fs.toList 0 ts hts hall'
              refine ⟨vs, ?_, g2, g3⟩
              rw [List.drop_zero, List.take_of_length_le (by rw [hlen, hce]; exact Nat.le_refl _)] at g1
              exact g1
            · cases hr
          · cases hty
        · cases hty
      case array m e =>
        split at hty
        · rename_i ty' hr
          split at hty
          · simp only [Option.some.injEq] at hty; subst hty
            split at hr
            · rename_i te hte
              simp only [Option.some.injEq] at hr; subst hr
              obtain ⟨hlen, hall⟩ := trod_arr hu h
              have hcs := tyC_cells hte
              obtain ⟨es, h1, h2⟩ := choose_list (p := fun i vs => DenL (allFrz W) W vs ((cs.drop (i * P.cellsOf e)).take (P.cellsOf e)) ∧ HasC te vs ∧ PlainL vs) m (fun i hi => by
                obtain ⟨y, hy⟩ := hall i hi
                exact trod_cells n d e te _ y hte hy)
              have key : ∀ (l : List (List V)) (k : Nat), (∀ i vs, l[i]? = some vs → DenL (allFrz W) W vs ((cs.drop ((k + i) * P.cellsOf e)).take (P.cellsOf e))) → DenL (allFrz W) W l.flatten ((cs.drop (k * P.cellsOf e)).take (l.length * P.cellsOf e)) := by
                intro l
                induction l with
                | nil => intro k _; simp [DenL]
                | cons v l ih =>
                  intro k hk
                  rw [List.flatten_cons, List.length_cons, Nat.succ_mul, Nat.add_comm, List.take_add, List.drop_drop]
                  refine DenL.append (hk 0 v rfl) ?_
                  have := ih (k + 1) (fun i vs hi => by
                    have := hk (i + 1) vs (by simpa using hi)
                    rwa [show k + (i + 1) = k + 1 + i by omega] at this)
                  rwa [Nat.succ_mul] at this
              have hmem : ∀ vs ∈ es, HasC te vs ∧ PlainL vs := fun vs hv => by
                obtain ⟨i, hi⟩ := List.getElem?_of_mem hv
                exact (h2 i vs hi).2
              refine ⟨es.flatten, ?_, ⟨es, h1, rfl, fun v hv => (hmem v hv).1⟩, fun v hv => ?_⟩
              · have := key es 0 (fun i vs hi => by rw [Nat.zero_add]; exact (h2 i vs hi).1)
                rw [Nat.zero_mul, List.drop_zero, h1, List.take_of_length_le (by rw [hlen, hce, Ty.cells, hcs]; exact Nat.le_refl _)] at this
                exact this
              · obtain ⟨l, hl, hvl⟩ := List.mem_flatten.1 hv
                exact (hmem l hl).2 v hvl
            · cases hr
          · cases hty
        · cases hty
      case slice e =>
        split at hty
        · rename_i ty' hr
          split at hty
          · simp only [Option.some.injEq] at hty; subst hty
            split at hr
            · rename_i te hte
              split at hr
              · rename_i hnz
                simp only [Option.some.injEq] at hr; subst hr
                have hcs := tyC_cells hte
                rcases DataW.trod_slice hu h with ⟨rfl, _⟩ | ⟨a, len, cap, elems, rest, n', hn, rfl, hx, _, hlc, hmx, hel, hget, hspare, _⟩
                · exact ⟨[.nil], DenL.cons (by simp [Den]) DenL.nil, .inl rfl, fun v hv => by rw [List.mem_singleton] at hv; subst hv; exact ⟨rfl, rfl, rfl⟩⟩
                · have hn' : n' = n := by omega
                  subst hn'
                  have hplain : ∀ es : List (List V), PlainL [V.sl none te.cells es] := fun es v hv => by rw [List.mem_singleton] at hv; subst hv; exact ⟨rfl, rfl, rfl⟩
                  by_cases hcap : cap = 0
                  · have : len = 0 := by omega
                    subst this; subst hcap
                    refine ⟨[.sl none te.cells []], DenL.cons ?_ DenL.nil, .inr ⟨[], rfl, Nat.zero_le _, fun x hx => by cases hx⟩, hplain []⟩
                    simp only [Den]
                    exact .inl ⟨trivial, _, rfl⟩
                  · -- some cell is there: the address is plain
                    have hcell : ∃ y, W.cell? a = some y := by
                      by_cases hl : len = 0
                      · have := (hspare rfl).2 0 (by omega)
                        have hr0 : ∃ z, rest[0]? = some z := ⟨_, List.getElem?_eq_getElem (by rw [(hspare rfl).1]; omega)⟩
                        obtain ⟨z, hz⟩ := hr0
                        rw [hz, hl] at this
                        rw [Option.bind_eq_some_iff] at this
                        obtain ⟨c0, hc0, _⟩ := this
                        obtain ⟨g1, g2⟩ := cells_get hc0
                        have := g2 0 (by omega)
                        rw [List.getElem?_eq_getElem (by omega)] at this
                        simp only [Nat.add_zero, Nat.zero_mul, Addr.add, if_true] at this
                        exact ⟨_, this⟩
                      · have := hget 0 (by omega)
                        have hr0 : ∃ z, elems[0]? = some z := ⟨_, List.getElem?_eq_getElem (by omega)⟩
                        obtain ⟨z, hz⟩ := hr0
                        rw [hz] at this
                        rw [Option.bind_eq_some_iff] at this
                        obtain ⟨c0, hc0, _⟩ := this
                        obtain ⟨g1, g2⟩ := cells_get hc0
                        have := g2 0 (by omega)
                        rw [List.getElem?_eq_getElem (by omega)] at this
                        simp only [Nat.zero_mul, Addr.add, if_true] at this
                        exact ⟨_, this⟩
                    obtain ⟨y0, hy0⟩ := hcell
                    obtain ⟨hsp, _, hbs⟩ := cell_spot hy0
                    obtain ⟨b, off, sp⟩ := a
                    simp only at hsp hbs
                    subst hsp
                    obtain ⟨es, h1, h2⟩ := choose_list (p := fun i vs => DenC (allFrz W) W vs b (off + i * P.cellsOf e) ∧ HasC te vs ∧ PlainL vs ∧ vs.length = P.cellsOf e) len (fun i hi => by
                      have := hget i hi
                      have hr0 : ∃ z, elems[i]? = some z := ⟨_, List.getElem?_eq_getElem (by omega)⟩
                      obtain ⟨z, hz⟩ := hr0
                      rw [hz, Option.bind_eq_some_iff] at this
                      obtain ⟨c0, hc0, hc1⟩ := this
                      obtain ⟨g1, g2⟩ := cells_get hc0
                      obtain ⟨vs, a1, a2, a3⟩ := trod_cells n' d e te c0 z hte hc1
                      have hvl : vs.length = P.cellsOf e := by rw [← a1.length, g1]
                      refine ⟨vs, rowC a1 (fun v hv => ⟨(a3 v hv).1, (a3 v hv).2.1⟩) (fun j y hj => ?_), a2, a3, hvl⟩
                      have hjl : j < P.cellsOf e := by
                        have := (List.getElem?_eq_some_iff.1 hj).1
                        omega
                      have := g2 j hjl
                      rw [hj, addr_add, addr_add] at this
                      obtain ⟨_, q2, _⟩ := cell_spot this
                      exact ⟨q2, this⟩)
                    have hmem : ∀ vs ∈ es, HasC te vs := fun vs hv => by
                      obtain ⟨i, hi⟩ := List.getElem?_of_mem hv
                      exact (h2 i vs hi).2.1
                    refine ⟨[.sl none te.cells es], DenL.cons ?_ DenL.nil, .inr ⟨es, rfl, by rw [h1]; omega, hmem⟩, hplain es⟩
                    simp only [Den]
                    refine .inr ⟨b, off, cap - len, ?_, .inl (by simp only [allFrz, if_pos hbs]), ?_⟩
                    · rw [h1]; congr 1; omega
                    · have key : ∀ (l : List (List V)) (k : Nat), (∀ i vs, l[i]? = some vs → DenC (allFrz W) W vs b (off + (k + i) * P.cellsOf e) ∧ HasC te vs ∧ PlainL vs ∧ vs.length = P.cellsOf e) → DenE (allFrz W) W l te.cells b (off + k * P.cellsOf e) := by
                        intro l
                        induction l with
                        | nil => intro k _; trivial
                        | cons v l ih =>
                          intro k hk
                          obtain ⟨q1, q2, q3, q4⟩ := hk 0 v rfl
                          simp only [DenE]
                          refine ⟨by rw [q4, hcs], List.all_eq_true.2 fun u hu => (q3 u hu).2.2, q1, ?_⟩
                          have := ih (k + 1) (fun i vs hi => by
                            have := hk (i + 1) vs (by simpa using hi)
                            rwa [show k + (i + 1) = k + 1 + i by omega] at this)
                          rw [Nat.succ_mul, hcs, ← Nat.add_assoc] at this
                          rw [hcs]
                          exact this
                      have := key es 0 (fun i vs hi => by rw [Nat.zero_add]; exact h2 i vs hi)
                      rwa [Nat.zero_mul, Nat.add_zero] at this
              · cases hr
            · cases hr
          · cases hty
        · cases hty
end
end Go.Lo

/- From the logical machine's word to a row. -/
namespace Go.Lo
open Go.RowKit (Below)

/-- A value of the type. -/
def HasV : Ty → V → Prop
  | .st fs, v => ∃ cs, v = .agg cs ∧ HasCs fs cs
  | .arr n e, v => ∃ cs, v = .agg cs ∧ HasC (.arr n e) cs
  | .bool, v => HasC .bool [v]
  | .int k, v => HasC (.int k) [v]
  | .sl e, v => HasC (.sl e) [v]
def HasVs : List Ty → List V → Prop
  | [], vs => vs = []
  | t :: ts, vs => ∃ v us, vs = v :: us ∧ HasV t v ∧ HasVs ts us
theorem plain_pureL : ∀ {vs : List V}, PlainL vs → pureL vs = true
  | [], _ => rfl
  | v :: vs, h => by
    simp only [pureL, (h v (by simp)).1, if_true]
    exact plain_pureL fun u hu => h u (by simp [hu])
section
variable {H : Type} {enc : TypeId × Value → H} {P : Program} {W : World} {held : Bool}
theorem val_of_data {r : Reach} {base d : Nat} {t : TypeId} {ty : Ty} {x : Value} {dd : DataW H} {p : List MemPlace} (hok : Value.okWide P W r base t x) (hty : tyC P d t = some ty) (h : DataW.Trod enc P W 0 (fun _ => true) held t x dd p) :
    ∃ v, Den (allFrz W) W v x ∧ HasV ty v ∧ v.pure = true := by
  obtain ⟨fuel, hf⟩ := h
  obtain ⟨vs, h1, h2, h3⟩ := trod_cells fuel d t ty _ _ hty hf
  have one : (∀ cs, x ≠ .agg cs) → ∃ v, vs = [v] ∧ Den (allFrz W) W v x ∧ v.pure = true := by
    intro hne
    have hc : x.cells.toList = [x] := by cases x <;> first | rfl | (exact absurd rfl (hne _))
    rw [hc] at h1
    cases vs with
    | nil => simp [DenL] at h1
    | cons v vs =>
      simp only [DenL] at h1
      obtain ⟨y, ys, e, g1, g2⟩ := h1
      injection e with e1 e2
      subst e1; subst e2
      cases vs with
      | nil => exact ⟨v, rfl, g1, (h3 v (by simp)).1⟩
      | cons u us => simp [DenL] at g2
  have agg : (∃ cs, x = .agg cs) → Den (allFrz W) W (.agg vs) x ∧ (V.agg vs).pure = true := by
    rintro ⟨cs, rfl⟩
    refine ⟨?_, by simp only [V.pure]; exact plain_pureL h3⟩
    simp only [Den]
    exact ⟨cs.toList, by simp, by simpa [Value.cells] using h1⟩
  unfold Value.okWide at hok
  have hty' := hty
  cases d with
  | zero => simp [tyC] at hty
  | succ d =>
    unfold tyC at hty
    simp only at hty
    cases hu : P.underlying t with
    | none => simp [hu] at hty
    | some k =>
      cases k <;> simp only [hu, reduceCtorEq] at hty hok
      case bool =>
        split at hty
        · simp only [Option.some.injEq] at hty; subst hty
          obtain ⟨v, rfl, g1, g2⟩ := one (fun cs e => by subst e; simp [Cell.okWide, Cell.ok, hu] at hok)
          exact ⟨v, g1, h2, g2⟩
        · cases hty
      case int q =>
        split at hty
        · simp only [Option.some.injEq] at hty; subst hty
          obtain ⟨v, rfl, g1, g2⟩ := one (fun cs e => by subst e; simp [Cell.okWide, Cell.ok, hu] at hok)
          exact ⟨v, g1, h2, g2⟩
        · cases hty
      case slice e =>
        obtain ⟨v, rfl, g1, g2⟩ := one (fun cs e => by subst e; simp [Cell.okWide, Cell.ok, hu] at hok)
        refine ⟨v, g1, ?_, g2⟩
        split at hty
        · rename_i ty' hr
          split at hty
          · simp only [Option.some.injEq] at hty; subst hty
            split at hr
            · split at hr
              · simp only [Option.some.injEq] at hr; subst hr; exact h2
              · cases hr
            · cases hr
          · cases hty
        · cases hty
      case struct fs =>
        obtain ⟨cs, hx, _⟩ := hok
        obtain ⟨g1, g2⟩ := agg ⟨cs, hx⟩
        refine ⟨_, g1, ?_, g2⟩
        split at hty
        · rename_i ty' hr
          split at hty
          · simp only [Option.some.injEq] at hty; subst hty
            split at hr
            · simp only [Option.some.injEq] at hr; subst hr; exact ⟨vs, rfl, h2⟩
            · cases hr
          · cases hty
        · cases hty
      case array m e =>
        obtain ⟨cs, hx, _⟩ := hok
        obtain ⟨g1, g2⟩ := agg ⟨cs, hx⟩
        refine ⟨_, g1, ?_, g2⟩
        split at hty
        · rename_i ty' hr
          split at hty
          · simp only [Option.some.injEq] at hty; subst hty
            split at hr
            · simp only [Option.some.injEq] at hr; subst hr; exact ⟨vs, rfl, h2⟩
            · cases hr
          · cases hty
        · cases hty
theorem vals_of_data {r : Reach} {base d : Nat} : ∀ {ts : List TypeId} {tys : List Ty} {xs : List Value} {ds : List (DataW H)} {p : List MemPlace}, ts.mapM (tyC P d) = some tys → (∀ (j : Nat) t v, ts[j]? = some t → xs[j]? = some v → Value.okWide P W r base t v) →
    DataW.TrodAll enc P W 0 (fun _ => true) held ts xs ds p → ∃ vs, DenL (allFrz W) W vs xs ∧ HasVs tys vs ∧ pureL vs = true
  | [], tys, xs, ds, p, h1, _, h3 => by
    simp at h1; subst h1
    cases xs <;> cases ds <;> simp [DataW.TrodAll] at h3
    exact ⟨[], DenL.nil, rfl, rfl⟩
  | t :: ts, tys, xs, ds, p, h1, h2, h3 => by
    rw [List.mapM_cons] at h1
    simp only [bind, Option.bind_eq_some_iff, pure, Option.some.injEq] at h1
    obtain ⟨ty, hty, tys', htys, rfl⟩ := h1
    cases xs with
    | nil => cases ds <;> simp [DataW.TrodAll] at h3
    | cons x xs =>
      cases ds with
      | nil => simp [DataW.TrodAll] at h3
      | cons dd ds =>
        obtain ⟨p1, p2, g1, g2, _⟩ := h3
        obtain ⟨v, a1, a2, a3⟩ := val_of_data (h2 0 t x rfl rfl) hty g1
        obtain ⟨vs, b1, b2, b3⟩ := vals_of_data htys (fun j t v hj hv => h2 (j + 1) t v (by simpa using hj) (by simpa using hv)) g2
        exact ⟨v :: vs, DenL.cons a1 b1, ⟨v, vs, rfl, a2, b2⟩, by simp only [pureL, a3, if_true]; exact b3⟩
theorem args_stay {W' : World} (hl : laidOutB P = true) (hb : Below W.heap.size W W') : ∀ {ts : List TypeId} {xs : List Value} {ds : List (DataW H)} {p : List MemPlace}, (∀ t ∈ ts, P.readableRec t = true ∧ t < P.types.size) → (∀ x ∈ p, x.block < W.heap.size) →
    DataW.TrodAll enc P W 0 (fun _ => true) true ts xs ds p → DataW.TrodAll enc P W' 0 (fun b => decide (b < W.heap.size)) true ts xs ds p
  | [], xs, ds, p, _, _, h => by
    cases xs <;> cases ds <;> simp [DataW.TrodAll] at h ⊢
    exact h
  | t :: ts, xs, ds, p, ht, hp, h => by
    cases xs with
    | nil => cases ds <;> simp [DataW.TrodAll] at h
    | cons x xs =>
      cases ds with
      | nil => simp [DataW.TrodAll] at h
      | cons dd ds =>
        obtain ⟨p1, p2, g1, g2, rfl⟩ := h
        obtain ⟨h1, h2⟩ := ht t (by simp)
        exact ⟨p1, p2, Below.trod hl h1 h2 g1 hb (fun x hx => hp x (by simp [hx])), args_stay hl hb (fun t ht' => ht t (by simp [ht'])) (fun x hx => hp x (by simp [hx])) g2, rfl⟩
end
/-- The contract of a law: whatever the input, true; and the input reads as it did. -/
theorem law_contract {H : Type} {enc : TypeId × Value → H} {P : Program} (hl : laidOutB P = true) {f : Nat} {fn : Func} {s : ChangeSpec} (hvars : s.vars = []) {tb : TypeId} (hres : fn.resultTypes = #[tb]) (htb : P.underlying tb = some .bool) {d : Nat} {tys : List Ty} (htys : fn.params.toList.mapM (tyC P d) = some tys)
    (hread : ∀ t ∈ fn.params.toList, P.readableRec t = true ∧ t < P.types.size) (hspec : ∀ ds : List (DataW H), ds.length = fn.params.size → (s.fn H ds).results = [.lit (.bool true)] ∧ (s.fn H ds).args = ds ∧ (s.fn H ds).vars = [])
    (hrun : ∀ vs, HasVs tys vs → CallOk P f vs (.bool true)) :
    ∀ (W : World) (base : Nat) (args : Array Value) (ds gs : List (DataW H)) (before : List MemPlace), (∀ (j : Nat) t v, fn.params[j]? = some t → args[j]? = some v → Value.okWide P W .any base t v) → DataW.Whole enc P fn.params.toList s.vars false W args.toList ds gs before →
      Calls P f args W fun e W' => ∃ v, e = .returned v ∧ s.post enc P fn false true false false W args v W' := by
  intro W base args ds gs before hval hW
  have hW' := hW
  have hlt := hW.lt
  obtain ⟨p, q, hA, hV, rfl, _, _⟩ := hW
  rw [hvars] at hV
  obtain ⟨rfl, rfl⟩ := ChangeShapes.trodVars_none hV
  simp only [List.append_nil] at hlt
  obtain ⟨vs, h1, h2, h3⟩ := vals_of_data htys (fun j t v hj hv => hval j t v (by simpa using hj) (by simpa using hv)) hA
  have hc := (hrun vs h2).1 h3 (allFrz W) W args.toList (base_allFrz W) h1
  rw [Array.toArray_toList] at hc
  refine hc.mono fun e W1 ⟨x, Ω1, he, hb, hd, _⟩ => ⟨x, he, ?_⟩
  simp only [Den] at hd
  subst hd
  have hdl : ds.length = fn.params.size := by
    have key : ∀ (ts : List TypeId) (xs : List Value) (ds : List (DataW H)) (p : List MemPlace), DataW.TrodAll enc P W 0 (fun _ => true) true ts xs ds p → ds.length = ts.length := by
      intro ts
      induction ts with
      | nil => intro xs ds p h; cases xs <;> cases ds <;> simp [DataW.TrodAll] at h ⊢
      | cons t ts ih =>
        intro xs ds p h
        cases xs with
        | nil => cases ds <;> simp [DataW.TrodAll] at h
        | cons x xs =>
          cases ds with
          | nil => simp [DataW.TrodAll] at h
          | cons d ds =>
            obtain ⟨p1, p2, _, g2, _⟩ := h
            simp [ih _ _ _ g2]
    have := key _ _ _ _ hA
    simpa using this
  obtain ⟨k1, k2, k3⟩ := hspec ds hdl
  refine ⟨ds, [], _, [], p, [], hW', ?_, ?_, ?_, hb.frame _, fun h => by cases h⟩
  · rw [List.append_nil, k1, hres]
    exact ChangeShapes.trodAll_mk1 (RowKit.shut_bool htb true)
  · rw [List.append_nil, k2]
    exact args_stay hl hb hread hlt hA
  · rw [List.append_nil, k3, hvars]
    rfl
end Go.Lo
