/- Functions. -/
import Derived.Test.YtifanigkolnedaaMe
import Derived.RangeFuncLeaves
namespace Go.Lo
open Go.RowKit (Below)
section
variable {P : Program} {X : Sc} {w0 w : World} {Ω Ω0 : Own} {call : Nat → List V → Option V} {σ : St} {tm : Array Value}

/-- A walk that may turn nothing that was there. -/
def scOf (Ω0 : Own) : Sc where
  x _ := False
  o := Ω0.o
  lim := Ω0.lim
  j tr Ω _ := tr = none ∧ Ω.yl = none
  st h s := ⟨h.1, s.yl.trans h.2⟩
theorem plain_scOf (Ω0 : Own) : Plain (scOf Ω0) := ⟨fun _ _ _ h => h.1, fun _ _ _ _ _ _ _ _ h g => ⟨h.1, g.yl.trans h.2⟩⟩
/-- The marks are taken. -/
structure Taken (M : List Nat) (w w' : World) : Prop where
  os : w'.os = w.os
  tape : w'.tape = w.tape
  output : w'.output = w.output
  size : w'.heap.size = w.heap.size
  block : ∀ b, b ∉ M → w'.heap[b]? = w.heap[b]?
  gone : ∀ b, b ∈ M → w'.heap[b]? = some (.deferred none)
theorem leaves_marks {P : Program} {F : Fence} {n : Nat} {fn : Func} {tmps : Array Value} {R : Ending → World → Prop} : ∀ (M : List Nat) (w : World), M.Nodup → (∀ r ∈ M, w.heap[r]? = some (.deferred (some []))) →
    (∀ w', Taken M w w' → LeavesIn F n P fn tmps R [] .returning w') → LeavesInM F n P fn tmps R (marks M) .returning w
  | [], w, _, _, h => h w ⟨rfl, rfl, rfl, rfl, fun _ _ => rfl, fun _ hb => by cases hb⟩
  | r :: M, w, hn, hM, h => by
    obtain ⟨h1, h2⟩ := List.nodup_cons.1 hn
    refine ⟨by simp, .inl ⟨r, w.putObj r (.deferred none), rfl, run_takeDeferred (hM r (by simp)), ?_⟩⟩
    have hlt := (Array.getElem?_eq_some_iff.1 (hM r (by simp))).1
    refine leaves_marks M _ h2 (fun s hs => ?_) fun w' t => h w' ⟨t.os, t.tape, t.output, t.size.trans World.putObj_size, fun b hb => ?_, fun b hb => ?_⟩
    · rw [World.putObj_heap_other (fun e => h1 (by subst e; exact hs))]; exact hM s (by simp [hs])
    · simp only [List.mem_cons, not_or] at hb
      rw [t.block b hb.2, World.putObj_heap_other hb.1]
    · by_cases hs : b ∈ M
      · exact t.gone b hs
      · rcases List.mem_cons.1 hb with rfl | hb
        · rw [t.block b hs, World.putObj_heap_same hlt]
        · exact absurd hb hs
theorem inv_taken {M : List Nat} {w' : World} {Ωs : Own} {ws : World} (hp : Plain X) (hs : X.j none Ωs ws) (hws : ∀ r ∈ M, ws.heap.size ≤ r) (h : Inv (X.df M) w0 Ω w tm σ) (hl : ∀ r ∈ M, w0.heap.size ≤ r) (t : Taken M w w') : Inv X w0 Ω w' tm σ := by
  have h0 : Inv X w0 Ω w tm σ := h.sc rfl rfl rfl fun hj => hj.1
  have htr := hp.1 _ _ _ h0.out
  have key : ∀ b off, w'.cell? ⟨b, off, none⟩ = w.cell? ⟨b, off, none⟩ := fun b off => by
    by_cases hb : b ∈ M
    · unfold World.cell?
      rw [t.gone b hb, (h.out.2 b hb).2]
    · exact World.cell?_of_block (t.block b hb)
  refine h0.other (tr' := σ.tr) ⟨t.os.trans h0.kept.os, t.tape.trans h0.kept.tape, t.output.trans h0.kept.output, by rw [t.size]; exact h0.kept.size, fun b hb hX => ?_⟩ (Nat.le_of_eq t.size.symm) (fun b hm => t.block b fun hb => (h.out.2 b hb).1 hm) (fun b off _ _ => key b off) ?_
  · rw [t.block b (fun hm => absurd (hl b hm) (Nat.not_le_of_lt hb))]; exact h0.kept.block b hb hX
  · have hj := h0.out
    rw [htr] at hj ⊢
    exact hp.2 none Ωs ws Ω Ω w w' hs hj ⟨t.os, t.tape, t.output, Nat.le_of_eq t.size.symm, fun b hb => t.block b (fun hm => absurd (hws b hm) (Nat.not_le_of_lt hb)), fun _ _ => ⟨rfl, rfl⟩, fun _ h => h, fun b hb => by rw [t.size]; exact h0.bnd b hb, rfl⟩
theorem itemsL_tups : ∀ (l : List (List V)), itemsL (tupsL l) = some l
  | [] => rfl
  | x :: l => by simp only [tupsL, itemsL, itemsL_tups l]
theorem pure_ranged : ∀ {args : List V}, pureL args = true → ranged args = false
  | [], _ => rfl
  | v :: vs, h => by
    simp only [pureL] at h
    split at h
    · rename_i hv
      have ih := pure_ranged h
      cases v <;> first | exact ih | skip
      rename_i f cs
      cases f with
      | f n => exact ih
      | m n => exact ih
      | y b => simp [V.pure] at hv
    · cases h
theorem ranged_mid {y : Nat} {post : List V} : ∀ {pre : List V}, ranged (pre ++ .fn (.y y) [] :: post) = true
  | [] => rfl
  | v :: vs => by
    have ih := ranged_mid (y := y) (post := post) (pre := vs)
    cases v <;> first | exact ih | skip
    rename_i f cs
    cases f with
    | f n => exact ih
    | m n => exact ih
    | y b => rfl
theorem finOk (h : Inv (scOf Ω0) w0 Ω w tm σ) {U G : List Nat} (hU : U.Nodup) (ha : ∀ t ∈ U, t ∉ G) : FinOk Ω (Ω.fin Ω0 w0.heap.size U) w U G := by
  have new : ∀ b t p, Ω.o b = .arr t p → ¬ b < w0.heap.size := fun b t p hb hlt => h.oldArr hlt (fun x => x) t p hb
  refine ⟨⟨fun b hb => ?_, fun b hb => ?_, fun _ _ _ _ => rfl⟩, fun b t p hb => ?_, fun b t p k hb hk => ?_, fun b t p hb hg => ?_⟩
  · by_cases hlt : b < w0.heap.size
    · have := (h.old b hlt (fun x => x)).1
      rcases hb with hb | ⟨t, hb⟩
      · exact .inl (by simp only [Own.fin, if_pos hlt]; rw [← hb, this]; rfl)
      · exact (new b t true hb hlt).elim
    · rcases hb with hb | ⟨t, hb⟩
      · exact .inl (by simp only [Own.fin, if_neg hlt, hb])
      · cases hp : posN t U with
        | none => exact .inl (by simp only [Own.fin, if_neg hlt, hb, hp])
        | some k => exact .inr ⟨k, by simp only [Own.fin, if_neg hlt, hb, hp]⟩
  · by_cases hlt : b < w0.heap.size
    · have := (h.old b hlt (fun x => x)).2
      simp only [Own.fin, if_pos hlt]
      rw [this]; exact Nat.le_refl _
    · simp only [Own.fin, if_neg hlt]; exact Nat.le_refl _
  · simp only [Own.fin, if_neg (new b t p hb)]
  · refine ⟨by simp only [Own.fin, if_neg (new b t p hb), hb, posN_of hU hk], by simp only [Own.fin, hk], by simp only [Own.fin, hk]⟩
  · cases hp : posN t U with
    | none => exact .inl (by simp only [Own.fin, if_neg (new b t p hb), hb, hp])
    | some k => exact (ha t (List.mem_of_getElem? (posN_get hp)) hg).elim
theorem fin_tok (h : Inv (scOf Ω0) w0 Ω w tm σ) (hb0 : Base Ω0 w0) {U : List Nat} (hU : U.Nodup) {k n t : Nat} (hk : U[k]? = some t) (ht : get σ.tk t = some (n, true)) : TokOk (Ω.fin Ω0 w0.heap.size U) w k n true := by
  obtain ⟨c, q, T, xs, g1, ⟨p, g2⟩, g3, g4, g5, g6, g7, g8⟩ := h.tok t n true ht
  have hc : ¬ c < w0.heap.size := fun hlt => h.oldArr hlt (fun x => x) t p g2
  refine ⟨c, q, T, xs, by simp only [Own.fin, hk, g1], ⟨p, by simp only [Own.fin, if_neg hc, g2, posN_of hU hk]⟩, g3, by simp only [Own.fin, hk]; exact g4, g5, by simp only [Own.fin, if_neg hc, hk]; exact g6, by simp only [Own.fin, hk]; exact g7, fun _ b p' hb => ?_⟩
  simp only [Own.fin] at hb
  split at hb
  · rcases hb0.o b with e | e | e <;> rw [e] at hb <;> cases hb
  · split at hb
    · rename_i t' p2 h2
      split at hb
      · rename_i k' hp
        injection hb with e1 e2
        subst e1; subst e2
        have := posN_get hp
        rw [hk] at this
        injection this with this; subst this
        exact g8 rfl b _ h2
      · cases hb
    · cases hb
    · cases hb
theorem one_tks {vs : List V} {k n : Nat} (h : (k, n) ∈ (one vs).tks) : (k, n) ∈ tksL vs := by
  unfold one at h
  split at h
  · simpa [tksL] using h
  · simpa [V.tks] using h
theorem one_den {vs : List V} {xs : List Value} (h : DenL Ω w vs xs) : Den Ω w (one vs) (if h : xs.length = 1 then xs[0] else .tuple xs.toArray) := by
  unfold one
  split
  · rename_i v
    simp only [DenL] at h
    obtain ⟨x, ys, rfl, h1, rfl⟩ := h
    simpa using h1
  · rename_i hne
    have hl := h.length
    have : ¬ xs.length = 1 := fun e => by
      rw [hl] at e
      obtain ⟨v, rfl⟩ := List.length_eq_one_iff.1 e
      exact hne v rfl
    rw [dif_neg this]
    simp only [Den]
    exact ⟨xs, rfl, h⟩
theorem params_get : ∀ {vs : List V} {k s : Nat} {v : V}, get (params k vs) s = some v → ∃ j, s = k + j ∧ vs[j]? = some v
  | [], k, s, v, h => by simp [params, get] at h
  | u :: vs, k, s, v, h => by
    simp only [params, get] at h
    split at h
    · rename_i e
      injection h with h; subst h; subst e
      exact ⟨0, rfl, rfl⟩
    · obtain ⟨j, e, hj⟩ := params_get h
      exact ⟨j + 1, by omega, by simpa using hj⟩
theorem deadL_get : ∀ {l : List Nat} {s : Nat} {v : V}, get (deadL l) s = some v → s ∈ l ∧ v = .dead
  | [], s, v, h => by simp [deadL, get] at h
  | k :: l, s, v, h => by
    simp only [deadL, get] at h
    split at h
    · rename_i e
      injection h with h; subst h; subst e
      exact ⟨by simp, rfl⟩
    · obtain ⟨h1, h2⟩ := deadL_get h
      exact ⟨by simp [h1], h2⟩
theorem get_append {α : Type} : ∀ {a b : List (Nat × α)} {s : Nat} {v : α}, get (a ++ b) s = some v → get a s = some v ∨ get b s = some v
  | [], b, s, v, h => .inr h
  | (k, u) :: a, b, s, v, h => by
    simp only [List.cons_append, get] at h ⊢
    split at h
    · rename_i e; rw [if_pos e]; exact .inl h
    · rename_i e; rw [if_neg e]; exact get_append h
theorem inv_start (X : Sc) {tr0 : Option (List (List V))} (ho : X.o = Ω0.o) (hlm : X.lim = Ω0.lim) (hj : X.j tr0 Ω0 w) (hb : Base Ω0 w) {args : List V} {xs : List Value} (hd : DenL Ω0 w args xs) (n : Nat) {sl : List Nat} (hsl : ∀ s ∈ sl, s < xs.length + n) :
    Inv X w Ω0 w (xs.toArray ++ Array.replicate n undef) { fr := params 0 args ++ deadL sl, tk := [], tr := tr0 } where
  kept := Kept.refl _ _
  ownB b s h := by rcases hb.o b with e | e | e <;> rw [e] at h <;> cases h
  ownA b t p h := by rcases hb.o b with e | e | e <;> rw [e] at h <;> cases h
  bnd := hb.bnd
  uniq b b' s h := by rcases hb.o b with e | e | e <;> rw [e] at h <;> cases h
  limB b s h := by rcases hb.o b with e | e | e <;> rw [e] at h <;> cases h
  slot s v hs := by
    rcases get_append hs with hs | hs
    case inr =>
      obtain ⟨h1, rfl⟩ := deadL_get hs
      exact ⟨by simp only [Array.size_append, List.size_toArray, Array.size_replicate]; exact hsl s h1, by simp [DenS, Den]⟩
    obtain ⟨j, e, hj⟩ := params_get hs
    rw [Nat.zero_add] at e; subst e
    obtain ⟨x, hx, hv⟩ := hd.get hj
    have hlt := (List.getElem?_eq_some_iff.1 hx).1
    refine ⟨by simp only [Array.size_append, List.size_toArray]; omega, DenS.of ?_⟩
    have : (xs.toArray ++ Array.replicate n undef).getD s undef = x := by
      rw [Array.getD_eq_getD_getElem?, Array.getElem?_append_left (by simpa using hlt)]
      simp [hx]
    rw [this]; exact hv
  tok t n wr h := by simp [get] at h
  old _ _ _ := by rw [ho, hlm]; exact ⟨rfl, rfl⟩
  out := hj
theorem fresh_start (hb : Base Ω0 w) (d : Nat) : Fresh Ω0 d := by
  refine ⟨fun b h => ?_, fun b t p _ h => ?_⟩ <;> rcases hb.o b with e | e | e <;> rw [e] at h <;> cases h
/-- A function does what its compiled form does. -/
theorem fun_sound (hmix : P.follows .mixedOrders = true) (hcall : CallsOk P call) {f : Nat} {fn : Func} (hf : P.funcs[f]? = some fn) (hn : fn.name ≠ "runtime.NumGoroutine") {kp : List (Nat × List Nat)} {lf : LFun} (hc : funC P kp fn = some lf)
    {N : Nat} {args : List V} {R : V} (hev : evBody call N lf args = some R) : Enters P f ∧ CallOk P f args R := by
  unfold funC at hc
  split at hc
  case h_2 => cases hc
  rename_i c hbody
  refine ⟨⟨fn, c, hf, hn, hbody⟩, ?_⟩
  split at hc
  case h_2 => cases hc
  rename_i b rs hb hrs
  split at hc
  case isFalse => cases hc
  rename_i hchk
  obtain ⟨k1, k2, k3, k4, k5⟩ := hchk
  simp only [Option.some.injEq] at hc; subst hc
  unfold evBody at hev
  simp only at hev
  split at hev
  case isFalse => cases hev
  rename_i hlen
  obtain ⟨ex, σ', hex, hevc, hres⟩ : ∃ ex σ', (ex = Ex.normal ∨ ex = Ex.ret) ∧ evC call N b { fr := params 0 args ++ deadL [], tk := [], tr := if ranged args = true then some [] else none } = some (ex, σ') ∧ finish (ranged args) rs σ' = some R := by
    split at hev
    · rename_i σ' h1; exact ⟨_, σ', .inl rfl, h1, hev⟩
    · rename_i σ' h1; exact ⟨_, σ', .inr rfl, h1, hev⟩
    · cases hev
  -- a walk through the body
  have walk : ∀ {X : Sc} {T : List (List V)} {Ω0 : Own} {w : World} {xs : List Value} {R' : Ending → World → Prop}, Base Ω0 w → DenL Ω0 w args xs → X.o = Ω0.o → X.lim = Ω0.lim → X.j (if ranged args = true then some [] else none) Ω0 w → ScOk P X w T none → UpTo T σ' →
      (∀ a' w' Ω' M', Arr X w none Ω0 { tmps := xs.toArray ++ Array.replicate (fn.ntmps - xs.toArray.size) undef, defers := [] } [] [] σ' (dstsC b) (onceC b ++ loopC b) a' w' Ω' M' → LeavesInM Fence.wide 0 P fn a'.tmps R' a'.defers .returning w') → Calls P f xs.toArray w R' := by
    intro X T Ω0 w xs R' hbase hd ho hl hj sc hT hK
    have hxl : xs.length = fn.params.size + fn.nfree := by rw [hd.length, hlen]
    have hsz : (xs.toArray ++ Array.replicate (fn.ntmps - xs.toArray.size) undef).size = fn.ntmps := by
      simp only [Array.size_append, List.size_toArray, Array.size_replicate]; omega
    have hinv := inv_start X ho hl hj hbase hd (fn.ntmps - xs.toArray.size) (sl := []) (fun s hs => by cases hs)
    refine callsIn_wide.1 (callsIn_of_wp_marks (n := 0) hf hbody trivial ?_)
    refine code_sound hcall hmix c hb sc (.inr rfl) (M := []) (df := []) List.nodup_nil (fun r hr => by cases hr) rfl hevc hT (hinv.sc rfl rfl rfl fun hj => ⟨hj, fun r hr => by cases hr⟩) (fun d hdd => ?_) (fun d _ => fresh_start hbase d) ⟨distinct_nodup k2, fun d hd hl => ?_⟩ ?_
    · show d < Array.size _
      rw [hsz]
      have := List.all_eq_true.1 k1 d hdd
      simpa using this
    · have := List.all_eq_true.1 k3 d hd
      simp only [Bool.and_eq_true, Bool.not_eq_true'] at this
      exact not_mem_of_memN this.1 hl
    · intro a' w' Ω' M' A
      have := hK a' w' Ω' M' A
      rcases hex with rfl | rfl <;> exact this
  refine ⟨fun hpure Ω0 w xs hbase hd => ?_, fun y pre post hargs T hRT X Ω w l xs zs hbase hyl hp1 hp2 hd1 hd2 ho hlm hj hnn hY => ?_⟩
  · -- called
    rw [pure_ranged hpure] at hres hevc walk
    simp only [Bool.false_eq_true, if_false] at hres hevc walk
    have hbase' : Base { Ω0 with yl := none } w := ⟨hbase.o, hbase.bnd⟩
    have hxp : ExtP Ω0 { Ω0 with yl := none } w w := ⟨fun _ h => h, fun _ h => .inr h, fun _ _ => Nat.le_refl _, fun _ _ _ _ => rfl⟩
    have hd' : DenL { Ω0 with yl := none } w args xs := DenL.extP hxp args xs hpure hd
    have trn : σ'.tr = none := (evC_tr b hevc).none rfl
    refine walk (X := scOf { Ω0 with yl := none }) (T := []) hbase' hd' rfl rfl ⟨rfl, rfl⟩ ⟨⟨fun _ _ h => h.2, fun _ _ _ _ _ _ _ _ _ h => (by have := h.1; cases this)⟩, .inl (plain_scOf _), fun _ h => by cases h⟩ (fun l hl => by rw [trn] at hl; cases hl) ?_
    intro a' w' Ω' M' A
    rw [A.defers, List.append_nil]
    refine leaves_marks M' w' A.nodup (fun r hr => (A.inv.out.2 r hr).2) fun w'' ht => ?_
    have hi : Inv (scOf { Ω0 with yl := none }) w Ω' w'' a'.tmps σ' := inv_taken (plain_scOf _) (Ωs := { Ω0 with yl := none }) (ws := w) ⟨rfl, rfl⟩ A.low A.inv A.low ht
    unfold finish result at hres
    simp only [Bool.false_eq_true, if_false] at hres
    split at hres
    case h_2 => cases hres
    rename_i vs hvs
    split at hres
    case h_2 => cases hres
    rename_i vs' us hfin
    injection hres with hres; subst hres
    obtain ⟨ys, r1, r2⟩ := rvs_sound (P := P) hi hrs hvs
    obtain ⟨U, G⟩ := us
    have hl := finL_lists vs vs' ([], []) (U, G) hfin
    have hU : U.Nodup := hl.nodup List.nodup_nil
    have ha : ∀ t ∈ U, t ∉ G := hl.apart (fun t h => by cases h)
    have hok := finOk hi hU ha
    have hden := DenL.fin hok vs vs' ([], []) (U, G) ys hfin (List.prefix_refl _) (fun _ h => h) r2
    refine ⟨_, run_results r1, _, Ω'.fin { Ω0 with yl := none } w.heap.size U, rfl, ?_, one_den hden, ?_⟩
    · exact ⟨hi.kept.os, hi.kept.tape, hi.kept.output, hi.kept.size, fun k hk => hi.kept.block k hk (fun x => x)⟩
    · refine ⟨fun b hlt => ⟨by simp only [Own.fin, if_pos hlt], by simp only [Own.fin, if_pos hlt]⟩, fun b hne => ?_, fun k n hk => ?_⟩
      · by_cases hlt : b < w.heap.size
        · exact Nat.lt_of_lt_of_le hlt hi.kept.size
        · refine hi.bnd b (fun e => hne ?_)
          simp only [Own.fin, if_neg hlt, e]
      · obtain ⟨t, q1, q2⟩ := finL_tks vs vs' ([], []) (U, G) hfin (List.prefix_refl _) k n (one_tks hk)
        exact fin_tok hi hbase' hU q1 q2
  · -- ranged over
    subst hargs
    have hrg : ranged (pre ++ V.fn (.y y) [] :: post) = true := ranged_mid
    rw [hrg] at hres hevc walk
    simp only [if_true] at hevc walk
    unfold finish at hres
    simp only [if_true] at hres
    split at hres
    case isFalse => cases hres
    rename_i hre
    split at hres
    case h_2 => cases hres
    rename_i tr htr
    injection hres with hres; subst hres
    simp only [itemsOf, itemsL_tups, Option.some.injEq] at hRT
    subst hRT
    have hd' : DenL Ω w (pre ++ V.fn (.y y) [] :: post) (xs ++ Value.func (.yield l) #[] #[] :: zs) := hd1.append (DenL.cons (by simp only [Den, DenL, Fk.Is]; exact ⟨[], ⟨l, hyl, rfl⟩, rfl⟩) hd2)
    refine walk (T := tr) hbase hd' ho hlm hj ⟨hY, .inr hnn, fun _ h => by cases h⟩ (fun l' hl' => by rw [htr] at hl'; injection hl' with hl'; subst hl'; exact List.prefix_refl _) ?_
    intro a' w' Ω' M' A
    have hM : M' = [] := by
      rcases A.same with e | e
      · exact e
      · have := e.1.1 _ _ _ hj; cases this
    subst hM
    rw [A.defers]
    have hi : Inv X w Ω' w' a'.tmps σ' := A.inv.sc rfl rfl rfl fun hj => hj.1
    have hrs0 : rs = [] := List.isEmpty_iff.1 hre
    obtain ⟨ys, r1, r2⟩ := rvs_sound (P := P) hi hrs (vs := []) (by rw [hrs0]; rfl)
    have hj' := hi.out
    rw [htr] at hj'
    exact ⟨_, run_results r1, _, Ω', rfl, hj'⟩
end
end Go.Lo
