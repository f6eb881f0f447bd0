/- Texts put together. -/
import Derived.Test.YtifanigkolnedaaPc
/- One operation of the plain machine, and of the logical one. -/
namespace Go.Lo

/-- Of results: whatever is known of the arrays that are given back. -/
structure RelR (r2 r : V) : Prop where
  ex : ∃ ρ : TkF, Rel r2 ρ r
  all : ∀ ρ : TkF, (∀ k n, (k, n) ∈ r.tks → ρ k = some (n, true)) → Rel r2 ρ r
def CallSim (call2 call : Nat → List V → Option V) : Prop := ∀ f as2 r2 as, call2 f as2 = some r2 → RelL as2 noT as →
  ∃ r, call f as = some r ∧ RelR r2 r ∧ ∀ l2, itemsOf (some r2) = some l2 → ∃ l, itemsOf (some r) = some l ∧ RelE l2 l
section
variable {call2 call : Nat → List V → Option V} {σ2 σ : St} {tk : TkF}

theorem RelL.inv1 {w : V} {vs : List V} (h : RelL [w] tk vs) : ∃ v, vs = [v] ∧ Rel w tk v := by
  simp only [RelL] at h; obtain ⟨v, r, rfl, h1, rfl⟩ := h; exact ⟨v, rfl, h1⟩
theorem RelL.inv2 {w w' : V} {vs : List V} (h : RelL [w, w'] tk vs) : ∃ v v', vs = [v, v'] ∧ Rel w tk v ∧ Rel w' tk v' := by
  simp only [RelL] at h; obtain ⟨v, r, rfl, h1, v', r', rfl, h2, rfl⟩ := h; exact ⟨v, v', rfl, h1, h2⟩
theorem RelL.inv {w : V} {ws vs : List V} (h : RelL (w :: ws) tk vs) : ∃ v r, vs = v :: r ∧ Rel w tk v ∧ RelL ws tk r := by
  simp only [RelL] at h; exact h
theorem RelL.inv0 {vs : List V} (h : RelL [] tk vs) : vs = [] := by simpa only [RelL] using h
theorem val_sim (h : RelS σ2 σ) {w v : V} (hw : Rel w (get σ.tk) v) (dst : Option Nat) : RelS (apply2 σ2 dst (.val w)) (apply σ dst (.val v)) := ⟨h.fr.putO hw dst, h.tr⟩
theorem valO_sim (h : RelS σ2 σ) {ow : Option V} {ov : Option V} {e2 : Eff2} (he : valO2 ow = some e2) (ho : ∀ w, ow = some w → ∃ v, ov = some v ∧ Rel w (get σ.tk) v) (dst : Option Nat) : ∃ e, valO ov = some e ∧ RelS (apply2 σ2 dst e2) (apply σ dst e) := by
  cases ow with
  | none => simp [valO2] at he
  | some w =>
    simp only [valO2, Option.some.injEq] at he; subst he
    obtain ⟨v, rfl, hv⟩ := ho w rfl
    exact ⟨_, rfl, val_sim h hv dst⟩
theorem tkOf_of {l : List (Nat × Nat × Bool)} {ex : List Nat} {t : Nat} (h : memN (t / 100) ex = false) : tkOf l ex t = get l t := by
  unfold tkOf; rw [if_neg (by rw [h]; simp)]
theorem loadV_rel {b2 b1 : Nat → Option (List V)} (hb : ∀ s cs, b2 s = some cs → ∃ ds, b1 s = some ds ∧ RelL cs tk ds) {n : Option Nat} {w v x : V} (h : Rel w tk v) (hl : loadV b2 n w = some x) : ∃ y, loadV b1 n v = some y ∧ Rel x tk y := by
  cases w <;> simp only [loadV, reduceCtorEq] at hl
  · simp only [Rel] at h; subst h
    simp only [loadV]
    split at hl
    · rename_i cs h1
      obtain ⟨ds, g1, g2⟩ := hb _ cs h1
      rw [g1]
      exact partV_rel g2 hl
    · cases hl
  · simp only [Rel] at h; obtain ⟨ds, rfl, h1⟩ := h
    exact partV_rel h1.wk hl
  · simp only [Rel] at h; obtain ⟨ds, rfl, h1, _⟩ := h
    exact partV_rel h1.wk hl
theorem binV_rel {ty : Nat} {op : BinOp} {w w' v v' x : V} (h : Rel w tk v) (h' : Rel w' tk v') (hb : binV2 ty op w w' = some x) : binV ty op v v' = some x ∧ Rel x tk x := by
  have out : ∀ {a b : V}, binV ty op a b = some x → Rel x tk x := by
    intro a b hx
    have : (∃ b, x = .bool b) ∨ ∃ k n, x = .int k n := by
      unfold binV at hx
      split at hx
      · split at hx
        · unfold binS at hx
          split at hx
          · cases hx
          · simp only [Option.some.injEq] at hx; exact .inr ⟨_, _, hx.symm⟩
        · unfold binS at hx
          split at hx
          · cases hx
          · simp only [Option.some.injEq] at hx; exact .inr ⟨_, _, hx.symm⟩
        · split at hx
          · unfold binI at hx
            split at hx <;> (try split at hx) <;> first | (cases hx; done) | (simp only [Option.some.injEq] at hx; first | exact .inl ⟨_, hx.symm⟩ | exact .inr ⟨_, _, hx.symm⟩)
          · cases hx
      · split at hx
        · split at hx <;> first | (cases hx; done) | (simp only [Option.some.injEq] at hx; exact .inl ⟨_, hx.symm⟩)
        · cases hx
      · split at hx
        · unfold nilCmp at hx
          split at hx <;> first | (cases hx; done) | (simp only [Option.some.injEq] at hx; exact .inl ⟨_, hx.symm⟩)
        · cases hx
      · split at hx
        · unfold nilCmp at hx
          split at hx <;> first | (cases hx; done) | (simp only [Option.some.injEq] at hx; exact .inl ⟨_, hx.symm⟩)
        · cases hx
      · cases hx
    rcases this with ⟨b, rfl⟩ | ⟨k, n, rfl⟩ <;> simp only [Rel]
  unfold binV2 at hb
  split at hb
  · rename_i u sz es
    split at hb
    · rename_i hc
      simp only [Rel] at h h'; subst h'
      rcases h with ⟨h0, h1, rfl⟩ | ⟨es', rfl, h1, _⟩
      · rcases hc.2 with hc | hc
        · rw [h0] at hc; cases hc
        · exact absurd h1 hc
      · have : binV ty op (.sl (some (tb u)) sz es') .nil = some x := by
          simp only [binV, if_pos hc.1]; exact hb
        exact ⟨this, out this⟩
    · cases hb
  · rename_i hne
    have key : ∀ {a b : V}, binV ty op a b = some x → (∃ k i, a = .int k i) ∨ (∃ c, a = .bool c) ∨ a = .nil ∨ ∃ t sz es, a = .sl (some t) sz es ∧ b = .nil := by
      intro a b hx
      unfold binV at hx
      split at hx
      · exact .inl ⟨_, _, rfl⟩
      · exact .inr (.inl ⟨_, rfl⟩)
      · exact .inr (.inr (.inl rfl))
      · exact .inr (.inr (.inr ⟨_, _, _, rfl, rfl⟩))
      · cases hx
    have hv : v = w := by
      rcases key hb with ⟨k, i, rfl⟩ | ⟨c, rfl⟩ | rfl | ⟨t, sz, es, rfl, rfl⟩
      · simpa only [Rel] using h
      · simpa only [Rel] using h
      · simpa only [Rel] using h
      · exact (hne _ _ _ rfl rfl).elim
    have hv' : v' = w' := by
      unfold binV at hb
      split at hb
      · simpa only [Rel] using h'
      · simpa only [Rel] using h'
      · simpa only [Rel] using h'
      · exact (hne _ _ _ rfl rfl).elim
      · cases hb
    rw [hv, hv']
    exact ⟨hb, out hb⟩
theorem unop_rel {op : UnOp} {w v x : V} (h : Rel w tk v) (hb : unV op w = some x) : unV op v = some x ∧ Rel x tk x := by
  unfold unV at hb
  split at hb
  · split at hb
    · simp only [Option.some.injEq] at hb; subst hb
      simp only [Rel] at h; subst h
      exact ⟨rfl, by simp only [Rel]⟩
    · cases hb
  · split at hb
    · simp only [Option.some.injEq] at hb; subst hb
      simp only [Rel] at h; subst h
      exact ⟨rfl, by simp only [Rel]⟩
    · cases hb
  · cases hb
theorem get_addT_mem : ∀ {ts : List (Nat × Nat)} {l : List (Nat × Nat × Bool)} {k n : Nat}, (ts.map (·.1)).Nodup → (k, n) ∈ ts → get (addT ts l) k = some (n, true)
  | [], _, _, _, _, h => by cases h
  | (t, m) :: ts, l, k, n, hn, h => by
    simp only [List.map_cons, List.nodup_cons] at hn
    simp only [addT]
    rcases List.mem_cons.1 h with h | h
    · simp only [Prod.mk.injEq] at h
      obtain ⟨rfl, rfl⟩ := h
      rw [get_addT_other fun p hp e => hn.1 (List.mem_map.2 ⟨p, hp, e⟩), get_put_same]
    · exact get_addT_mem hn.2 h
/-- A call. -/
theorem callE_sim (hc : CallSim call2 call) (h : RelS σ2 σ) {b2 b1 : Nat → Option (List V)} (hb : ∀ s cs, b2 s = some cs → ∃ ds, b1 s = some ds ∧ RelL cs (get σ.tk) ds) {dst : Option Nat} {d : Nat} {dr al mk : Bool} {f : Nat} {ws vs : List V} (hw : RelL ws (get σ.tk) vs) {e2 : Eff2}
    (he : callE2 call2 b2 d dr al mk f ws = some e2) : ∃ e, callE call b1 d dr al mk f vs = some e ∧ RelS (apply2 σ2 dst e2) (apply σ dst e) := by
  unfold callE2 at he
  split at he
  case h_2 => cases he
  rename_i as2 h1
  obtain ⟨as, g1, g2⟩ := frzL_rel (bxF_rel hb 4) ws vs as2 hw h1
  split at he
  case h_2 => cases he
  rename_i r2 h2
  obtain ⟨r, g3, g4, _⟩ := hc f as2 r2 as h2 g2
  obtain ⟨ρ, hρ⟩ := g4.ex
  split at he
  case isFalse => cases he
  rename_i hp
  have hp' := pureR_rel r2 r hρ hp
  have hsub := tks_rel r2 r hρ hp
  unfold callE
  rw [g1]
  simp only [g3, hp', if_true]
  split at he
  · rename_i hmk
    rw [if_pos hmk]
    split at he
    case isFalse => cases he
    rename_i hdis
    obtain ⟨k1, k2, k3⟩ := hdis
    have hfst : List.Sublist (r.tks.map (·.1)) (r2.tks.map fun x => tb x.1) := by
      have := hsub.map (·.1)
      rwa [List.map_map] at this
    have hnd : (r.tks.map (·.1)).Nodup := hfst.nodup (distinct_nodup k1)
    have hlt2 : ∀ x ∈ r2.tks, tb x.1 < 100 := fun x hx => by simpa using List.all_eq_true.1 k2 x hx
    have hlt : ∀ x ∈ r.tks, x.1 < 100 := fun x hx => by
      have := hsub.subset hx
      obtain ⟨y, hy, e⟩ := List.mem_map.1 this
      rw [← e]; exact hlt2 y hy
    have hdn : distinctN (r.tks.map (·.1)) = true := by
      have : ∀ l : List Nat, l.Nodup → distinctN l = true := by
        intro l
        induction l with
        | nil => exact fun _ => rfl
        | cons x l ih =>
          intro h
          rw [List.nodup_cons] at h
          simp only [distinctN]
          rw [if_neg (fun e => h.1 ((memN_iff _ _).1 e))]
          exact ih h.2
      exact this _ hnd
    have hal : (r.tks.all fun x => decide (x.1 < 100)) = true := List.all_eq_true.2 fun x hx => by simpa using hlt x hx
    rw [if_pos ⟨hdn, hal⟩]
    -- the frame behind
    have key : ∀ {m : Nat} {b : Bool} {fr2 : List (Nat × V)}, RelFr fr2 σ.fr (get (if b = true then protAll σ.tk else σ.tk)) → (∀ (x : List (Nat × V)), (if m = 0 then σ2.fr else if m = 1 then roA σ2.fr else ruA σ2.fr) = x → x = fr2) →
        RelS (apply2 σ2 dst (.res (r2.rn d) d m)) (apply σ dst (.res (r.rn d) b)) := by
      intro m b fr2 hF hx
      have hx := hx _ rfl
      refine ⟨?_, h.tr⟩
      simp only [apply2, apply]
      rw [hx]
      have hgrp : ∀ p ∈ (r.rn d).tks, p.1 / 100 = d := fun p hp => by
        rw [rn_tksE, List.mem_map] at hp
        obtain ⟨q, hq, e⟩ := hp
        have := hlt q hq
        rw [← e]
        show (d * 100 + q.1) / 100 = d
        omega
      refine RelFr.putO (killG_rel hF (d := d) fun s hs => ?_) ?_ dst
      · exact get_addT_other fun p hp e => hs (by rw [← e]; exact hgrp p hp)
      · refine rn_rel (tk := fun k => get (addT (r.rn d).tks (if b = true then protAll σ.tk else σ.tk)) (d * 100 + k)) k3 r2 r (fun x hx => hlt2 x hx) (fun k n w hk _ => hk) (g4.all _ fun k n hk => ?_) hp
        refine get_addT_mem ?_ ?_
        · rw [rn_tksE, List.map_map]
          have : (r.tks.map ((fun x => x.1) ∘ fun x => (d * 100 + x.1, x.2))) = (r.tks.map (·.1)).map (d * 100 + ·) := by rw [List.map_map]; rfl
          rw [this]
          exact List.Pairwise.map _ (fun a b h e => h (by omega)) hnd
        · rw [rn_tksE, List.mem_map]; exact ⟨(k, n), hk, rfl⟩
    split at he
    · rename_i hal1
      simp only [Option.some.injEq] at he; subst he
      rw [if_pos (.inl hal1), if_neg (fun x => by rw [hal1] at x; exact absurd x.2 (by simp))]
      refine ⟨_, rfl, key (m := 1) (b := true) (fr2 := roA σ2.fr) (roA_rel h.fr) fun x hx => by rw [← hx]; rfl⟩
    · rename_i hal1
      split at he
      · rename_i hal2
        split at he
        · cases he
        · rename_i hdr
          simp only [Option.some.injEq] at he; subst he
          have hru := ruA_rel h.fr
          cases hra : r.al with
          | true =>
            rw [if_pos (.inr rfl), if_neg (fun x => hdr x.1)]
            refine ⟨_, rfl, key (m := 2) (b := true) (fr2 := ruA σ2.fr) (hru true) fun x hx => by rw [← hx]; rfl⟩
          | false =>
            rw [if_neg (fun x => x.elim (fun y => hal1 y) (fun y => by cases y))]
            refine ⟨_, rfl, key (m := 2) (b := false) (fr2 := ruA σ2.fr) (hru false) fun x hx => by rw [← hx]; rfl⟩
      · rename_i hal2
        simp only [Option.some.injEq] at he; subst he
        have hra := al_rel r2 r hρ hp (by simpa using hal2)
        rw [if_neg (fun x => x.elim (fun y => hal1 y) (fun y => by rw [hra] at y; cases y))]
        refine ⟨_, rfl, key (m := 0) (b := false) (fr2 := σ2.fr) (by simpa using h.fr) fun x hx => by rw [← hx]; rfl⟩
  · rename_i hmk
    rw [if_neg hmk]
    split at he
    · rename_i hq
      simp only [Option.some.injEq] at he; subst he
      have ht : r.tks = [] := by
        have h2 : r2.tks = [] := by simpa using hq.1
        rw [h2] at hsub
        exact List.sublist_nil.1 hsub
      rw [if_pos ⟨by rw [ht]; rfl, al_rel r2 r hρ hp hq.2⟩]
      exact ⟨_, rfl, val_sim h (g4.all _ fun k n hk => by rw [ht] at hk; cases hk) dst⟩
    · cases he
end
end Go.Lo

/- An instruction of the plain machine does what the logical one's does. -/
namespace Go.Lo
section
variable {call2 call : Nat → List V → Option V} {σ2 σ : St}

theorem els_rel {tk : TkF} {sz : Nat} {w v : V} {ys : List (List V)} (h : Rel w tk v) (he : elsOf sz w = some ys) : (ys = [] ∧ v = .nil) ∨ ∃ t ys', v = .sl t sz ys' ∧ RelE ys ys' := by
  unfold elsOf at he
  split at he
  · simp only [Option.some.injEq] at he; subst he
    simp only [Rel] at h
    exact .inl ⟨rfl, h⟩
  · split at he
    · rename_i t sz' es hs
      subst hs
      simp only [Option.some.injEq] at he; subst he
      cases t with
      | none =>
        simp only [Rel] at h
        rcases h with h | ⟨es', h1, h2⟩
        · exact .inl h
        · exact .inr ⟨_, es', h1, h2⟩
      | some u =>
        simp only [Rel] at h
        rcases h with h | ⟨es', h1, h2, _⟩
        · exact .inl h.2
        · exact .inr ⟨_, es', h1, h2⟩
    · cases he
  · cases he
theorem TokR.put {l : List (Nat × Nat × Bool)} {t u n : Nat} (hu : tb u = t) (hx : roX u = false) (hn : mbT u = true → n ≠ 0) : TokR (get (put l t (n, true))) u n :=
  ⟨true, by rw [hu, get_put_same], fun _ => rfl, fun h => (by rw [hx] at h; cases h), hn⟩
theorem tb_small {d : Nat} (h : d < 9999) : tb (d * 100) = d * 100 ∧ tb (2000000 + d * 100) = d * 100 ∧ mbT (2000000 + d * 100) = true ∧ roX (d * 100) = false ∧ roX (2000000 + d * 100) = false := by
  unfold tb mbT roX
  refine ⟨by omega, by omega, by simp only [decide_eq_true_eq]; omega, by simp only [decide_eq_false_iff_not]; omega, by simp only [decide_eq_false_iff_not]; omega⟩
theorem nn_small {d : Nat} (h : d < 9999) {n : Nat} : mbT (d * 100) = true → n ≠ 0 := by
  unfold mbT; simp only [decide_eq_true_eq]; omega
/-- Behind an append to what may be nil. -/
theorem app_sim (h : RelS σ2 σ) {dst : Option Nat} {w : V} {d : Nat} {v : V} {tk' : List (Nat × Nat × Bool)} (ht : ∀ s, s / 100 ≠ d → get tk' s = get σ.tk s) (hw : Rel w (get tk') v) : RelS (apply2 σ2 dst (.mkg w d)) { σ with fr := putO σ.fr dst v, tk := tk' } :=
  ⟨(killG_rel h.fr ht).putO hw dst, h.tr⟩
theorem appT_sim (h : RelS σ2 σ) {dst : Option Nat} {w : V} {t : Nat} {v : V} {tk' : List (Nat × Nat × Bool)} (ht : ∀ s, s ≠ t → get tk' s = get σ.tk s) (hw : Rel w (get tk') v) : RelS (apply2 σ2 dst (.app w t)) { σ with fr := putO σ.fr dst v, tk := tk' } :=
  ⟨(killT_rel h.fr ht).putO hw dst, h.tr⟩
theorem mkp_sim (h : RelS σ2 σ) {dst : Option Nat} {w : V} {d n : Nat} {v : V} (hw : Rel w (get (put (prepT [d] σ.tk) (d * 100) (n, true))) v) : RelS (apply2 σ2 dst (.mkg w d)) (apply σ dst (.mkp v d n)) := by
  refine ⟨?_, h.tr⟩
  show RelFr (putO (killG d σ2.fr) dst w) (putO (prepF [d] σ.fr) dst v) (get (put (prepT [d] σ.tk) (d * 100) (n, true)))
  refine (killG_prep h.fr (d := d) fun s hs => ?_).putO hw dst
  rw [get_put_other _ _ _ _ (fun e => hs (by omega)), get_prepT_eq, if_neg (fun e => hs (memN_one.1 e))]
theorem get_lenT_other {l : List (Nat × Nat × Bool)} {t m s : Nat} (h : s ≠ t) : get (lenT t m l) s = get l s := by rw [get_lenT, if_neg h]
theorem TokR.len {l : List (Nat × Nat × Bool)} {u n m : Nat} (h : TokR (get l) u n) (hm : mbT u = true → m ≠ 0) : TokR (get (lenT (tb u) m l)) u m := by
  obtain ⟨w, h1, h2, h3, _⟩ := h
  exact ⟨w, by rw [get_lenT, if_pos rfl, h1]; rfl, h2, h3, hm⟩
theorem TokR.un {tk : TkF} {u n : Nat} (h : TokR tk u n) : TokR tk (unT u) n := by
  obtain ⟨w, h1, h2, h3, h4⟩ := h
  exact ⟨w, by rw [tb_unT]; exact h1, fun x => h2 (rw_unT x), fun x => (by rw [ro_unT] at x; cases x), fun x => h4 (by rw [mb_unT] at x; exact x)⟩

set_option maxHeartbeats 1000000 in
theorem sem_sim (hc : CallSim call2 call) (h : RelS σ2 σ) {dst : Option Nat} {ex : List Nat} {k : K} (hk : okK k = true) {ws vs : List V} (hw : RelL ws (get σ.tk) vs) {e2 : Eff2}
    (he : sem2 call2 (bxOf σ2.fr ex) ex (dst.getD 0) k ws = some e2) : ∃ e, sem call (bxOf σ.fr ex) (tkOf σ.tk ex) (dst.getD 0) (unK k) vs = some e ∧ RelS (apply2 σ2 dst e2) (apply σ dst e) := by
  have hbx : ∀ s cs, bxOf σ2.fr ex s = some cs → ∃ ds, bxOf σ.fr ex s = some ds ∧ RelL cs (get σ.tk) ds := fun s cs => bxOf_rel h.fr
  generalize hd : dst.getD 0 = d at *
  cases k with
  | mv =>
    simp only [sem2] at he
    split at he
    · simp only [Option.some.injEq] at he; subst he
      obtain ⟨v, rfl, h1⟩ := hw.inv1
      exact ⟨_, rfl, val_sim h h1 dst⟩
    · cases he
  | pick =>
    simp only [sem2] at he
    split at he
    · rename_i c a b
      simp only [Option.some.injEq] at he; subst he
      obtain ⟨v, r, rfl, h1, h2⟩ := hw.inv
      obtain ⟨a', b', rfl, h3, h4⟩ := h2.inv2
      simp only [Rel] at h1; subst h1
      exact ⟨_, rfl, val_sim h (by split <;> assumption) dst⟩
    · cases he
  | box =>
    simp only [sem2] at he
    split at he
    · rename_i w
      split at he
      · rename_i hok
        simp only [Option.some.injEq] at he; subst he
        obtain ⟨v, rfl, h1⟩ := hw.inv1
        have h2 := h1.cells hok
        refine ⟨.val (.box v.cells), by simp only [unK, sem]; rw [if_pos (h2.cellOk hok)], val_sim h (by simp only [Rel]; exact ⟨_, rfl, h2⟩) dst⟩
      · cases he
    · cases he
  | alloc zs =>
    simp only [sem2] at he
    split at he
    · simp only [Option.some.injEq] at he; subst he
      have := hw.inv0; subst this
      exact ⟨_, rfl, val_sim h (by simp only [Rel]; exact ⟨_, rfl, (unVL_rel zs hk).wk⟩) dst⟩
    · cases he
  | build zs pl =>
    simp only [sem2] at he
    split at he
    · rename_i cs hf
      simp only [Option.some.injEq] at he; subst he
      obtain ⟨ds, g1, g2⟩ := fill_rel hw (unVL_rel zs hk).wk hf
      refine ⟨.val (.agg ds), by simp only [unK, sem, g1], val_sim h (by simp only [Rel]; exact ⟨_, rfl, g2⟩) dst⟩
    · cases he
  | bsl sz z len ix =>
    simp only [sem2] at he
    split at he
    · rename_i es us hf
      split at he
      · rename_i hcond
        simp only [Option.some.injEq] at he; subst he
        obtain ⟨ds, ts, g1, g2, g3⟩ := fillE_rel hw (RelE.replicate (unVL_rel z hk) len) hf
        have hps : ts.all (fun t => (tkOf σ.tk ex t).isSome) = true := List.all_eq_true.2 fun t ht => by
          obtain ⟨u, hu, e⟩ := List.mem_map.1 (g3.sub t ht)
          have := List.all_eq_true.1 hcond.1 u hu
          simp only [Bool.not_eq_true'] at this
          rw [e] at this
          rw [tkOf_of this]; exact g3.has t ht
        obtain ⟨b1, _, _, b4, _⟩ := tb_small hcond.2
        refine ⟨.mk (.sl (some (d * 100)) sz ds) (d * 100) len ts, by simp only [unK, sem, g1]; rw [if_pos hps], ?_, h.tr⟩
        have hF := killT_rel (roF_rel h.fr g3) (t := d * 100) (tk' := get (put (protT ts σ.tk) (d * 100) (len, true))) fun s hs => get_put_other _ _ _ _ (fun e => hs e.symm)
        refine hF.putO ?_ dst
        simp only [Rel]
        have hl : es.length = len := by
          have hh : ∀ {ix : List Nat} {ws : List V} {es es' : List (List V)} {us : List Nat}, fillE sz ix ws es = some (es', us) → es'.length = es.length := by
            intro ix
            induction ix with
            | nil =>
              intro ws es es' us hf
              cases ws with
              | nil => simp only [fillE, Option.some.injEq, Prod.mk.injEq] at hf; rw [hf.1]
              | cons w ws => simp [fillE] at hf
            | cons i ix ih =>
              intro ws es es' us hf
              cases ws with
              | nil => simp [fillE] at hf
              | cons w ws =>
                simp only [fillE] at hf
                split at hf
                · split at hf
                  · split at hf
                    · rename_i h5
                      simp only [Option.some.injEq, Prod.mk.injEq] at hf
                      rw [← hf.1, ih h5]; simp
                    · cases hf
                  · cases hf
                · cases hf
          rw [hh hf]; simp
        refine .inr ⟨ds, by rw [b1], g2, ?_⟩
        rw [hl]
        exact TokR.put b1 b4 (nn_small hcond.2)
      · cases he
    · cases he
  | load n =>
    simp only [sem2] at he
    split at he
    · obtain ⟨v, rfl, h1⟩ := hw.inv1
      exact valO_sim h he (fun x hx => loadV_rel hbx h1 hx) dst
    · cases he
  | store n root =>
    simp only [sem2] at he
    split at he
    · rename_i s off w
      split at he
      · rename_i hcond
        split at he
        · rename_i cs hb
          split at he
          · rename_i cs' hs
            simp only [Option.some.injEq] at he; subst he
            obtain ⟨v1, v2, rfl, h1, h2⟩ := hw.inv2
            simp only [Rel] at h1; subst h1
            have h3 := h2.cells hcond.2.1
            obtain ⟨ds, g1, g2⟩ := hbx s cs hb
            obtain ⟨ds', g3, g4⟩ := splice_rel g2 h3 hs
            refine ⟨.sto s ds', by simp only [unK, sem]; rw [if_pos ⟨by rw [h3.length]; exact hcond.1, h3.cellOk hcond.2.1, hcond.2.2⟩, g1]; simp only [g3], ?_, h.tr⟩
            exact (h.fr.put (w := .box cs') (v := .box ds') (by simp only [Rel]; exact ⟨_, rfl, g4⟩) s).putO (by simp only [Rel]) dst
          · cases he
        · cases he
      · cases he
    · rename_i u m i off cs w
      split at he
      · cases he
      · split at he
        · rename_i w' hfz
          split at he
          · rename_i hcond
            split at he
            · rename_i cs' hs
              simp only [Option.some.injEq] at he; subst he
              obtain ⟨v1, v2, rfl, h1, h2⟩ := hw.inv2
              simp only [Rel] at h1
              obtain ⟨ds, rfl, g1, w0, g2, g3, _⟩ := h1
              obtain ⟨v', ts, q1, q2, q3⟩ := frzE_rel _ _ _ _ h2 hfz
              have hts : ts = [] := by
                cases ts with
                | nil => rfl
                | cons t ts => exact absurd (q3.sub t (by simp)) (by simp)
              subst hts
              obtain ⟨c1, c2, c3, c4⟩ := hcond
              have h3 := q2.cells (all_pm_cellOk c4)
              obtain ⟨p1, p2⟩ := h3.pm c4
              obtain ⟨ds', g4, g5⟩ := splice_rel (tk := noT) g1 p2 hs
              refine ⟨.est (tb u) m i ds', ?_, ?_, h.tr⟩
              · simp only [unK, sem, q1, tkOf_of c2, g2, g3 c1]
                rw [if_pos ⟨trivial, by rw [h3.length]; exact c3, p1⟩]
                simp only [g4]
              · exact (estT_rel h.fr (tb u) m i g5).putO (by simp only [Rel]) dst
            · cases he
          · cases he
        · cases he
    · cases he
  | bin ty op =>
    simp only [sem2] at he
    split at he
    · rename_i x y
      obtain ⟨v1, v2, rfl, h1, h2⟩ := hw.inv2
      exact valO_sim h he (fun x hx => by obtain ⟨a, b⟩ := binV_rel h1 h2 hx; exact ⟨x, a, b⟩) dst
    · cases he
  | eqs ne sh =>
    simp only [sem2] at he
    split at he
    · split at he
      · rename_i r hr
        simp only [Option.some.injEq] at he; subst he
        obtain ⟨v1, v2, rfl, h1, h2⟩ := hw.inv2
        simp only [Rel] at h1 h2
        obtain ⟨a, rfl, h1⟩ := h1
        obtain ⟨b, rfl, h2⟩ := h2
        exact ⟨.val (.bool (ne != r)), by simp only [unK, sem, eqSh_rel h1 h2 hr], val_sim h (by simp only [Rel]) dst⟩
      · cases he
    · cases he
  | un op =>
    simp only [sem2] at he
    split at he
    · obtain ⟨v, rfl, h1⟩ := hw.inv1
      exact valO_sim h he (fun x hx => by obtain ⟨a, b⟩ := unop_rel h1 hx; exact ⟨x, a, b⟩) dst
    · cases he
  | conv q =>
    simp only [sem2] at he
    split at he
    · simp only [Option.some.injEq] at he; subst he
      obtain ⟨v, rfl, h1⟩ := hw.inv1
      simp only [Rel] at h1; subst h1
      exact ⟨_, rfl, val_sim h (by simp only [Rel]) dst⟩
    · cases he
  | mkf f =>
    simp only [sem2, Option.some.injEq] at he; subst he
    exact ⟨_, rfl, val_sim h (by simp only [Rel]; exact ⟨_, rfl, hw⟩) dst⟩
  | mkm f =>
    simp only [sem2, Option.some.injEq] at he; subst he
    exact ⟨_, rfl, val_sim h (by simp only [Rel]; exact ⟨_, rfl, hw⟩) dst⟩
  | fa off =>
    simp only [sem2] at he
    split at he
    · simp only [Option.some.injEq] at he; subst he
      obtain ⟨v, rfl, h1⟩ := hw.inv1
      simp only [Rel] at h1; subst h1
      exact ⟨_, rfl, val_sim h (by simp only [Rel]) dst⟩
    · simp only [Option.some.injEq] at he; subst he
      obtain ⟨v, rfl, h1⟩ := hw.inv1
      simp only [Rel] at h1; obtain ⟨ds, rfl, h1⟩ := h1
      exact ⟨_, rfl, val_sim h (by simp only [Rel]; exact ⟨_, rfl, h1.drop off⟩) dst⟩
    · simp only [Option.some.injEq] at he; subst he
      obtain ⟨v, rfl, h1⟩ := hw.inv1
      simp only [Rel] at h1; obtain ⟨ds, rfl, h1⟩ := h1
      exact ⟨_, rfl, val_sim h (by simp only [Rel]; exact ⟨_, rfl, h1⟩) dst⟩
    · cases he
  | fld off n =>
    simp only [sem2] at he
    split at he
    · obtain ⟨v, rfl, h1⟩ := hw.inv1
      simp only [Rel] at h1; obtain ⟨ds, rfl, h1⟩ := h1
      exact valO_sim h he (fun x hx => partV_rel h1 hx) dst
    · cases he
  | ixs sz =>
    simp only [sem2] at he
    split at he
    · rename_i sz' es _ i
      split at he
      · rename_i hcond
        split at he
        · rename_i cs hg
          simp only [Option.some.injEq] at he; subst he
          obtain ⟨v1, v2, rfl, h1, h2⟩ := hw.inv2
          simp only [Rel] at h2; subst h2
          simp only [Rel] at h1
          rcases h1 with ⟨rfl, rfl⟩ | ⟨es', rfl, h1⟩
          · simp at hg
          · obtain ⟨ds, g1, g2⟩ := h1.get hg
            refine ⟨.val (.cref ds), by simp only [unK, sem]; rw [if_pos hcond, g1], val_sim h (by simp only [Rel]; exact ⟨_, rfl, g2⟩) dst⟩
        · cases he
      · cases he
    · rename_i u sz' es _ i
      split at he
      · rename_i hcond
        split at he
        · rename_i cs hg
          simp only [Option.some.injEq] at he; subst he
          obtain ⟨v1, v2, rfl, h1, h2⟩ := hw.inv2
          simp only [Rel] at h2; subst h2
          simp only [Rel] at h1
          rcases h1 with ⟨_, rfl, rfl⟩ | ⟨es', rfl, h1, h3⟩
          · simp at hg
          · obtain ⟨ds, g1, g2⟩ := h1.get hg
            refine ⟨.val (.eref (tb u) es'.length i.toNat 0 ds), by simp only [unK, sem]; rw [if_pos hcond, g1], val_sim h (by simp only [Rel]; exact ⟨_, by rw [h1.length], g2, h3⟩) dst⟩
        · cases he
      · cases he
    · cases he
  | ixa len sz =>
    simp only [sem2] at he
    split at he
    · rename_i s o _ i
      split at he
      · rename_i hcond
        simp only [Option.some.injEq] at he; subst he
        obtain ⟨v1, v2, rfl, h1, h2⟩ := hw.inv2
        simp only [Rel] at h1 h2; subst h1; subst h2
        exact ⟨.val (.ref s (o + i.toNat * sz)), by simp only [unK, sem]; rw [if_pos hcond], val_sim h (by simp only [Rel]) dst⟩
      · cases he
    · rename_i cs _ i
      split at he
      · rename_i hcond
        simp only [Option.some.injEq] at he; subst he
        obtain ⟨v1, v2, rfl, h1, h2⟩ := hw.inv2
        simp only [Rel] at h1 h2; obtain ⟨ds, rfl, h1⟩ := h1; subst h2
        exact ⟨.val (.cref (ds.drop (i.toNat * sz))), by simp only [unK, sem]; rw [if_pos hcond], val_sim h (by simp only [Rel]; exact ⟨_, rfl, h1.drop _⟩) dst⟩
      · cases he
    · rename_i t n j o cs _ i
      split at he
      · rename_i hcond
        simp only [Option.some.injEq] at he; subst he
        obtain ⟨v1, v2, rfl, h1, h2⟩ := hw.inv2
        simp only [Rel] at h1 h2; obtain ⟨ds, rfl, h1⟩ := h1; subst h2
        exact ⟨.val (.eref (tb t) n j (o + i.toNat * sz) ds), by simp only [unK, sem]; rw [if_pos hcond], val_sim h (by simp only [Rel]; exact ⟨_, rfl, h1⟩) dst⟩
      · cases he
    · cases he
  | idx len sz n =>
    simp only [sem2] at he
    split at he
    · rename_i cs _ i
      split at he
      · rename_i hcond
        obtain ⟨v1, v2, rfl, h1, h2⟩ := hw.inv2
        simp only [Rel] at h1 h2; obtain ⟨ds, rfl, h1⟩ := h1; subst h2
        simp only [unK, sem]
        rw [if_pos hcond]
        exact valO_sim h he (fun x hx => partV_rel h1 hx) dst
      · cases he
    · cases he
  | mks sz bytes z =>
    simp only [sem2] at he
    split at he
    · rename_i _ l _ c
      split at he
      · rename_i hcond
        simp only [Option.some.injEq] at he; subst he
        obtain ⟨v1, v2, rfl, h1, h2⟩ := hw.inv2
        simp only [Rel] at h1 h2; subst h1; subst h2
        obtain ⟨c1, c2, c3, c4⟩ := hcond
        obtain ⟨b1, _, _, b4, _⟩ := tb_small c4
        refine ⟨.mk (.sl (some (d * 100)) sz (List.replicate l.toNat (unVL z))) (d * 100) l.toNat [], by simp only [unK, sem]; rw [if_pos ⟨c1, c2, c3⟩], ?_, h.tr⟩
        have e : ∀ t, get (put (protT [] σ.tk) (d * 100) (l.toNat, true)) t = if d * 100 = t then some (l.toNat, true) else get σ.tk t := fun t => by
          rw [get_put]
          split
          · rfl
          · rw [get_protT]; cases get σ.tk t <;> simp [memN]
        have hF := killT_rel h.fr (t := d * 100) (tk' := get (put (protT [] σ.tk) (d * 100) (l.toNat, true))) fun s hs => by rw [e, if_neg (fun x => hs x.symm)]
        refine hF.putO ?_ dst
        simp only [Rel]
        refine .inr ⟨_, by rw [b1], RelE.replicate (unVL_rel z hk) _, ?_⟩
        rw [List.length_replicate]
        exact TokR.put b1 b4 (nn_small c4)
      · cases he
    · cases he
  | sls sz0 lo hi mx =>
    simp only [sem2] at he
    split at he
    · rename_i sz es ws
      split at he
      · rename_i hsz
        split at he
        · rename_i l hh hb
          simp only [Option.some.injEq] at he; subst he
          obtain ⟨v1, r, rfl, h1, h2⟩ := hw.inv
          have hb' := bounds_rel h2 hb
          simp only [Rel] at h1
          rcases h1 with ⟨rfl, rfl⟩ | ⟨es', rfl, h1⟩
          · refine ⟨.val .nil, by simp only [unK, sem]; simp only [List.length_nil] at hb'; rw [hb'], val_sim h (by simp [Rel]) dst⟩
          · refine ⟨.val (.sl none sz ((es'.take hh).drop l)), by simp only [unK, sem]; rw [if_pos hsz, h1.length, hb'], val_sim h (by simp only [Rel]; exact .inr ⟨_, rfl, (h1.take hh).drop l⟩) dst⟩
        · cases he
      · cases he
    · rename_i u sz es ws
      split at he
      · rename_i hsz
        split at he
        · rename_i l hh hb
          simp only [Option.some.injEq] at he; subst he
          obtain ⟨v1, r, rfl, h1, h2⟩ := hw.inv
          have hb' := bounds_rel h2 hb
          simp only [Rel] at h1
          rcases h1 with ⟨h0, rfl, rfl⟩ | ⟨es', rfl, h1, h3⟩
          · refine ⟨.val .nil, by simp only [unK, sem]; simp only [List.length_nil] at hb'; rw [hb'], ?_, h.tr⟩
            have hT : Toks (get σ.tk) [u] [] := ⟨fun _ h => (by cases h), fun t ht => (by simp [exB, h0] at ht), fun _ h => (by cases h)⟩
            have := roF_rel h.fr hT
            have e : get (protT [] σ.tk) = get σ.tk := by
              funext t
              rw [get_protT]
              cases get σ.tk t <;> simp [memN]
            rw [e] at this
            exact this.putO (by simp [Rel]) dst
          · have h3' := h3
            obtain ⟨w0, g1, _⟩ := h3'
            refine ⟨.prot (.sl none sz ((es'.take hh).drop l)) [tb u], by simp only [unK, sem]; rw [if_pos hsz.1, h1.length, hb']; simp only [tkOf_of hsz.2, g1, Option.isSome_some, if_true], ?_, h.tr⟩
            have hT : Toks (get σ.tk) [u] [tb u] := ⟨fun t ht => by simpa using ht, fun t ht => exB_mem ht |> fun x => by simpa using x, fun t ht => by rw [List.mem_singleton] at ht; subst ht; rw [g1]; rfl⟩
            exact (roF_rel h.fr hT).putO (by simp only [Rel]; exact .inr ⟨_, rfl, (h1.take hh).drop l⟩) dst
        · cases he
      · cases he
    · rename_i ws
      split at he
      · rename_i x hb
        simp only [Option.some.injEq] at he; subst he
        obtain ⟨v1, r, rfl, h1, h2⟩ := hw.inv
        simp only [Rel] at h1; subst h1
        have hb' := bounds_rel h2 hb
        exact ⟨.val .nil, by simp only [unK, sem]; rw [hb'], val_sim h (by simp only [Rel]) dst⟩
      · cases he
    · cases he
  | sla len sz lo hi mx => simp [sem2] at he
  | ext i =>
    simp only [sem2] at he
    split at he
    · obtain ⟨v, rfl, h1⟩ := hw.inv1
      simp only [Rel] at h1; obtain ⟨ds, rfl, h1⟩ := h1
      exact valO_sim h he (fun x hx => h1.get hx) dst
    · cases he
  | call dr al mk =>
    simp only [sem2] at he
    split at he
    · rename_i f caps ws
      obtain ⟨v, r, rfl, h1, h2⟩ := hw.inv
      simp only [Rel] at h1; obtain ⟨ds, rfl, h1⟩ := h1
      exact callE_sim hc h hbx (h2.append h1) he
    · rename_i f caps ws
      obtain ⟨v, r, rfl, h1, h2⟩ := hw.inv
      simp only [Rel] at h1; obtain ⟨ds, rfl, h1⟩ := h1
      exact callE_sim hc h hbx (h1.append h2) he
    · rename_i a ws
      split at he
      · cases he
      · rename_i hdr
        split at he
        · rename_i as us hf
          split at he
          · rename_i hcond
            simp only [Option.some.injEq] at he; subst he
            obtain ⟨v, r, rfl, h1, h2⟩ := hw.inv
            simp only [Rel] at h1; obtain ⟨ds, rfl, h1⟩ := h1
            have := h1.inv0; subst this
            obtain ⟨as', ts, g1, g2, g3⟩ := frzEL_rel _ _ _ _ h2 hf
            have hps : ts.all (fun t => (tkOf σ.tk ex t).isSome) = true := List.all_eq_true.2 fun t ht => by
              obtain ⟨u, hu, e⟩ := List.mem_map.1 (g3.sub t ht)
              have := List.all_eq_true.1 hcond.1 u hu
              simp only [Bool.not_eq_true'] at this
              rw [e] at this
              rw [tkOf_of this]; exact g3.has t ht
            have hpm : (as'.all fun v => v.cells.all V.pm) = true := by
              have : ∀ {a b : List V}, RelL a noT b → (a.all fun v => v.cells.all V.pm) = true → (b.all fun v => v.cells.all V.pm) = true := by
                intro a
                induction a with
                | nil => intro b hb _; have := hb.inv0; subst this; rfl
                | cons x a ih =>
                  intro b hb hp
                  obtain ⟨y, b', rfl, k1, k2⟩ := hb.inv
                  simp only [List.all_cons, Bool.and_eq_true] at hp ⊢
                  exact ⟨((k1.cells (all_pm_cellOk hp.1)).pm hp.1).1, ih k2 hp.2⟩
              exact this g2 hcond.2
            refine ⟨.yld a as' ts, by simp only [unK, sem]; rw [if_neg hdr, g1]; simp only; rw [if_pos ⟨hps, hpm⟩], ?_, ?_⟩
            · have htr : goesOn a σ2.tr = goesOn a σ.tr := by
                have := h.tr
                cases h2 : σ2.tr <;> cases h1 : σ.tr <;> rw [h2, h1] at this <;> simp only [RelTr] at this
                simp only [goesOn, this.length]
              simp only [apply2, apply]
              rw [htr]
              exact (roF_rel h.fr g3).putO (by simp only [Rel]) dst
            · simp only [apply2, apply]
              have := h.tr
              cases h2 : σ2.tr <;> cases h1 : σ.tr <;> rw [h2, h1] at this <;> simp only [RelTr] at this
              · simp [RelTr]
              · simp only [Option.map_some, RelTr]
                exact this.append (RelE.cons g2 RelE.nil)
          · cases he
        · cases he
    · cases he
  | len =>
    simp only [sem2] at he
    split at he
    · rename_i t sz es
      simp only [Option.some.injEq] at he; subst he
      obtain ⟨v, rfl, h1⟩ := hw.inv1
      have key : (es = [] ∧ v = .nil) ∨ ∃ t es', v = .sl t sz es' ∧ RelE es es' := by
        cases t with
        | none =>
          simp only [Rel] at h1
          rcases h1 with h1 | ⟨es', a, b⟩
          · exact .inl h1
          · exact .inr ⟨_, _, a, b⟩
        | some u =>
          simp only [Rel] at h1
          rcases h1 with h1 | ⟨es', a, b, _⟩
          · exact .inl h1.2
          · exact .inr ⟨_, _, a, b⟩
      rcases key with ⟨rfl, rfl⟩ | ⟨t', es', rfl, g⟩
      · exact ⟨_, rfl, val_sim h (by simp [Rel]) dst⟩
      · exact ⟨_, rfl, val_sim h (by simp only [Rel, g.length]) dst⟩
    · simp only [Option.some.injEq] at he; subst he
      obtain ⟨v, rfl, h1⟩ := hw.inv1
      simp only [Rel] at h1; subst h1
      exact ⟨_, rfl, val_sim h (by simp only [Rel]) dst⟩
    · cases he
  | cap =>
    simp only [sem2] at he
    split at he
    · simp only [Option.some.injEq] at he; subst he
      obtain ⟨v, rfl, h1⟩ := hw.inv1
      simp only [Rel] at h1; subst h1
      exact ⟨_, rfl, val_sim h (by simp only [Rel]) dst⟩
    · cases he
  | append dr sz bytes =>
    simp only [sem2] at he
    split at he
    · rename_i y
      obtain ⟨v1, v2, rfl, h1, h2⟩ := hw.inv2
      simp only [Rel] at h1; subst h1
      split at he
      · rename_i ys hy
        split at he
        · rename_i hcond
          obtain ⟨b1, b2, b3, b4, b5⟩ := tb_small hcond.2
          have hnil : ys = [] → Rel (.sl (some (2000000 + d * 100)) sz ys) (get σ.tk) .nil := fun e => by simp only [Rel]; exact .inl ⟨b3, e, trivial⟩
          rcases els_rel h2 hy with ⟨rfl, rfl⟩ | ⟨t, ys', rfl, g⟩
          · refine ⟨.val .nil, rfl, ?_⟩
            split at he
            · simp only [Option.some.injEq] at he; subst he
              exact appT_sim (tk' := σ.tk) h (fun _ _ => rfl) (hnil rfl)
            · simp only [Option.some.injEq] at he; subst he
              exact app_sim (tk' := σ.tk) h (fun _ _ => rfl) (hnil rfl)
          · cases ys with
            | nil =>
              have := g.nil_left; subst this
              refine ⟨.val .nil, by simp only [unK, sem, if_true], ?_⟩
              split at he
              · simp only [Option.some.injEq] at he; subst he
                exact appT_sim (tk' := σ.tk) h (fun _ _ => rfl) (hnil rfl)
              · simp only [Option.some.injEq] at he; subst he
                exact app_sim (tk' := σ.tk) h (fun _ _ => rfl) (hnil rfl)
            | cons y0 ys0 =>
              have g' := g
              simp only [RelE] at g'
              obtain ⟨y1, ys1, rfl, _, _⟩ := g'
              have hl := g.length
              split at he
              · rename_i hdr
                simp only [Option.some.injEq] at he; subst he
                refine ⟨.mk (.sl (some (d * 100)) sz (y1 :: ys1)) (d * 100) (y1 :: ys1).length [], by simp only [unK, sem, if_true]; rw [hl, if_pos hcond.1, if_pos hdr, ← hl], ?_⟩
                have e : ∀ t, get (put (protT [] σ.tk) (d * 100) ((y1 :: ys1).length, true)) t = if d * 100 = t then some ((y1 :: ys1).length, true) else get σ.tk t := fun t => by
                  rw [get_put]
                  split
                  · rfl
                  · rw [get_protT]; cases get σ.tk t <;> simp [memN]
                refine appT_sim (t := d * 100) h (fun s hs => by rw [e, if_neg (fun x => hs x.symm)]) ?_
                simp only [Rel]
                refine .inr ⟨_, by rw [b2], g, ?_⟩
                rw [← hl]
                exact TokR.put b2 b5 (fun _ => by simp)
              · rename_i hdr
                simp only [Option.some.injEq] at he; subst he
                refine ⟨.mkp (.sl (some (d * 100)) sz (y1 :: ys1)) d (y1 :: ys1).length, by simp only [unK, sem, if_true]; rw [hl, if_pos hcond.1, if_neg hdr, ← hl], mkp_sim h ?_⟩
                simp only [Rel]
                refine .inr ⟨_, by rw [b2], g, ?_⟩
                rw [← hl]
                exact TokR.put b2 b5 (fun _ => by simp)
        · cases he
      · cases he
    · rename_i u sz1 xs y
      split at he
      · rename_i hsz
        obtain ⟨rfl, hex⟩ := hsz
        obtain ⟨v1, v2, rfl, h1, h2⟩ := hw.inv2
        split at he
        · rename_i ys hy
          split at he
          · rename_i hcond
            simp only [Rel] at h1
            rcases h1 with ⟨h0, rfl, rfl⟩ | ⟨xs', rfl, h1, h3⟩
            · -- nil
              rw [if_pos h0] at he
              split at he
              · rename_i htb
                simp only [List.nil_append, List.length_nil, Nat.zero_add] at he hcond
                have hnil : ys = [] → Rel (.sl (some (unT u)) sz ys) (get σ.tk) .nil := fun e => by simp only [Rel]; exact .inl ⟨by rw [mb_unT]; exact h0, e, trivial⟩
                have vnil : ys = [] → RelS (apply2 σ2 dst e2) (apply σ dst (.val .nil)) := fun e => by
                  split at he
                  · simp only [Option.some.injEq] at he; subst he
                    exact appT_sim (tk' := σ.tk) h (fun _ _ => rfl) (hnil e)
                  · simp only [Option.some.injEq] at he; subst he
                    exact app_sim (tk' := σ.tk) h (fun _ _ => rfl) (hnil e)
                rcases els_rel h2 hy with ⟨rfl, rfl⟩ | ⟨t, ys', rfl, g⟩
                · exact ⟨.val .nil, rfl, vnil rfl⟩
                · cases ys with
                  | nil =>
                    have := g.nil_left; subst this
                    exact ⟨.val .nil, by simp only [unK, sem, if_true], vnil rfl⟩
                  | cons y0 ys0 =>
                    have g' := g
                    simp only [RelE] at g'
                    obtain ⟨y1, ys1, rfl, _, _⟩ := g'
                    have hl := g.length
                    have btu : tb (unT u) = d * 100 := by rw [tb_unT]; exact htb
                    split at he
                    · rename_i hdr
                      simp only [Option.some.injEq] at he; subst he
                      refine ⟨.mk (.sl (some (d * 100)) sz (y1 :: ys1)) (d * 100) (y1 :: ys1).length [], by simp only [unK, sem, if_true]; rw [hl, if_pos hcond, if_pos hdr, ← hl], ?_⟩
                      have e : ∀ t, get (put (protT [] σ.tk) (d * 100) ((y1 :: ys1).length, true)) t = if d * 100 = t then some ((y1 :: ys1).length, true) else get σ.tk t := fun t => by
                        rw [get_put]
                        split
                        · rfl
                        · rw [get_protT]; cases get σ.tk t <;> simp [memN]
                      refine appT_sim (t := d * 100) h (fun s hs => by rw [e, if_neg (fun x => hs x.symm)]) ?_
                      simp only [Rel]
                      refine .inr ⟨_, by rw [btu], g, ?_⟩
                      rw [← hl]
                      exact TokR.put btu (ro_unT u) (fun _ => by simp)
                    · rename_i hdr
                      simp only [Option.some.injEq] at he; subst he
                      refine ⟨.mkp (.sl (some (d * 100)) sz (y1 :: ys1)) d (y1 :: ys1).length, by simp only [unK, sem, if_true]; rw [hl, if_pos hcond, if_neg hdr, ← hl], mkp_sim h ?_⟩
                      simp only [Rel]
                      refine .inr ⟨_, by rw [btu], g, ?_⟩
                      rw [← hl]
                      exact TokR.put btu (ro_unT u) (fun _ => by simp)
              · cases he
            · -- an array of one's own
              have h3' := h3
              obtain ⟨w0, g1, g2, g3, g4⟩ := h3'
              have hlx := h1.length
              have one : ∀ e, sem call (bxOf σ.fr ex) (tkOf σ.tk ex) d (.append dr sz bytes) [.sl (some (tb u)) sz xs', v2] = some e →
                  sem call (bxOf σ.fr ex) (tkOf σ.tk ex) d (unK (.append dr sz bytes)) [.sl (some (tb u)) sz xs', v2] = some e := fun e he => he
              -- what the logical machine does
              have two : ∃ e zs m, sem call (bxOf σ.fr ex) (tkOf σ.tk ex) d (unK (.append dr sz bytes)) [.sl (some (tb u)) sz xs', v2] = some e ∧ RelE (xs ++ ys) zs ∧
                  apply σ dst e = { σ with fr := putO σ.fr dst (.sl (some (tb u)) sz zs), tk := m } ∧ (∀ s, s ≠ tb u → get m s = get σ.tk s) ∧ TokR (get m) u (xs ++ ys).length := by
                rcases els_rel h2 hy with ⟨rfl, rfl⟩ | ⟨t, ys', rfl, g⟩
                · refine ⟨.val (.sl (some (tb u)) sz xs'), xs', σ.tk, ?_, by simpa using h1, rfl, fun _ _ => rfl, by simpa using h3⟩
                  simp only [unK, sem, tkOf_of hex, g1, hlx, true_and, if_true]
                · have hl := g.length
                  cases ys with
                  | nil =>
                    have := g.nil_left; subst this
                    refine ⟨.val (.sl (some (tb u)) sz xs'), xs', σ.tk, ?_, by simpa using h1, rfl, fun _ _ => rfl, by simpa using h3⟩
                    simp only [unK, sem, tkOf_of hex, g1, hlx, true_and, if_true]
                    rw [if_pos hcond]
                  | cons y0 ys0 =>
                    have g' := g
                    simp only [RelE] at g'
                    obtain ⟨y1, ys1, rfl, _, _⟩ := g'
                    refine ⟨.app (.sl (some (tb u)) sz (xs' ++ y1 :: ys1)) (tb u) (xs'.length + (y1 :: ys1).length), xs' ++ y1 :: ys1, lenT (tb u) (xs'.length + (y1 :: ys1).length) σ.tk, ?_, h1.append g, rfl, fun s hs => get_lenT_other hs, ?_⟩
                    · simp only [unK, sem, tkOf_of hex, g1, hlx, true_and, if_true]
                      rw [hl, if_pos hcond, ← hl]
                    · rw [List.length_append, hlx, hl]
                      exact h3.len (fun _ => by simp)
              obtain ⟨e, zs, m, q1, q2, q3, q4, q5⟩ := two
              refine ⟨e, q1, ?_⟩
              rw [q3]
              split at he
              · split at he
                · rename_i htb
                  have hR : Rel (.sl (some (unT u)) sz (xs ++ ys)) (get m) (.sl (some (tb u)) sz zs) := by
                    simp only [Rel]
                    exact .inr ⟨zs, by rw [tb_unT], q2, q5.un⟩
                  split at he
                  · simp only [Option.some.injEq] at he; subst he
                    exact appT_sim h (fun s hs => q4 s (by rw [htb]; exact hs)) hR
                  · simp only [Option.some.injEq] at he; subst he
                    exact app_sim h (fun s hs => q4 s (fun e => hs (by rw [e, htb]; omega))) hR
                · cases he
              · simp only [Option.some.injEq] at he; subst he
                exact appT_sim h q4 (by simp only [Rel]; exact .inr ⟨zs, rfl, q2, q5⟩)
          · cases he
        · cases he
      · cases he
    · cases he
  | appz sz bytes z =>
    simp only [sem2] at he
    split at he
    · rename_i _ n
      split at he
      · rename_i hcond
        simp only [Option.some.injEq] at he; subst he
        obtain ⟨v1, v2, rfl, h1, h2⟩ := hw.inv2
        simp only [Rel] at h1 h2; subst h1; subst h2
        obtain ⟨b1, b2, b3, b4, b5⟩ := tb_small hcond.2.2
        by_cases hn : n = 0
        · subst hn
          refine ⟨.val .nil, by simp only [unK, sem]; rw [if_pos ⟨hcond.1, hcond.2.1⟩]; simp, ?_⟩
          refine app_sim (tk' := σ.tk) h (fun _ _ => rfl) ?_
          simp only [Rel]
          exact .inl ⟨b3, by simp, trivial⟩
        · refine ⟨.mkp (.sl (some (d * 100)) sz (List.replicate n.toNat (unVL z))) d n.toNat, by simp only [unK, sem]; rw [if_pos ⟨hcond.1, hcond.2.1⟩, if_neg hn], mkp_sim h ?_⟩
          simp only [Rel]
          refine .inr ⟨_, by rw [b2], RelE.replicate (unVL_rel z hk) _, ?_⟩
          rw [List.length_replicate]
          exact TokR.put b2 b5 (fun _ => by have := hcond.1; omega)
      · cases he
    · cases he
  | trunc sz =>
    simp only [sem2] at he
    split at he
    · rename_i u sz' es _ n
      split at he
      · rename_i hcond
        simp only [Option.some.injEq] at he; subst he
        obtain ⟨c1, c2, c3, c4, c5, c6⟩ := hcond
        obtain ⟨v1, v2, rfl, h1, h2⟩ := hw.inv2
        simp only [Rel] at h2; subst h2
        simp only [Rel] at h1
        rcases h1 with ⟨h0, rfl, rfl⟩ | ⟨es', rfl, h1, h3⟩
        · rcases c3 with c3 | c3
          · rw [h0] at c3; cases c3
          · simp only [List.length_nil] at c6; omega
        · have h3' := h3
          obtain ⟨w0, g1, g2, g3⟩ := h3'
          rw [g2 c1] at g1
          refine ⟨.trunc (.sl (some (tb u)) sz' (es'.take n.toNat)) (tb u) n.toNat, by simp only [unK, sem, tkOf_of c2, g1]; rw [if_pos ⟨c4, h1.length.symm, c5, by rw [h1.length]; exact c6⟩], ?_, h.tr⟩
          have hF := killT_kill h.fr (t := tb u) (tk' := get (lenT (tb u) n.toNat σ.tk)) fun s hs => get_lenT_other hs
          refine hF.putO ?_ dst
          simp only [Rel]
          refine .inr ⟨_, rfl, h1.take _, ?_⟩
          have : (es.take n.toNat).length = n.toNat := by rw [List.length_take]; omega
          rw [this]
          exact h3.len (fun hm => by
            rcases c3 with c3 | c3
            · rw [hm] at c3; cases c3
            · omega)
      · cases he
    · cases he
  | max =>
    simp only [sem2] at he
    split at he
    · rename_i q n ns hi
      simp only [Option.some.injEq] at he; subst he
      have := intsOf_rel hw hi; subst this
      exact ⟨.val (.int q (maxL n ns)), by simp only [unK, sem, hi], val_sim h (by simp only [Rel]) dst⟩
    · cases he
  | min =>
    simp only [sem2] at he
    split at he
    · rename_i q n ns hi
      simp only [Option.some.injEq] at he; subst he
      have := intsOf_rel hw hi; subst this
      exact ⟨.val (.int q (minL n ns)), by simp only [unK, sem, hi], val_sim h (by simp only [Rel]) dst⟩
    · cases he
  | nilc =>
    simp only [sem2] at he
    split at he
    · simp only [Option.some.injEq] at he; subst he
      obtain ⟨v, rfl, h1⟩ := hw.inv1
      simp only [Rel] at h1; subst h1
      exact ⟨_, rfl, val_sim h (by simp only [Rel]) dst⟩
    · simp only [Option.some.injEq] at he; subst he
      obtain ⟨v, rfl, h1⟩ := hw.inv1
      have h1' := h1
      simp only [Rel] at h1; obtain ⟨ds, rfl, _⟩ := h1
      exact ⟨_, rfl, val_sim h h1' dst⟩
    · simp only [Option.some.injEq] at he; subst he
      obtain ⟨v, rfl, h1⟩ := hw.inv1
      have h1' := h1
      simp only [Rel] at h1; obtain ⟨ds, rfl, _⟩ := h1
      exact ⟨_, rfl, val_sim h h1' dst⟩
    · simp only [Option.some.injEq] at he; subst he
      obtain ⟨v, rfl, h1⟩ := hw.inv1
      have h1' := h1
      simp only [Rel] at h1; obtain ⟨ds, rfl, _⟩ := h1
      exact ⟨_, rfl, val_sim h h1' dst⟩
    · cases he
  | bad => simp [sem2] at he
end
end Go.Lo

/- Code and functions of the plain machine do what the logical ones do. -/
namespace Go.Lo
section
variable {call2 call : Nat → List V → Option V}

theorem stepI_sim (hc : CallSim call2 call) {i : LIns} (hi : okI i = true) {σ2 σ σ2' : St} (h : RelS σ2 σ) (hs : stepI2 call2 i σ2 = some σ2') : ∃ σ', stepI call (unI i) σ = some σ' ∧ RelS σ2' σ' := by
  unfold okI at hi
  simp only [Bool.and_eq_true] at hi
  unfold stepI2 at hs
  split at hs
  · rename_i hw
    split at hs
    · rename_i ws hws
      split at hs
      · rename_i e2 he
        simp only [Option.some.injEq] at hs; subst hs
        obtain ⟨vs, g1, g2⟩ := opds_rel h.fr hi.2 hws
        obtain ⟨e, g3, g4⟩ := sem_sim hc h hi.1 g2 he
        refine ⟨apply σ i.dst e, ?_, g4⟩
        unfold stepI unI
        simp only [wanted_rel h.fr hw, g1, g3]
      · cases hs
    · cases hs
  · rename_i hw
    simp only [Option.some.injEq] at hs; subst hs
    refine ⟨{ σ with fr := putO σ.fr i.dst .und }, ?_, h.fr.putO (by simp only [Rel]) _, h.tr⟩
    unfold stepI unI
    simp only [wanted_rel h.fr hw]
  · cases hs
theorem stepL_sim (hc : CallSim call2 call) : ∀ {is : List LIns} {σ2 σ σ2' : St}, is.all okI = true → RelS σ2 σ → stepL2 call2 is σ2 = some σ2' → ∃ σ', stepL call (is.map unI) σ = some σ' ∧ RelS σ2' σ'
  | [], σ2, σ, σ2', _, h, hs => by
    simp only [stepL2, Option.some.injEq] at hs; subst hs
    exact ⟨σ, rfl, h⟩
  | i :: is, σ2, σ, σ2', hi, h, hs => by
    simp only [List.all_cons, Bool.and_eq_true] at hi
    simp only [stepL2] at hs
    split at hs
    · rename_i σ1 h1
      obtain ⟨σ1', g1, g2⟩ := stepI_sim hc hi.1 h h1
      obtain ⟨σ', g3, g4⟩ := stepL_sim hc hi.2 g2 hs
      exact ⟨σ', by simp only [List.map_cons, stepL, g1, g3], g4⟩
    · cases hs
/-- One part of code beside another. -/
def CSim (f2 f : St → Option (Ex × St)) : Prop := ∀ σ2 σ ex σ2', RelS σ2 σ → f2 σ2 = some (ex, σ2') → ∃ σ', f σ = some (ex, σ') ∧ RelS σ2' σ'
theorem iter_sim {f2 f : St → Option (Ex × St)} (h : CSim f2 f) : ∀ n, CSim (iter f2 n) (iter f n)
  | 0, _, _, _, _, _, hs => by simp [iter] at hs
  | n + 1, σ2, σ, ex, σ2', hr, hs => by
    simp only [iter] at hs ⊢
    split at hs
    · rename_i σ1 h1
      obtain ⟨σ1', g1, g2⟩ := h _ _ _ _ hr h1
      obtain ⟨σ', g3, g4⟩ := iter_sim h n _ _ _ _ g2 hs
      exact ⟨σ', by rw [g1]; exact g3, g4⟩
    · rename_i hne
      obtain ⟨σ', g1, g2⟩ := h _ _ _ _ hr hs
      refine ⟨σ', ?_, g2⟩
      rw [g1]
      cases ex with
      | normal => exact (hne _ hs).elim
      | exit id => rfl
      | ret => rfl
theorem putA_rel {tk : TkF} : ∀ {ps : List Nat} {ws vs : List V} {fr2 fr : List (Nat × V)}, RelL ws noT vs → RelFr fr2 fr tk → RelFr (putA ps ws fr2) (putA ps vs fr) tk
  | [], ws, vs, fr2, fr, _, h => by simpa only [putA] using h
  | p :: ps, [], vs, fr2, fr, hw, h => by have := hw.inv0; subst this; simpa only [putA] using h
  | p :: ps, w :: ws, vs, fr2, fr, hw, h => by
    obtain ⟨v, r, rfl, h1, h2⟩ := hw.inv
    simp only [putA]
    exact putA_rel h2 (h.put h1.wk p)
def RSim (f2 f : St → List V → Option (Ex × St)) : Prop := ∀ σ2 σ as2 as ex σ2', RelS σ2 σ → RelL as2 noT as → f2 σ2 as2 = some (ex, σ2') → ∃ σ', f σ as = some (ex, σ') ∧ RelS σ2' σ'
theorem round_sim {a2 a b2 b : St → Option (Ex × St)} (ha : CSim a2 a) (hb : CSim b2 b) (ps wr : List Nat) : RSim (roundE a2 b2 ps wr) (roundE a b ps wr) := by
  intro σ2 σ as2 as ex σ2' h hw hs
  unfold roundE at hs ⊢
  split at hs
  · rename_i hl
    rw [if_pos (by rw [hw.length]; exact hl)]
    split at hs
    · rename_i σ1 h1
      obtain ⟨σ1', g1, g2⟩ := ha { σ2 with fr := putA ps as2 (dropL wr σ2.fr) } { σ with fr := putA ps as (dropL wr σ.fr) } _ _ ⟨putA_rel hw (h.fr.drop wr), h.tr⟩ h1
      rw [g1]
      simp only
      split at hs
      · rename_i ex' σ3 h3
        simp only [Option.some.injEq, Prod.mk.injEq] at hs
        obtain ⟨rfl, rfl⟩ := hs
        obtain ⟨σ3', g3, g4⟩ := hb _ _ _ _ g2 h3
        rw [g3]
        exact ⟨_, rfl, g4.fr.drop wr, g4.tr⟩
      · cases hs
    · cases hs
  · cases hs
theorem fold_sim {f2 f : St → List V → Option (Ex × St)} (hf : RSim f2 f) : ∀ {l2 l : List (List V)} {k : Nat} {σ2 σ : St} {r : Option (Nat × Ex)} {σ2' : St}, RelE l2 l → RelS σ2 σ → foldR f2 k σ2 l2 = some (r, σ2') → ∃ σ', foldR f k σ l = some (r, σ') ∧ RelS σ2' σ'
  | [], l, k, σ2, σ, r, σ2', hl, h, hs => by
    have := hl.nil_left; subst this
    simp only [foldR, Option.some.injEq, Prod.mk.injEq] at hs
    obtain ⟨rfl, rfl⟩ := hs
    exact ⟨σ, rfl, h⟩
  | x :: l2, l, k, σ2, σ, r, σ2', hl, h, hs => by
    simp only [RelE] at hl
    obtain ⟨y, l1, rfl, h1, h2⟩ := hl
    simp only [foldR] at hs ⊢
    split at hs
    · rename_i σ1 e1
      obtain ⟨σ1', g1, g2⟩ := hf _ _ _ _ _ _ h h1 e1
      rw [g1]
      exact fold_sim hf h2 g2 hs
    · rename_i ex σ1 hne e1
      simp only [Option.some.injEq, Prod.mk.injEq] at hs
      obtain ⟨rfl, rfl⟩ := hs
      obtain ⟨σ1', g1, g2⟩ := hf _ _ _ _ _ _ h h1 e1
      rw [g1]
      cases ex with
      | normal => exact (hne rfl).elim
      | exit id => exact ⟨σ1', rfl, g2⟩
      | ret => exact ⟨σ1', rfl, g2⟩
    · cases hs
theorem rng_sim {f2 f : St → List V → Option (Ex × St)} (hf : RSim f2 f) {it2 it : Nat → Option V} (hit : ∀ a l2, itemsOf (it2 a) = some l2 → ∃ l, itemsOf (it a) = some l ∧ RelE l2 l) : CSim (rngE f2 it2) (rngE f it) := by
  intro σ2 σ ex σ2' h hs
  unfold rngE at hs ⊢
  split at hs
  · cases hs
  · rename_i items h1
    obtain ⟨l, g1, g2⟩ := hit _ _ h1
    rw [g1]
    simp only
    split at hs
    · rename_i σ1 h2
      simp only [Option.some.injEq, Prod.mk.injEq] at hs
      obtain ⟨rfl, rfl⟩ := hs
      obtain ⟨σ', g3, g4⟩ := fold_sim hf g2 h h2
      rw [g3]
      exact ⟨σ', rfl, g4⟩
    · rename_i k e σ1 h2
      obtain ⟨σ', g3, g4⟩ := fold_sim hf g2 h h2
      rw [g3]
      simp only
      split at hs
      · cases hs
      · rename_i items' h3
        obtain ⟨l', g5, g6⟩ := hit _ _ h3
        rw [g5]
        simp only
        split at hs
        · rename_i k' ex' σ3 h4
          split at hs
          · rename_i hcond
            simp only [Option.some.injEq, Prod.mk.injEq] at hs
            obtain ⟨rfl, rfl⟩ := hs
            obtain ⟨σ3', g7, g8⟩ := fold_sim hf g6 h h4
            rw [g7]
            refine ⟨σ3', ?_, g8⟩
            simp only
            rw [if_pos ⟨hcond.1, by rw [g6.length]; exact hcond.2⟩]
          · cases hs
        · cases hs
    · cases hs
theorem pm_items {as2 as : List V} (h : RelL as2 noT as) (k : (as2.all fun v => v.cells.all V.pm) = true) : (as.all fun v => v.cells.all V.pm) = true := by
  induction as2 generalizing as with
  | nil => have := h.inv0; subst this; rfl
  | cons x a ih =>
    obtain ⟨y, b', rfl, k1, k2⟩ := h.inv
    simp only [List.all_cons, Bool.and_eq_true] at k ⊢
    exact ⟨((k1.cells (all_pm_cellOk k.1)).pm k.1).1, ih k2 k.2⟩
theorem code_sim (hc : CallSim call2 call) (N : Nat) : ∀ (c : LCode), okC c = true → CSim (evC2 call2 N c) (evC call N (unC c)) := by
  intro c
  induction c with
  | skip =>
    intro _ σ2 σ ex σ2' h hs
    simp only [evC2, Option.some.injEq, Prod.mk.injEq] at hs
    obtain ⟨rfl, rfl⟩ := hs
    exact ⟨σ, rfl, h⟩
  | exit id =>
    intro _ σ2 σ ex σ2' h hs
    simp only [evC2, Option.some.injEq, Prod.mk.injEq] at hs
    obtain ⟨rfl, rfl⟩ := hs
    exact ⟨σ, rfl, h⟩
  | ret =>
    intro _ σ2 σ ex σ2' h hs
    simp only [evC2, Option.some.injEq, Prod.mk.injEq] at hs
    obtain ⟨rfl, rfl⟩ := hs
    exact ⟨σ, rfl, h⟩
  | bad => intro _ σ2 σ ex σ2' h hs; simp [evC2] at hs
  | reg lp ds pp ops kn kp =>
    intro hok σ2 σ ex σ2' h hs
    simp only [evC2] at hs
    split at hs
    · rename_i σ1 h1
      simp only [Option.some.injEq, Prod.mk.injEq] at hs
      obtain ⟨rfl, rfl⟩ := hs
      obtain ⟨σ', g1, g2⟩ := stepL_sim hc (by simpa only [okC] using hok) (prep_rel h lp pp) h1
      exact ⟨{ σ' with fr := keepL kn kp σ'.fr }, by simp only [unC, evC, g1], g2.fr.keep kn kp, g2.tr⟩
    · cases hs
  | seq a b iha ihb =>
    intro hok σ2 σ ex σ2' h hs
    simp only [okC, Bool.and_eq_true] at hok
    simp only [evC2] at hs
    simp only [unC, evC]
    split at hs
    · rename_i σ1 h1
      obtain ⟨σ', g1, g2⟩ := iha hok.1 _ _ _ _ h h1
      rw [g1]
      exact ihb hok.2 _ _ _ _ g2 hs
    · rename_i hne
      obtain ⟨σ', g1, g2⟩ := iha hok.1 _ _ _ _ h hs
      refine ⟨σ', ?_, g2⟩
      rw [g1]
      cases ex with
      | normal => exact (hne _ hs).elim
      | exit id => rfl
      | ret => rfl
  | cond c a b iha ihb =>
    intro hok σ2 σ ex σ2' h hs
    simp only [okC, Bool.and_eq_true] at hok
    simp only [evC2] at hs
    simp only [unC, evC]
    split at hs
    · rename_i t ht
      obtain ⟨v, g1, g2⟩ := opd_rel h.fr hok.1.1 ht
      simp only [Rel] at g2; subst g2
      rw [g1]
      simp only
      split at hs
      · rename_i hb
        rw [if_pos hb]
        exact iha hok.1.2 _ _ _ _ h hs
      · rename_i hb
        rw [if_neg hb]
        exact ihb hok.2 _ _ _ _ h hs
    · cases hs
  | block id a ih =>
    intro hok σ2 σ ex σ2' h hs
    simp only [okC] at hok
    simp only [evC2] at hs
    simp only [unC, evC]
    split at hs
    · rename_i j σ1 h1
      obtain ⟨σ', g1, g2⟩ := ih hok _ _ _ _ h h1
      rw [g1]
      simp only
      split at hs
      · rename_i hj
        simp only [Option.some.injEq, Prod.mk.injEq] at hs
        obtain ⟨rfl, rfl⟩ := hs
        exact ⟨σ', by rw [if_pos hj], g2⟩
      · rename_i hj
        simp only [Option.some.injEq, Prod.mk.injEq] at hs
        obtain ⟨rfl, rfl⟩ := hs
        exact ⟨σ', by rw [if_neg hj], g2⟩
    · rename_i hne
      obtain ⟨σ', g1, g2⟩ := ih hok _ _ _ _ h hs
      refine ⟨σ', ?_, g2⟩
      rw [g1]
      cases ex with
      | normal => rfl
      | exit id => exact (hne _ _ hs).elim
      | ret => rfl
  | loop a ih =>
    intro hok σ2 σ ex σ2' h hs
    simp only [okC] at hok
    simp only [evC2] at hs
    simp only [unC, evC]
    exact iter_sim (ih hok) N _ _ _ _ h hs
  | rng g ps wr a b iha ihb =>
    intro hok σ2 σ ex σ2' h hs
    simp only [okC, Bool.and_eq_true] at hok
    simp only [evC2] at hs
    simp only [unC, evC]
    have hit : ∀ {f : Nat} {ys2 ys : Nat → List V}, (∀ a, RelL (ys2 a) noT (ys a)) → ∀ a l2, itemsOf (call2 f (ys2 a)) = some l2 → ∃ l, itemsOf (call f (ys a)) = some l ∧ RelE l2 l := by
      intro f ys2 ys hy a l2 hl
      cases hr : call2 f (ys2 a) with
      | none => rw [hr] at hl; cases hl
      | some r2 =>
        rw [hr] at hl
        obtain ⟨r, g1, _, g3⟩ := hc f _ r2 _ hr (hy a)
        obtain ⟨l, g4, g5⟩ := g3 l2 hl
        exact ⟨l, by rw [g1]; exact g4, g5⟩
    have hy1 : ∀ a, Rel (.fn (.y a) []) noT (.fn (.y a) []) := fun a => by simp only [Rel]; exact ⟨[], rfl, RelL.nil⟩
    have htr : ∀ {x : Option (List (List V))}, σ2.tr = none → RelTr σ2.tr x → x = none := fun {x} e k => by
      rw [e] at k
      cases x with
      | none => rfl
      | some l => simp [RelTr] at k
    split at hs
    · rename_i f caps ht ho
      split at hs
      · rename_i cs us hf
        split at hs
        · rename_i hpm
          obtain ⟨v, g1, g2⟩ := opd_rel h.fr hok.1.1 ho
          simp only [Rel] at g2
          obtain ⟨ds, rfl, g2⟩ := g2
          obtain ⟨ds', ts, g3, g4, g5⟩ := frzEL_rel _ _ _ _ g2 hf
          rw [htr ht h.tr, g1]
          simp only [g3]
          rw [if_pos (pm_items g4 hpm)]
          exact rng_sim (round_sim (iha hok.1.2) (ihb hok.2) ps wr) (hit (ys2 := fun a => .fn (.y a) [] :: cs) (ys := fun a => .fn (.y a) [] :: ds') fun a => RelL.cons (hy1 a) g4) _ { fr := dropL wr σ.fr, tk := protT ts σ.tk, tr := none } _ _ ⟨(roF_rel h.fr g5).drop wr, by rw [ht]; trivial⟩ hs
        · cases hs
      · cases hs
    · rename_i f caps ht ho
      split at hs
      · rename_i cs us hf
        split at hs
        · rename_i hpm
          obtain ⟨v, g1, g2⟩ := opd_rel h.fr hok.1.1 ho
          simp only [Rel] at g2
          obtain ⟨ds, rfl, g2⟩ := g2
          obtain ⟨ds', ts, g3, g4, g5⟩ := frzEL_rel _ _ _ _ g2 hf
          rw [htr ht h.tr, g1]
          simp only [g3]
          rw [if_pos (pm_items g4 hpm)]
          exact rng_sim (round_sim (iha hok.1.2) (ihb hok.2) ps wr) (hit (ys2 := fun a => cs ++ [.fn (.y a) []]) (ys := fun a => ds' ++ [.fn (.y a) []]) fun a => g4.append (RelL.one (hy1 a))) _ { fr := dropL wr σ.fr, tk := protT ts σ.tk, tr := none } _ _ ⟨(roF_rel h.fr g5).drop wr, by rw [ht]; trivial⟩ hs
        · cases hs
      · cases hs
    · cases hs
/-! ### What is given back -/
structure FinS (tk : TkF) (c : Nat) (us2 us gs : List Nat) : Prop where
  len : us.length = c
  low : ∀ t ∈ us2, t < 1000000
  of : ∀ t ∈ us, t ∈ us2 ∨ ∃ j, j < c ∧ t = dumT j
  gone : ∀ t ∈ gs, t < 1000000 ∧ ∃ n, tk t = some (n, false)
theorem FinS.dumOk {tk : TkF} {c : Nat} {us2 us gs : List Nat} (h : FinS tk c us2 us gs) : dumOk us gs = true := by
  unfold Lo.dumOk
  simp only [Bool.and_eq_true, Bool.not_eq_true']
  refine ⟨?_, ?_⟩
  · cases hm : memN (dumT us.length) us with
    | false => rfl
    | true =>
      rcases h.of _ ((memN_iff _ _).1 hm) with k | ⟨j, hj, e⟩
      · have := h.low _ k; unfold dumT at this; omega
      · rw [h.len] at e; unfold dumT at e; omega
  · cases hm : memN (dumT us.length) gs with
    | false => rfl
    | true => have := (h.gone _ ((memN_iff _ _).1 hm)).1; unfold dumT at this; omega
theorem FinS.dum {tk : TkF} {c : Nat} {us2 us gs : List Nat} (h : FinS tk c us2 us gs) : FinS tk (c + 1) us2 (us ++ [dumT us.length]) gs := by
  refine ⟨by simp [h.len], h.low, fun t ht => ?_, h.gone⟩
  rcases List.mem_append.1 ht with ht | ht
  · rcases h.of t ht with k | ⟨j, hj, e⟩
    · exact .inl k
    · exact .inr ⟨j, by omega, e⟩
  · rw [List.mem_singleton] at ht
    exact .inr ⟨c, by omega, by rw [ht, h.len]⟩
theorem FinS.add {tk : TkF} {c t : Nat} {us2 us gs : List Nat} (h : FinS tk c us2 us gs) (ht : t < 1000000) : FinS tk c (t :: us2) us gs :=
  ⟨h.len, fun s hs => by rcases List.mem_cons.1 hs with rfl | hs; exact ht; exact h.low s hs, fun s hs => by rcases h.of s hs with k | k; exact .inl (List.mem_cons_of_mem _ k); exact .inr k, h.gone⟩
theorem num_tok {c : Nat} (h : c < 1000000) : tb c = c ∧ tb (2000000 + c) = c ∧ rwT c = true ∧ rwT (2000000 + c) = true ∧ mbT (2000000 + c) = true ∧ roX c = false ∧ roX (2000000 + c) = false := by
  unfold tb rwT mbT roX
  refine ⟨by omega, by omega, by simp only [decide_eq_true_eq]; omega, by simp only [decide_eq_true_eq]; omega, by simp only [decide_eq_true_eq]; omega, by simp only [decide_eq_false_iff_not]; omega, by simp only [decide_eq_false_iff_not]; omega⟩
mutual
theorem fin_sim {l : List (Nat × Nat × Bool)} : ∀ (w v w' : V) (c c' : Nat) (us2 us2' us gs : List Nat), Rel w (get l) v → w.fin2 (c, us2) = some (w', c', us2') → FinS (get l) c us2 us gs →
    ∃ v' us' gs', v.fin l (us, gs) = some (v', us', gs') ∧ FinS (get l) c' us2' us' gs' ∧ us <+: us' ∧ (∀ U, us' <+: U → Rel w' (fun k => (U[k]?).bind (get l)) v') ∧ (∀ ρ : TkF, (∀ k n, (k, n) ∈ v'.tks → ρ k = some (n, true)) → Rel w' ρ v')
  | .bool b, v, w', c, c', us2, us2', us, gs, h, hf, hs => by
    simp only [Rel] at h; subst h
    simp only [V.fin2, Option.some.injEq, Prod.mk.injEq] at hf
    obtain ⟨rfl, rfl, rfl⟩ := hf
    exact ⟨_, _, _, rfl, hs, List.prefix_refl _, fun _ _ => by simp only [Rel], fun _ _ => by simp only [Rel]⟩
  | .int k n, v, w', c, c', us2, us2', us, gs, h, hf, hs => by
    simp only [Rel] at h; subst h
    simp only [V.fin2, Option.some.injEq, Prod.mk.injEq] at hf
    obtain ⟨rfl, rfl, rfl⟩ := hf
    exact ⟨_, _, _, rfl, hs, List.prefix_refl _, fun _ _ => by simp only [Rel], fun _ _ => by simp only [Rel]⟩
  | .nil, v, w', c, c', us2, us2', us, gs, h, hf, hs => by
    simp only [Rel] at h; subst h
    simp only [V.fin2, Option.some.injEq, Prod.mk.injEq] at hf
    obtain ⟨rfl, rfl, rfl⟩ := hf
    exact ⟨.nil, _, _, by simp only [V.fin]; rw [if_pos hs.dumOk], hs.dum, List.prefix_append _ _, fun _ _ => by simp only [Rel], fun _ _ => by simp only [Rel]⟩
  | .sl none sz es, v, w', c, c', us2, us2', us, gs, h, hf, hs => by
    simp only [V.fin2, Option.some.injEq, Prod.mk.injEq] at hf
    obtain ⟨rfl, rfl, rfl⟩ := hf
    simp only [Rel] at h
    rcases h with ⟨h1, rfl⟩ | ⟨es', rfl, h1⟩
    · exact ⟨.nil, _, _, by simp only [V.fin]; rw [if_pos hs.dumOk], hs.dum, List.prefix_append _ _, fun _ _ => by simp only [Rel]; exact .inl ⟨h1, trivial⟩, fun _ _ => by simp only [Rel]; exact .inl ⟨h1, trivial⟩⟩
    · exact ⟨.sl none sz es', _, _, by simp only [V.fin]; rw [if_pos hs.dumOk], hs.dum, List.prefix_append _ _, fun _ _ => by simp only [Rel]; exact .inr ⟨es', rfl, h1⟩, fun _ _ => by simp only [Rel]; exact .inr ⟨es', rfl, h1⟩⟩
  | .sl (some u) sz es, v, w', c, c', us2, us2', us, gs, h, hf, hs => by
    simp only [V.fin2] at hf
    split at hf
    · cases hf
    rename_i hm
    split at hf
    · rename_i hrw
      obtain ⟨hrw, hc⟩ := hrw
      simp only [Option.some.injEq, Prod.mk.injEq] at hf
      obtain ⟨rfl, rfl, rfl⟩ := hf
      obtain ⟨n1, n2, n3, n4, n5, n6, n7⟩ := num_tok hc
      simp only [Rel] at h
      rcases h with ⟨h0, h1, rfl⟩ | ⟨es', rfl, h1, w0, g1, g2, _, g4⟩
      · rw [if_pos h0]
        exact ⟨.nil, _, _, by simp only [V.fin]; rw [if_pos hs.dumOk], (hs.dum).add (tb_lt u), List.prefix_append _ _, fun _ _ => by simp only [Rel]; exact .inl ⟨n5, h1, trivial⟩, fun _ _ => by simp only [Rel]; exact .inl ⟨n5, h1, trivial⟩⟩
      · rw [g2 hrw] at g1
        have hnu : ¬ memN (tb u) us = true := fun x => by
          rcases hs.of _ ((memN_iff _ _).1 x) with k | ⟨j, hj, e⟩
          · exact hm ((memN_iff _ _).2 k)
          · have := tb_lt u; unfold dumT at e; omega
        have hng : memN (tb u) gs = false := by
          cases hx : memN (tb u) gs with
          | false => rfl
          | true =>
            obtain ⟨_, n, hn⟩ := hs.gone _ ((memN_iff _ _).1 hx)
            rw [g1] at hn
            simp at hn
        have hnum : ∀ (f : Nat), f = (if mbT u = true then 2000000 + c else c) → tb f = c ∧ rwT f = true ∧ roX f = false ∧ (mbT f = true → es.length ≠ 0) := by
          intro f e
          subst e
          split
          · rename_i hmb; exact ⟨n2, n4, n7, fun _ => g4 hmb⟩
          · exact ⟨n1, n3, n6, fun x => by unfold mbT at x; simp only [decide_eq_true_eq] at x; omega⟩
        obtain ⟨q1, q2, q3, q4⟩ := hnum _ rfl
        refine ⟨.sl (some us.length) sz es', us ++ [tb u], gs, ?_, ?_, List.prefix_append _ _, fun U hU => ?_, fun ρ hρ => ?_⟩
        · simp only [V.fin]
          rw [if_neg hnu, if_pos ⟨by rw [h1.length]; exact g1, hng⟩]
        · refine ⟨by simp [hs.len], (hs.add (tb_lt u)).low, fun t ht => ?_, hs.gone⟩
          rcases List.mem_append.1 ht with ht | ht
          · rcases hs.of t ht with k | ⟨j, hj, e⟩
            · exact .inl (List.mem_cons_of_mem _ k)
            · exact .inr ⟨j, by omega, e⟩
          · rw [List.mem_singleton] at ht; subst ht
            exact .inl (List.mem_cons_self ..)
        · simp only [Rel]
          refine .inr ⟨es', by rw [q1, hs.len], h1, true, ?_, fun _ => rfl, fun x => (by rw [q3] at x; cases x), q4⟩
          rw [q1]
          obtain ⟨r, rfl⟩ := hU
          have : (us ++ [tb u] ++ r)[c]? = some (tb u) := by rw [← hs.len]; simp
          show ((us ++ [tb u] ++ r)[c]?).bind (get l) = _
          rw [this]
          exact g1
        · simp only [Rel]
          refine .inr ⟨es', by rw [q1, hs.len], h1, true, ?_, fun _ => rfl, fun x => (by rw [q3] at x; cases x), q4⟩
          rw [q1, ← hs.len, ← h1.length]
          exact hρ _ _ (by simp [V.tks])
    · split at hf
      · rename_i hro
        simp only [Option.some.injEq, Prod.mk.injEq] at hf
        obtain ⟨rfl, rfl, rfl⟩ := hf
        simp only [Rel] at h
        rcases h with ⟨h0, h1, rfl⟩ | ⟨es', rfl, h1, w0, g1, _, g3, _⟩
        · exact ⟨.nil, _, _, by simp only [V.fin]; rw [if_pos hs.dumOk], hs.dum, List.prefix_append _ _, fun _ _ => by simp only [Rel]; exact .inl ⟨h1, trivial⟩, fun _ _ => by simp only [Rel]; exact .inl ⟨h1, trivial⟩⟩
        · rw [g3 hro] at g1
          have hnu : ¬ memN (tb u) us = true := fun x => by
            rcases hs.of _ ((memN_iff _ _).1 x) with k | ⟨j, hj, e⟩
            · exact hm ((memN_iff _ _).2 k)
            · have := tb_lt u; unfold dumT at e; omega
          have hs' : FinS (get l) c us2 us (tb u :: gs) := ⟨hs.len, hs.low, hs.of, fun t ht => by
            rcases List.mem_cons.1 ht with rfl | ht
            · exact ⟨tb_lt u, _, g1⟩
            · exact hs.gone t ht⟩
          refine ⟨.sl none sz es', _, _, ?_, hs'.dum, List.prefix_append _ _, fun _ _ => by simp only [Rel]; exact .inr ⟨es', rfl, h1⟩, fun _ _ => by simp only [Rel]; exact .inr ⟨es', rfl, h1⟩⟩
          simp only [V.fin]
          rw [if_neg hnu, if_neg (fun x => by rw [g1] at x; simp at x), if_pos hs'.dumOk]
      · cases hf
  | .agg cs, v, w', c, c', us2, us2', us, gs, h, hf, hs => by
    simp only [Rel] at h
    obtain ⟨ds, rfl, h⟩ := h
    simp only [V.fin2] at hf
    split at hf
    · rename_i cs' us' h1
      simp only [Option.some.injEq, Prod.mk.injEq] at hf
      obtain ⟨rfl, rfl⟩ := hf
      obtain ⟨ds', us1, gs1, g1, g2, g3, g4, g5⟩ := finL_sim cs ds cs' c c' us2 us2' us gs h h1 hs
      refine ⟨.agg ds', us1, gs1, by simp only [V.fin, g1], g2, g3, fun U hU => by simp only [Rel]; exact ⟨_, rfl, g4 U hU⟩, fun ρ hρ => by simp only [Rel]; exact ⟨_, rfl, g5 ρ (by simpa only [V.tks] using hρ)⟩⟩
    · cases hf
  | .und, _, _, _, _, _, _, _, _, _, hf, _ => by simp [V.fin2] at hf
  | .dead, _, _, _, _, _, _, _, _, _, hf, _ => by simp [V.fin2] at hf
  | .tup _, _, _, _, _, _, _, _, _, _, hf, _ => by simp [V.fin2] at hf
  | .fn _ _, _, _, _, _, _, _, _, _, _, hf, _ => by simp [V.fin2] at hf
  | .ref _ _, _, _, _, _, _, _, _, _, _, hf, _ => by simp [V.fin2] at hf
  | .cref _, _, _, _, _, _, _, _, _, _, hf, _ => by simp [V.fin2] at hf
  | .eref _ _ _ _ _, _, _, _, _, _, _, _, _, _, hf, _ => by simp [V.fin2] at hf
  | .box _, _, _, _, _, _, _, _, _, _, hf, _ => by simp [V.fin2] at hf
theorem finL_sim {l : List (Nat × Nat × Bool)} : ∀ (ws vs ws' : List V) (c c' : Nat) (us2 us2' us gs : List Nat), RelL ws (get l) vs → finL2 ws (c, us2) = some (ws', c', us2') → FinS (get l) c us2 us gs →
    ∃ vs' us' gs', finL l vs (us, gs) = some (vs', us', gs') ∧ FinS (get l) c' us2' us' gs' ∧ us <+: us' ∧ (∀ U, us' <+: U → RelL ws' (fun k => (U[k]?).bind (get l)) vs') ∧ (∀ ρ : TkF, (∀ k n, (k, n) ∈ tksL vs' → ρ k = some (n, true)) → RelL ws' ρ vs')
  | [], vs, ws', c, c', us2, us2', us, gs, h, hf, hs => by
    have := h.inv0; subst this
    simp only [finL2, Option.some.injEq, Prod.mk.injEq] at hf
    obtain ⟨rfl, rfl, rfl⟩ := hf
    exact ⟨[], us, gs, rfl, hs, List.prefix_refl _, fun _ _ => RelL.nil, fun _ _ => RelL.nil⟩
  | w :: ws, vs, ws', c, c', us2, us2', us, gs, h, hf, hs => by
    obtain ⟨v, r, rfl, h1, h2⟩ := h.inv
    simp only [finL2] at hf
    split at hf
    · rename_i w1 st1 e1
      obtain ⟨c1, us21⟩ := st1
      split at hf
      · rename_i ws1 st2 e2
        obtain ⟨c2, us22⟩ := st2
        simp only [Option.some.injEq, Prod.mk.injEq] at hf
        obtain ⟨rfl, rfl, rfl⟩ := hf
        obtain ⟨v1, us1, gs1, g1, g2, g3, g4, g5⟩ := fin_sim w v w1 c c1 us2 us21 us gs h1 e1 hs
        obtain ⟨vs1, us3, gs3, k1, k2, k3, k4, k5⟩ := finL_sim ws r ws1 c1 c2 us21 us22 us1 gs1 h2 e2 g2
        refine ⟨v1 :: vs1, us3, gs3, by simp only [finL, g1, k1], k2, g3.trans k3, fun U hU => RelL.cons (g4 U (k3.trans hU)) (k4 U hU), fun ρ hρ => RelL.cons (g5 ρ fun k n hk => hρ k n (by simp [tksL, hk])) (k5 ρ fun k n hk => hρ k n (by simp [tksL, hk]))⟩
      · cases hf
    · cases hf
end
theorem one_rel {tk : TkF} {ws vs : List V} (h : RelL ws tk vs) : Rel (one ws) tk (one vs) := by
  cases ws with
  | nil => have := h.inv0; subst this; simp only [one, Rel]; exact ⟨[], rfl, RelL.nil⟩
  | cons w ws =>
    obtain ⟨v, r, rfl, h1, h2⟩ := h.inv
    cases ws with
    | nil => have := h2.inv0; subst this; exact h1
    | cons w' ws =>
      obtain ⟨v', r', rfl, h3, h4⟩ := h2.inv
      simp only [one, Rel]
      exact ⟨_, rfl, h⟩
theorem one_tksL (vs : List V) : (one vs).tks = tksL vs := by
  unfold one
  split
  · simp [tksL]
  · simp [V.tks]
theorem rvs_rel {fr2 fr : List (Nat × V)} {tk : TkF} (h : RelFr fr2 fr tk) : ∀ {rs : List RV} {ws : List V}, rvs fr2 rs = some ws → ∃ vs, rvs fr rs = some vs ∧ RelL ws tk vs
  | [], ws, hs => by
    simp only [rvs, Option.some.injEq] at hs; subst hs
    exact ⟨[], rfl, RelL.nil⟩
  | .t n :: rs, ws, hs => by
    simp only [rvs] at hs ⊢
    split at hs
    · rename_i w ws' h1 h2
      simp only [Option.some.injEq] at hs; subst hs
      obtain ⟨v, g1, g2⟩ := opd_rel h (x := .t n) rfl h1
      obtain ⟨vs, g3, g4⟩ := rvs_rel h h2
      rw [show opd fr (.t n) = some v from g1, g3]
      exact ⟨_, rfl, RelL.cons g2 g4⟩
    · cases hs
  | .c s n :: rs, ws, hs => by
    simp only [rvs] at hs ⊢
    split at hs
    · rename_i cs ws' h1 h2
      split at hs
      · rename_i w h3
        simp only [Option.some.injEq] at hs; subst hs
        rcases h s _ h1 with e | ⟨v, g1, g2⟩
        · cases e
        · simp only [Rel] at g2
          obtain ⟨ds, rfl, g2⟩ := g2
          obtain ⟨vs, g3, g4⟩ := rvs_rel h h2
          obtain ⟨x, g5, g6⟩ := partV_rel g2 h3
          rw [g1, g3]
          simp only [g5]
          exact ⟨_, rfl, RelL.cons g6 g4⟩
      · cases hs
    · cases hs
theorem fin2_not_tup {w w' : V} {st st' : Nat × List Nat} (h : w.fin2 st = some (w', st')) : ∀ cs, w' ≠ .tup cs := by
  intro cs e
  subst e
  cases w with
  | sl t sz es =>
    cases t with
    | none => simp [V.fin2] at h
    | some u =>
      simp only [V.fin2] at h
      split at h
      · cases h
      · split at h
        · simp at h
        · split at h <;> simp at h
  | agg cs =>
    simp only [V.fin2] at h
    split at h <;> simp at h
  | _ => simp [V.fin2] at h
theorem result_sim {σ2 σ : St} (h : RelS σ2 σ) {rs : List RV} {r2 : V} (hr : result2 rs σ2 = some r2) : ∃ r, result rs σ = some r ∧ RelR r2 r ∧ ∀ l2, itemsOf (some r2) = some l2 → ∃ l, itemsOf (some r) = some l ∧ RelE l2 l := by
  unfold result2 at hr
  split at hr
  · rename_i ws h1
    split at hr
    · rename_i ws' st h2
      obtain ⟨c, us2⟩ := st
      simp only [Option.some.injEq] at hr; subst hr
      obtain ⟨vs, g1, g2⟩ := rvs_rel h.fr h1
      obtain ⟨vs', us, gs, k1, k2, k3, k4, k5⟩ := finL_sim ws vs ws' 0 c [] us2 [] [] g2 h2 ⟨rfl, fun _ h => (by cases h), fun _ h => (by cases h), fun _ h => (by cases h)⟩
      refine ⟨one vs', by unfold result; simp only [g1, k1], ⟨⟨_, one_rel (k4 us (List.prefix_refl _))⟩, fun ρ hρ => one_rel (k5 ρ (by rw [one_tksL] at hρ; exact hρ))⟩, fun l2 hl => ?_⟩
      have key : ws' = [] := by
        cases ws' with
        | nil => rfl
        | cons w ws1 =>
          exfalso
          cases ws with
          | nil => simp [finL2] at h2
          | cons w0 ws0 =>
            simp only [finL2] at h2
            split at h2
            · rename_i w1 st1 e1
              split at h2
              · rename_i ws2 st2 e2
                simp only [Option.some.injEq, Prod.mk.injEq, List.cons.injEq] at h2
                obtain ⟨⟨rfl, rfl⟩, _⟩ := h2
                have hnt := fin2_not_tup e1
                cases ws2 with
                | nil =>
                  simp only [one] at hl
                  cases w1 <;> first | (cases hl; done) | exact hnt _ rfl
                | cons w2 ws2 =>
                  simp only [one, itemsOf] at hl
                  cases w1 <;> first | (simp [itemsL] at hl; done) | exact hnt _ rfl
              · cases h2
            · cases h2
      subst key
      have := (k4 us (List.prefix_refl _)).inv0; subst this
      simp only [one, itemsOf, itemsL, Option.some.injEq] at hl ⊢
      subst hl
      exact ⟨[], rfl, RelE.nil⟩
    · cases hr
  · cases hr
theorem items_tups (l : List (List V)) : itemsL (tupsL l) = some l := itemsL_tups l
theorem tups_rel : ∀ {l2 l : List (List V)}, RelE l2 l → ∀ ρ : TkF, RelL (tupsL l2) ρ (tupsL l)
  | [], l, h, ρ => by have := h.nil_left; subst this; exact RelL.nil
  | x :: l2, l, h, ρ => by
    simp only [RelE] at h
    obtain ⟨y, r, rfl, h1, h2⟩ := h
    simp only [tupsL]
    exact RelL.cons (by simp only [Rel]; exact ⟨_, rfl, h1.wk⟩) (tups_rel h2 ρ)
theorem finish_sim {σ2 σ : St} (h : RelS σ2 σ) {it : Bool} {rs : List RV} {r2 : V} (hr : finish2 it rs σ2 = some r2) : ∃ r, finish it rs σ = some r ∧ RelR r2 r ∧ ∀ l2, itemsOf (some r2) = some l2 → ∃ l, itemsOf (some r) = some l ∧ RelE l2 l := by
  unfold finish2 at hr
  unfold finish
  split at hr
  · rename_i hi
    rw [if_pos hi]
    split at hr
    · rename_i he
      rw [if_pos he]
      split at hr
      · rename_i l2 ht
        simp only [Option.some.injEq] at hr; subst hr
        have := h.tr
        rw [ht] at this
        cases hl : σ.tr with
        | none => rw [hl] at this; exact this.elim
        | some l =>
          rw [hl] at this
          simp only [RelTr] at this
          refine ⟨_, rfl, ⟨⟨noT, by simp only [Rel]; exact ⟨_, rfl, tups_rel this _⟩⟩, fun ρ _ => by simp only [Rel]; exact ⟨_, rfl, tups_rel this _⟩⟩, fun l' hl' => ?_⟩
          simp only [itemsOf, itemsL_tups, Option.some.injEq] at hl' ⊢
          subst hl'
          exact ⟨l, rfl, this⟩
      · cases hr
    · cases hr
  · rename_i hi
    rw [if_neg hi]
    exact result_sim h hr
/-! ### Functions -/
theorem ranged_rel : ∀ {ws vs : List V} {tk : TkF}, RelL ws tk vs → (∀ w ∈ ws, w ≠ .dead) → ranged vs = ranged ws
  | [], vs, tk, h, _ => by have := h.inv0; subst this; rfl
  | w :: ws, vs, tk, h, k => by
    obtain ⟨v, r, rfl, h1, h2⟩ := h.inv
    have ih := ranged_rel h2 fun x hx => k x (by simp [hx])
    cases w with
    | dead => exact (k .dead (by simp) rfl).elim
    | fn f cs =>
      simp only [Rel] at h1; obtain ⟨ds, rfl, _⟩ := h1
      cases f <;> first | exact ih | rfl
    | sl t sz es =>
      cases t with
      | none => simp only [Rel] at h1; rcases h1 with ⟨_, rfl⟩ | ⟨_, rfl, _⟩ <;> exact ih
      | some u => simp only [Rel] at h1; rcases h1 with ⟨_, _, rfl⟩ | ⟨_, rfl, _⟩ <;> exact ih
    | und => simp only [Rel] at h1; subst h1; exact ih
    | bool _ => simp only [Rel] at h1; subst h1; exact ih
    | int _ _ => simp only [Rel] at h1; subst h1; exact ih
    | nil => simp only [Rel] at h1; subst h1; exact ih
    | ref _ _ => simp only [Rel] at h1; subst h1; exact ih
    | agg _ => simp only [Rel] at h1; obtain ⟨ds, rfl, _⟩ := h1; exact ih
    | tup _ => simp only [Rel] at h1; obtain ⟨ds, rfl, _⟩ := h1; exact ih
    | cref _ => simp only [Rel] at h1; obtain ⟨ds, rfl, _⟩ := h1; exact ih
    | eref _ _ _ _ _ => simp only [Rel] at h1; obtain ⟨ds, rfl, _⟩ := h1; exact ih
    | box _ => simp only [Rel] at h1; obtain ⟨ds, rfl, _⟩ := h1; exact ih
theorem params_rel : ∀ {ws vs : List V} {tk : TkF} (n : Nat), RelL ws tk vs → RelFr (params n ws) (params n vs) tk
  | [], vs, tk, n, h => by have := h.inv0; subst this; intro s w hs; simp [params, get] at hs
  | w :: ws, vs, tk, n, h => by
    obtain ⟨v, r, rfl, h1, h2⟩ := h.inv
    intro s x hs
    simp only [params, get] at hs ⊢
    split at hs
    · rename_i e
      injection hs with hs; subst hs
      rw [if_pos e]
      exact .inr ⟨v, rfl, h1⟩
    · rename_i e
      rw [if_neg e]
      exact params_rel (n + 1) h2 s x hs
theorem liveL_ne : ∀ {ws : List V}, liveL ws = true → ∀ w ∈ ws, w ≠ .dead
  | [], _, _, h => by cases h
  | w :: ws, hl, x, hx => by
    have : w ≠ .dead ∧ liveL ws = true := by cases w <;> simp_all [liveL]
    rcases List.mem_cons.1 hx with rfl | hx
    · exact this.1
    · exact liveL_ne this.2 x hx
theorem body_sim (hc : CallSim call2 call) (N : Nat) {lf : LFun} (hok : okC lf.body = true) (hsl : lf.sl = []) {as2 as : List V} (ha : RelL as2 noT as) {r2 : V} (hr : evBody2 call2 N lf as2 = some r2) :
    ∃ r, evBody call N (unF lf) as = some r ∧ RelR r2 r ∧ ∀ l2, itemsOf (some r2) = some l2 → ∃ l, itemsOf (some r) = some l ∧ RelE l2 l := by
  unfold evBody2 at hr
  unfold evBody
  split at hr
  case isFalse => cases hr
  rename_i hlen
  rw [if_pos (by rw [ha.length]; exact hlen.1), ranged_rel ha (liveL_ne hlen.2)]
  simp only [unF]
  rw [hsl] at hr ⊢
  simp only [deadL, List.append_nil] at hr ⊢
  have h0 : RelS { fr := params 0 as2, tk := [], tr := if ranged as2 = true then some [] else none } { fr := params 0 as, tk := [], tr := if ranged as2 = true then some [] else none } := by
    refine ⟨params_rel 0 (ha.mono fun _ _ h => by cases h), ?_⟩
    simp only
    split
    · simp only [RelTr]; exact RelE.nil
    · trivial
  split at hr
  · rename_i σ1 h1
    obtain ⟨σ', g1, g2⟩ := code_sim hc N _ hok _ _ _ _ h0 h1
    rw [g1]
    exact finish_sim g2 hr
  · rename_i σ1 h1
    obtain ⟨σ', g1, g2⟩ := code_sim hc N _ hok _ _ _ _ h0 h1
    rw [g1]
    exact finish_sim g2 hr
  · cases hr
end
end Go.Lo

/- The limit of the plain machine; what it says is said of the logical one. -/
namespace Go.Lo
section
variable {c c' : Nat → List V → Option V}
theorem sem2_le (h : Le c c') {bx : Nat → Option (List V)} {ex : List Nat} {d : Nat} {k : K} {vs : List V} {e : Eff2} (he : sem2 c bx ex d k vs = some e) : sem2 c' bx ex d k vs = some e := by
  cases k with
  | call dr al mk =>
    have key : ∀ {f : Nat} {us : List V}, callE2 c bx d dr al mk f us = some e → callE2 c' bx d dr al mk f us = some e := fun he => by
      unfold callE2 at he ⊢
      split at he
      · rename_i as has
        split at he
        · rename_i r hr
          simp only [h _ as r hr]
          exact he
        · cases he
      · cases he
    simp only [sem2] at he ⊢
    split at he
    · exact key he
    · exact key he
    · exact he
    · exact he
  | _ => exact he
theorem stepI2_le (h : Le c c') {i : LIns} {σ σ' : St} (hs : stepI2 c i σ = some σ') : stepI2 c' i σ = some σ' := by
  unfold stepI2 at hs ⊢
  cases hw : wanted σ.fr i.guard with
  | none => rw [hw] at hs; cases hs
  | some b =>
    rw [hw] at hs
    cases b with
    | false => exact hs
    | true =>
      simp only at hs ⊢
      cases hvs : opds σ.fr i.xs with
      | none => rw [hvs] at hs; cases hs
      | some vs =>
        rw [hvs] at hs
        simp only at hs ⊢
        cases he : sem2 c (bxOf σ.fr i.ex) i.ex (i.dst.getD 0) i.k vs with
        | none => rw [he] at hs; cases hs
        | some e =>
          rw [he] at hs
          rw [sem2_le h he]
          exact hs
theorem stepL2_le (h : Le c c') : ∀ {is : List LIns} {σ σ' : St}, stepL2 c is σ = some σ' → stepL2 c' is σ = some σ'
  | [], _, _, hs => hs
  | i :: is, σ, σ', hs => by
    simp only [stepL2] at hs ⊢
    split at hs
    · rename_i σ1 h1
      rw [stepI2_le h h1]
      exact stepL2_le h hs
    · cases hs
theorem evC2_le (h : Le c c') {N N' : Nat} (hN : N ≤ N') : ∀ (lc : LCode) {σ : St} {x : Ex × St}, evC2 c N lc σ = some x → evC2 c' N' lc σ = some x := by
  intro lc
  induction lc with
  | skip => intro σ x hs; exact hs
  | exit id => intro σ x hs; exact hs
  | ret => intro σ x hs; exact hs
  | bad => intro σ x hs; exact hs
  | reg lp ds pp ops kn kp =>
    intro σ x hs
    simp only [evC2] at hs ⊢
    split at hs
    · rename_i σ1 h1
      rw [stepL2_le h h1]
      exact hs
    · cases hs
  | seq a b iha ihb =>
    intro σ x hs
    simp only [evC2] at hs ⊢
    split at hs
    · rename_i σ1 h1
      rw [iha h1]
      exact ihb hs
    · rename_i hne
      rw [iha hs]
      split
      · rename_i σ1 h1
        injection h1 with h1
        subst h1
        exact (hne _ hs).elim
      · rfl
  | cond cc a b iha ihb =>
    intro σ x hs
    simp only [evC2] at hs ⊢
    split at hs
    · rename_i t ht
      cases t with
      | true => simp only [if_true] at hs ⊢; exact iha hs
      | false => simp only [Bool.false_eq_true, if_false] at hs ⊢; exact ihb hs
    · cases hs
  | block id a ih =>
    intro σ x hs
    simp only [evC2] at hs ⊢
    split at hs
    · rename_i j σ1 h1
      rw [ih h1]
      exact hs
    · rename_i hne
      rw [ih hs]
      split
      · rename_i j σ1 h1
        injection h1 with h1
        subst h1
        exact (hne _ _ hs).elim
      · rfl
  | loop a ih =>
    intro σ x hs
    simp only [evC2] at hs ⊢
    exact iter_le (fun _ _ h => ih h) hN hs
  | rng g ps wr a b iha ihb =>
    intro σ x hs
    simp only [evC2] at hs ⊢
    split at hs
    · split at hs
      · split at hs
        · rename_i hc
          rw [if_pos hc]
          exact rngE_le (fun _ _ _ h => roundE_le (fun _ _ h => iha h) (fun _ _ h => ihb h) h) (fun _ R hR => h _ _ R hR) hs
        · cases hs
      · cases hs
    · split at hs
      · split at hs
        · rename_i hc
          rw [if_pos hc]
          exact rngE_le (fun _ _ _ h => roundE_le (fun _ _ h => iha h) (fun _ _ h => ihb h) h) (fun _ R hR => h _ _ R hR) hs
        · cases hs
      · cases hs
    · cases hs
theorem evBody2_le (h : Le c c') {N N' : Nat} (hN : N ≤ N') {lf : LFun} {args : List V} {r : V} (hs : evBody2 c N lf args = some r) : evBody2 c' N' lf args = some r := by
  unfold evBody2 at hs ⊢
  split at hs
  · rename_i hl
    rw [if_pos hl]
    split at hs
    · rename_i σ h1; rw [evC2_le h hN _ h1]; exact hs
    · rename_i σ h1; rw [evC2_le h hN _ h1]; exact hs
    · cases hs
  · cases hs
end
section
variable {F : Nat → Option (List V → Option V)} {C : Nat → Option LFun}
theorem evF2_succ : ∀ (n : Nat), Le (evF2 F C n) (evF2 F C (n + 1))
  | 0, f, as, r, h => by simp [evF2] at h
  | n + 1, f, as, r, h => by
    rw [evF2] at h ⊢
    split at h
    · exact h
    · split at h
      · exact evBody2_le (evF2_succ n) (Nat.le_succ n) h
      · cases h
theorem evF2_le {n m : Nat} (h : n ≤ m) : Le (evF2 F C n) (evF2 F C m) := by
  induction h with
  | refl => exact fun _ _ _ h => h
  | step _ ih => exact fun f as r hr => evF2_succ _ f as r (ih f as r hr)
/-- What a function gives back, if it ends: whatever the fuel. -/
noncomputable def run2 (F : Nat → Option (List V → Option V)) (C : Nat → Option LFun) (f : Nat) (as : List V) : Option V :=
  open Classical in if h : ∃ r n, evF2 F C n f as = some r then some (Classical.choose h) else none
theorem run2_of {n f : Nat} {as : List V} {r : V} (h : evF2 F C n f as = some r) : run2 F C f as = some r := by
  unfold run2
  have hex : ∃ r n, evF2 F C n f as = some r := ⟨r, n, h⟩
  rw [dif_pos hex]
  obtain ⟨m, hm⟩ := Classical.choose_spec hex
  have h1 := evF2_le (Nat.le_max_left n m) f as r h
  have h2 := evF2_le (Nat.le_max_right n m) f as _ hm
  rw [h1] at h2
  exact h2.symm
theorem of_run2 {f : Nat} {as : List V} {r : V} (h : run2 F C f as = some r) : ∃ n, evF2 F C n f as = some r := by
  unfold run2 at h
  split at h
  · rename_i hex
    injection h with h; subst h
    exact Classical.choose_spec hex
  · cases h
/-! Few calls need little fuel. -/
theorem sem2_fin {bx : Nat → Option (List V)} {ex : List Nat} {d : Nat} {k : K} {vs : List V} {e : Eff2} (he : sem2 (run2 F C) bx ex d k vs = some e) : ∃ n, sem2 (evF2 F C n) bx ex d k vs = some e := by
  cases k with
  | call dr al mk =>
    have key : ∀ {f : Nat} {us : List V}, callE2 (run2 F C) bx d dr al mk f us = some e → ∃ n, callE2 (evF2 F C n) bx d dr al mk f us = some e := fun he => by
      unfold callE2 at he ⊢
      split at he
      · rename_i as has
        split at he
        · rename_i r hr
          obtain ⟨n, hn⟩ := of_run2 hr
          refine ⟨n, ?_⟩
          simp only [hn]
          exact he
        · cases he
      · cases he
    simp only [sem2] at he ⊢
    split at he
    · exact key he
    · exact key he
    · exact ⟨0, he⟩
    · exact ⟨0, he⟩
  | _ => exact ⟨0, he⟩
theorem stepI2_fin {i : LIns} {σ σ' : St} (hs : stepI2 (run2 F C) i σ = some σ') : ∃ n, stepI2 (evF2 F C n) i σ = some σ' := by
  unfold stepI2 at hs ⊢
  cases hw : wanted σ.fr i.guard with
  | none => rw [hw] at hs; cases hs
  | some b =>
    rw [hw] at hs
    cases b with
    | false => exact ⟨0, hs⟩
    | true =>
      simp only at hs ⊢
      cases hvs : opds σ.fr i.xs with
      | none => rw [hvs] at hs; cases hs
      | some vs =>
        rw [hvs] at hs
        simp only at hs ⊢
        cases he : sem2 (run2 F C) (bxOf σ.fr i.ex) i.ex (i.dst.getD 0) i.k vs with
        | none => rw [he] at hs; cases hs
        | some e =>
          rw [he] at hs
          obtain ⟨n, hn⟩ := sem2_fin he
          exact ⟨n, by rw [hn]; exact hs⟩
theorem stepL2_fin : ∀ {is : List LIns} {σ σ' : St}, stepL2 (run2 F C) is σ = some σ' → ∃ n, stepL2 (evF2 F C n) is σ = some σ'
  | [], _, _, hs => ⟨0, hs⟩
  | i :: is, σ, σ', hs => by
    simp only [stepL2] at hs ⊢
    split at hs
    · rename_i σ1 h1
      obtain ⟨n, hn⟩ := stepI2_fin h1
      obtain ⟨m, hm⟩ := stepL2_fin hs
      refine ⟨max n m, ?_⟩
      rw [stepI2_le (evF2_le (Nat.le_max_left n m)) hn]
      exact stepL2_le (evF2_le (Nat.le_max_right n m)) hm
    · cases hs
theorem evC2_fin {N : Nat} : ∀ (lc : LCode) {σ : St} {x : Ex × St}, evC2 (run2 F C) N lc σ = some x → ∃ n, evC2 (evF2 F C n) N lc σ = some x := by
  intro lc
  induction lc with
  | skip => intro σ x hs; exact ⟨0, hs⟩
  | exit id => intro σ x hs; exact ⟨0, hs⟩
  | ret => intro σ x hs; exact ⟨0, hs⟩
  | bad => intro σ x hs; exact ⟨0, hs⟩
  | reg lp ds pp ops kn kp =>
    intro σ x hs
    simp only [evC2] at hs ⊢
    split at hs
    · rename_i σ1 h1
      obtain ⟨n, hn⟩ := stepL2_fin h1
      exact ⟨n, by rw [hn]; exact hs⟩
    · cases hs
  | seq a b iha ihb =>
    intro σ x hs
    simp only [evC2] at hs ⊢
    split at hs
    · rename_i σ1 h1
      obtain ⟨n, hn⟩ := iha h1
      obtain ⟨m, hm⟩ := ihb hs
      refine ⟨max n m, ?_⟩
      rw [evC2_le (evF2_le (Nat.le_max_left n m)) (Nat.le_refl N) _ hn]
      exact evC2_le (evF2_le (Nat.le_max_right n m)) (Nat.le_refl N) _ hm
    · rename_i hne
      obtain ⟨n, hn⟩ := iha hs
      refine ⟨n, ?_⟩
      rw [hn]
      split
      · rename_i σ1 h1
        injection h1 with h1
        subst h1
        exact (hne _ hs).elim
      · rfl
  | cond cc a b iha ihb =>
    intro σ x hs
    simp only [evC2] at hs ⊢
    split at hs
    · rename_i t ht
      cases t with
      | true => simp only [if_true] at hs ⊢; exact iha hs
      | false => simp only [Bool.false_eq_true, if_false] at hs ⊢; exact ihb hs
    · cases hs
  | block id a ih =>
    intro σ x hs
    simp only [evC2] at hs ⊢
    split at hs
    · rename_i j σ1 h1
      obtain ⟨n, hn⟩ := ih h1
      exact ⟨n, by rw [hn]; exact hs⟩
    · rename_i hne
      obtain ⟨n, hn⟩ := ih hs
      refine ⟨n, ?_⟩
      rw [hn]
      split
      · rename_i j σ1 h1
        injection h1 with h1
        subst h1
        exact (hne _ _ hs).elim
      · rfl
  | loop a ih =>
    intro σ x hs
    simp only [evC2] at hs ⊢
    exact iter_fin (f := fun n => evC2 (evF2 F C n) N a) (fun n m hnm σ x h => evC2_le (evF2_le hnm) (Nat.le_refl N) a h) (fun σ x h => ih h) hs
  | rng g ps wr a b iha ihb =>
    intro σ x hs
    have key : ∀ {f : Nat} {mkA : Nat → List V} {τ : St}, rngE (roundE (evC2 (run2 F C) N a) (evC2 (run2 F C) N b) ps wr) (fun a => run2 F C f (mkA a)) τ = some x → ∃ n, rngE (roundE (evC2 (evF2 F C n) N a) (evC2 (evF2 F C n) N b) ps wr) (fun a => evF2 F C n f (mkA a)) τ = some x := by
      intro f mkA τ hs
      refine rngE_fin (it := fun a => run2 F C f (mkA a)) (jt := fun n a => evF2 F C n f (mkA a)) (f := fun n => roundE (evC2 (evF2 F C n) N a) (evC2 (evF2 F C n) N b) ps wr) (fun n m hnm σ as x h => ?_) (fun σ as x h => ?_) (fun n m hnm a R h => evF2_le hnm _ _ R h) (fun a R h => of_run2 h) hs
      · exact roundE_le (fun _ _ h => evC2_le (evF2_le hnm) (Nat.le_refl N) a h) (fun _ _ h => evC2_le (evF2_le hnm) (Nat.le_refl N) b h) h
      · exact roundE_fin (fA := fun n => evC2 (evF2 F C n) N a) (fB := fun n => evC2 (evF2 F C n) N b) (fun n m hnm σ x h => evC2_le (evF2_le hnm) (Nat.le_refl N) a h) (fun n m hnm σ x h => evC2_le (evF2_le hnm) (Nat.le_refl N) b h) (fun _ _ h => iha h) (fun _ _ h => ihb h) h
    simp only [evC2] at hs ⊢
    split at hs
    · split at hs
      · split at hs
        · rename_i hc
          simp only [if_pos hc]
          exact key (mkA := fun a => .fn (.y a) [] :: _) hs
        · cases hs
      · cases hs
    · split at hs
      · split at hs
        · rename_i hc
          simp only [if_pos hc]
          exact key (mkA := fun a => _ ++ [.fn (.y a) []]) hs
        · cases hs
      · cases hs
    · cases hs
/-- A body's equation: the calls in it may be told by theirs. -/
theorem run2_of_body {f N : Nat} {lf : LFun} {as : List V} {r : V} (hF : F f = none) (hC : C f = some lf) (h : evBody2 (run2 F C) N lf as = some r) : run2 F C f as = some r := by
  have key : ∃ n, evBody2 (evF2 F C n) N lf as = some r := by
    unfold evBody2 at h ⊢
    split at h
    · rename_i hl
      split at h
      · rename_i σ h1
        obtain ⟨n, hn⟩ := evC2_fin _ h1
        exact ⟨n, by rw [if_pos hl, hn]; exact h⟩
      · rename_i σ h1
        obtain ⟨n, hn⟩ := evC2_fin _ h1
        exact ⟨n, by rw [if_pos hl, hn]; exact h⟩
      · cases h
    · cases h
  obtain ⟨n, hn⟩ := key
  refine run2_of (n := max n N + 1) ?_
  rw [evF2, hF]
  simp only [hC]
  exact evBody2_le (evF2_le (Nat.le_max_left n N)) (Nat.le_max_right n N) hn
theorem run2_told {f : Nat} {g : List V → Option V} {as : List V} (hF : F f = some g) : run2 F C f as = g as := by
  cases hg : g as with
  | some r => exact run2_of (n := 1) (by rw [evF2, hF]; exact hg)
  | none =>
    cases hr : run2 F C f as with
    | none => rfl
    | some r =>
      obtain ⟨n, hn⟩ := of_run2 hr
      cases n with
      | zero => simp [evF2] at hn
      | succ n =>
        rw [evF2, hF] at hn
        simp only at hn
        rw [hg] at hn
        cases hn
/-- What the tables of the two machines have to do with each other. -/
structure TabR (F2 F : Nat → Option (List V → Option V)) (C2 C : Nat → Option LFun) : Prop where
  told : ∀ f g2 as2 r2 as, F2 f = some g2 → g2 as2 = some r2 → RelL as2 noT as → ∃ r, run F C f as = some r ∧ RelR r2 r ∧ ∀ l2, itemsOf (some r2) = some l2 → ∃ l, itemsOf (some r) = some l ∧ RelE l2 l
  code : ∀ f lf, F2 f = none → C2 f = some lf → F f = none ∧ C f = some (unF lf) ∧ okC lf.body = true ∧ lf.sl = []
theorem evF2_sim {F2 F : Nat → Option (List V → Option V)} {C2 C : Nat → Option LFun} (h : TabR F2 F C2 C) : ∀ n, CallSim (evF2 F2 C2 n) (run F C)
  | 0, f, as2, r2, as, hr, _ => by simp [evF2] at hr
  | n + 1, f, as2, r2, as, hr, ha => by
    rw [evF2] at hr
    split at hr
    · rename_i g2 hg
      exact h.told f g2 as2 r2 as hg hr ha
    · rename_i hg
      split at hr
      · rename_i lf hlf
        obtain ⟨k0, k1, k2, k3⟩ := h.code f lf hg hlf
        obtain ⟨r, g1, g2⟩ := body_sim (evF2_sim h n) n k2 k3 ha hr
        exact ⟨r, run_of_body k0 k1 g1, g2⟩
      · cases hr
theorem run2_sim {F2 F : Nat → Option (List V → Option V)} {C2 C : Nat → Option LFun} (h : TabR F2 F C2 C) {f : Nat} {as2 as : List V} {r2 : V} (hr : run2 F2 C2 f as2 = some r2) (ha : RelL as2 noT as) : ∃ r, run F C f as = some r ∧ RelR r2 r := by
  obtain ⟨n, hn⟩ := of_run2 hr
  obtain ⟨r, g1, g2, _⟩ := evF2_sim h n f as2 r2 as hn ha
  exact ⟨r, g1, g2⟩
/-- A law that is true for the plain machine. -/
theorem run2_true {F2 F : Nat → Option (List V → Option V)} {C2 C : Nat → Option LFun} (h : TabR F2 F C2 C) {f : Nat} {as2 as : List V} (hr : run2 F2 C2 f as2 = some (.bool true)) (ha : RelL as2 noT as) : run F C f as = some (.bool true) := by
  obtain ⟨r, g1, g2⟩ := run2_sim h hr ha
  obtain ⟨ρ, hρ⟩ := g2.ex
  simp only [Rel] at hρ
  rw [g1, hρ]
end
end Go.Lo
