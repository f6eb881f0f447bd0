/- Calls; and all operations together. -/
import Derived.Test.YtifanigkolnedaaLv
namespace Go.Lo
open Go.RowKit (Below)
section
variable {P : Program} {X : Sc} {w0 w w1 : World} {Ω : Own} {a : Act} {σ : St} {o : Oper} {mk : Bool}

theorem goes_below {tm : Array Value} (h : Inv X w0 Ω w tm σ) (hb : Below w.heap.size w w1) : Goes X w0 Ω Ω w w1 where
  ext := ⟨fun _ h => h, fun _ h => .inr h, fun _ _ p h => ⟨p, h⟩, fun _ _ h => h, fun _ _ => Nat.le_refl _, fun b off hne _ => hb.cell (p := ⟨b, off, none⟩) (h.bnd b hne), fun _ _ _ _ => rfl, fun _ _ _ c k n _ h => ⟨c, k, n, h, .inl ⟨rfl, rfl, rfl⟩⟩, rfl⟩
  kept := h.kept.trans ⟨hb.os, hb.tape, hb.output, hb.size, fun b hlt _ => hb.block b hlt⟩
  ownB := h.ownB
  ownA := h.ownA
  bnd b hne := Nat.lt_of_lt_of_le (h.bnd b hne) hb.size
  uniq := h.uniq
  limB := h.limB
  old := h.old
  stp := ⟨hb.os, hb.tape, hb.output, hb.size, fun b hlt _ => hb.block b hlt, fun _ _ _ => ⟨rfl, rfl⟩⟩
  boxes b s T xs hs hh := by rw [hb.block b (h.bnd b (by simp [hs]))]; exact hh
theorem inv_below {tm : Array Value} (h : Inv X w0 Ω w tm σ) (hb : Below w.heap.size w w1) : Inv X w0 Ω w1 tm σ :=
  h.goes (goes_below h hb) (fun t n wr ht => by
    obtain ⟨c, k, T, xs, g1, ⟨p, g2⟩, g3, g⟩ := h.tok t n wr ht
    exact ⟨c, k, T, xs, g1, ⟨p, g2⟩, by rw [hb.block c (h.bnd c (by simp [g2]))]; exact g3, g⟩)
theorem sound_callE (hdst : ∀ d, o.dst = some d → d < a.tmps.size) (h : Inv X w0 Ω w a.tmps σ) {call : Nat → List V → Option V} {dr al : Bool} {e : Eff} {ex : List Nat} (hcall : CallsOk P call) (hmd : mk = true → ∃ d, o.dst = some d ∧ Fresh Ω d) (hnd : ∀ c, o.op ≠ .defer c) {g : Nat} {vs : List V} {ys : List Value}
    (hsem : callE call (bxOf σ.fr ex) (o.dst.getD 0) dr al mk g vs = some e) (hd : DenL Ω w vs ys) (hrun : Enters P g → (execOp a.eval o).run P w = .ok (.enter g ys.toArray) w) : Sound P X w0 Ω w a σ o mk e := by
  unfold callE at hsem
  split at hsem
  · rename_i as has
    split at hsem
    · rename_i r hr
      split at hsem
      · rename_i hpr
        obtain ⟨hent, hok⟩ := hcall g as r hr
        have hrun := hrun hent
        obtain ⟨k1, k2⟩ := DenL.frz (rdOk h ex 4) _ _ _ has hd
        have hC := hok.1 k2 (cOwn Ω w) w _ (base_cOwn h) k1
        intro ro n K Q hK
        have hC' : Calls P g ys.toArray w fun e w1 => ∃ x, e = .returned x ∧ ∃ Ω1, Below w.heap.size w w1 ∧ Den Ω1 w1 r x ∧ ResOk (cOwn Ω w) Ω1 w w1 r := fun cs' =>
          let ⟨e, w', fr, ⟨x, Ω1, q1, q2⟩, s, y⟩ := hC cs'
          ⟨e, w', fr, ⟨x, q1, Ω1, q2⟩, s, y⟩
        refine wp_enter hnd hrun hC' fun x w1 ⟨Ω1, hb, hden, hres⟩ => ?_
        split at hsem
        · rename_i hmk
          obtain ⟨d, hd, hfr⟩ := hmd hmk
          split at hsem
          · rename_i hdis
            have h100 : ∀ k n, (k, n) ∈ r.tks → k < 100 := fun k n hkn => by
              have := List.all_eq_true.1 hdis.2 (k, n) hkn
              simpa using this
            have fin : ∀ al' : Bool, (al' = true ∨ r.al = false) → e = .res (r.rn d) al' → K (a.put o.dst x) w1 := by
              rintro al' hal rfl
              obtain ⟨i1, i2⟩ := h.res hfr.2 (al := al') hb hres hden hpr hal h100
              refine hK x w1 _ (i1.putO hdst i2 a rfl) (fun d' hf' hne => fresh_res hf' (fun e => hne hmk (e ▸ hd)))
            rw [hd] at hsem
            simp only [Option.getD_some] at hsem
            split at hsem
            · split at hsem
              · cases hsem
              · simp only [Option.some.injEq] at hsem
                exact fin true (.inl rfl) hsem.symm
            · rename_i hal
              simp only [Option.some.injEq] at hsem
              refine fin false (.inr ?_) hsem.symm
              cases hra : r.al
              · rfl
              · exact absurd (.inr hra) hal
          · cases hsem
        · split at hsem
          · rename_i hbare
            simp only [Option.some.injEq] at hsem; subst hsem
            exact hK x w1 Ω ((inv_below h hb).putO hdst (Den.bare r x hpr (by simpa using hbare.1) hbare.2 hden) a rfl) (fun _ hf _ => hf)
          · cases hsem
      · cases hsem
    · cases hsem
  · cases hsem
section ops
variable {call : Nat → List V → Option V} {dr al : Bool} {root : Option Nat} {k : K} {xs : List Operand} {vs : List V} {e : Eff} {ex : List Nat}
  (h : Inv X w0 Ω w a.tmps σ) (hdst : ∀ d, o.dst = some d → d < a.tmps.size) (hv : DenL Ω w vs (xs.map a.eval))
  (hsem : sem call (bxOf σ.fr ex) (tkOf σ.tk ex) (o.dst.getD 0) k vs = some e)
include h hdst hv hsem

theorem sound_value {T : List (List V)} (hY : YieldOk P X w0 T) (hT : UpTo T (apply σ o.dst e)) (hcall : CallsOk P call) (hmd : mk = true → ∃ d, o.dst = some d ∧ Fresh Ω d) {c : Call} {f : Operand} (ho : o.op = .call c) (hc : c.callee = .value f) (hk : k = .call dr al mk) (hxs : xs = f :: c.args.toList) : Sound P X w0 Ω w a σ o mk e := by
  subst hk; subst hxs
  rw [List.map_cons] at hv
  obtain ⟨v, us, rfl, h1, h2⟩ := hv.invS
  have hnd : ∀ c, o.op ≠ .defer c := by simp [ho]
  cases v <;> (try (simp only [sem, reduceCtorEq] at hsem; done))
  rename_i g caps
  cases g with
  | y b =>
    cases caps with
    | cons _ _ => simp only [sem, reduceCtorEq] at hsem
    | nil =>
      simp only [sem] at hsem
      split at hsem
      · cases hsem
      · split at hsem
        · rename_i as ps hfr
          split at hsem
          · rename_i hc'
            simp only [Option.some.injEq] at hsem; subst hsem
            simp only [Den, Fk.Is, DenL] at h1
            obtain ⟨_, ⟨l, hyl, hf⟩, rfl⟩ := h1
            have h' := h.prot ps
            obtain ⟨g1, _⟩ := DenL.frzE (ps := ps) _ _ _ _ hfr (fun t ht => memN_self ht) h2
            have hout := h'.out
            simp only at hout
            cases htr : σ.tr with
            | none =>
              rw [htr] at hout
              have : Ω.yl = none := hY.none (Ω.prot ps) w hout
              rw [hyl] at this
              cases this
            | some tr =>
              rw [htr] at hout
              intro ro n K Q hK
              have hpre := hT (tr ++ [as]) (by simp [apply, htr])
              have hyl' : (Ω.prot ps).yl = some (l, b) := hyl
              obtain ⟨fn, tmps, asg, body, r1, _⟩ := hY.some ro n b l tr as _ _ w hout hyl' g1 hc'.2 hpre
              have hrun := run_yieldCall (P := P) (w := w) ho hc hf
              rw [show c.args.map a.eval = (c.args.toList.map a.eval).toArray by apply Array.ext'; simp, r1] at hrun
              refine wp_round hnd hrun (R := fun x w1 => x = .bool (goesOn b (some tr)) ∧ Inv X w0 (Ω.prot ps) w1 a.tmps { σ with tk := protT ps σ.tk, tr := some (tr ++ [as]) }) (fun n => ?_) fun x w1 hx => ?_
              · obtain ⟨fn', tmps', asg', body', r1', r2⟩ := hY.some ro n b l tr as _ _ w hout hyl' g1 hc'.2 hpre
                rw [r1] at r1'
                injection r1' with r1'
                injection r1' with _ e1 e2 e3 e4
                subst e1; subst e2; subst e3; subst e4
                refine RoundIn.mono r2 fun e w1 he => ?_
                obtain ⟨rfl, j1, j2, j3, j4, j5⟩ := he
                exact ⟨_, rfl, rfl, h'.other j2 j3 j4 j5 j1⟩
              · obtain ⟨rfl, hi⟩ := hx
                refine hK _ w1 (Ω.prot ps) ?_ fun d hfd _ => ⟨fun b hb => hfd.1 b (prot_box hb), fun b t p e hb => ?_⟩
                · have := hi.putO (dst := o.dst) (v := .bool (goesOn b (some tr))) (x := .bool (goesOn b (some tr))) hdst (by simp [Den]) a rfl
                  simpa only [apply, htr, Option.map_some] using this
                · obtain ⟨q, hq, _⟩ := prot_arr hb
                  exact hfd.2 b t q e hq
          · cases hsem
        · cases hsem
  | f g =>
    simp only [sem] at hsem
    simp only [Den, Fk.Is] at h1
    obtain ⟨cs, hf, hcs⟩ := h1
    refine sound_callE hdst h hcall hmd hnd hsem (h2.append hcs) fun hent => ?_
    rw [run_valueCall (w := w) ho hc hent hf]
    congr 2
    apply Array.ext'; simp
  | m g =>
    simp only [sem] at hsem
    simp only [Den, Fk.Is] at h1
    obtain ⟨cs, hf, hcs⟩ := h1
    refine sound_callE hdst h hcall hmd hnd hsem (hcs.append h2) fun hent => ?_
    rw [run_valueCall (w := w) ho hc hent hf]
    congr 2
    apply Array.ext'; simp
end ops

theorem callee_value {c : Call} {f : Operand} {dr al mk : Bool} (hc : c.callee = .value f) : callC P c dr al mk = some (.call dr al mk, f :: c.args.toList) := by
  unfold callC; rw [hc]
/-- Every operation. -/
theorem op_sound {call : Nat → List V → Option V} {T : List (List V)} (hY : YieldOk P X w0 T) (hcall : CallsOk P call) {dr al : Bool} {root : Option Nat} {k : K} {xs : List Operand} {ys : List Opd} {vs : List V} {e : Eff} {ex : List Nat}
    (h : Inv X w0 Ω w a.tmps σ) (hdst : ∀ d, o.dst = some d → d < a.tmps.size) (hop : opC P o.op dr al (makes P o) root = some (k, xs)) (hys : opdsC xs = some ys) (hvs : opds σ.fr ys = some vs)
    (hsem : sem call (bxOf σ.fr ex) (tkOf σ.tk ex) (o.dst.getD 0) k vs = some e) (hmk : makes P o = true → ∃ d, o.dst = some d) (hnd : needs P dr o = true → ∀ d, o.dst = some d → Fresh Ω d) (hT : UpTo T (apply σ o.dst e)) : Sound P X w0 Ω w a σ o (makes P o) e := by
  have hmd : isAppend o = false → makes P o = true → ∃ d, o.dst = some d ∧ Fresh Ω d := fun ha hm => by
    obtain ⟨d, hd⟩ := hmk hm
    exact ⟨d, hd, hnd (by simp [needs, hm, ha]) d hd⟩
  have hv := opds_sound h hys hvs
  cases ho : o.op <;> (try (simp only [ho, opC, reduceCtorEq] at hop; done))
  case move => exact sound_move h hdst hop hv hsem ho
  case assign => exact sound_assign h hdst hop hv hsem ho
  case pick => exact sound_pick h hdst hop hv hsem ho
  case alloc =>
    have hm : makes P o = true := by simp [makes, ho]
    rw [hm] at hop ⊢
    exact sound_alloc h hdst hv hsem hop (hmd (by simp [isAppend, ho]) hm) ho
  case box =>
    have hm : makes P o = true := by simp [makes, ho]
    rw [hm] at hop ⊢
    exact sound_box h hdst hv hsem hop (hmd (by simp [isAppend, ho]) hm) ho
  case build => exact sound_build h hdst hop hv hsem ho
  case buildSlice =>
    have hm : makes P o = true := by simp [makes, ho]
    rw [hm] at hop ⊢
    exact sound_buildSlice h hdst hv hsem hop (hmd (by simp [isAppend, ho]) hm) ho
  case load => exact sound_load h hdst hop hv hsem ho
  case store => exact sound_store h hdst hv hsem hop ho
  case nilCheck => exact sound_nilc h hdst hop hv hsem ho
  case binOp => exact sound_bin h hdst hop hv hsem ho
  case unOp => exact sound_un h hdst hop hv hsem ho
  case convert => exact sound_conv h hdst hop hv hsem ho
  case makeFunc => exact sound_mkf h hdst hop hv hsem ho
  case makeSlice =>
    have hm : makes P o = true := by simp [makes, ho]
    rw [hm] at hop ⊢
    exact sound_makeSlice h hdst hv hsem hop (hmd (by simp [isAppend, ho]) hm) ho
  case slice => exact sound_slice h hdst hop hv hsem ho
  case fieldAddr => exact sound_fa h hdst hop hv hsem ho
  case field => exact sound_field h hdst hop hv hsem ho
  case indexAddr => exact sound_ia h hdst hop hv hsem ho
  case index => exact sound_index h hdst hop hv hsem ho
  case extract => exact sound_ext h hdst hop hv hsem ho
  case call c =>
    simp only [ho, opC] at hop
    cases hc : c.callee with
    | value f =>
      rw [callee_value hc] at hop
      simp only [Option.some.injEq, Prod.mk.injEq] at hop
      exact sound_value h hdst hv hsem hY hT hcall (hmd (by
        obtain ⟨callee, args, argTypes⟩ := c
        simp only at hc
        subst hc
        simp [isAppend, ho])) ho hc hop.1.symm hop.2.symm
    | invoke r m => simp [callC, hc] at hop
    | builtin b =>
      simp only [callC, hc] at hop
      split at hop
      · rename_i x t hx ht
        cases hel : elemC P t with
        | none => simp [hel] at hop
        | some el =>
          simp only [hel, Option.map_some, Option.some.injEq, Prod.mk.injEq] at hop
          obtain ⟨rfl, rfl⟩ := hop
          obtain ⟨v, rfl, h1⟩ := hv.inv1
          cases v <;> simp only [sem, Option.some.injEq, reduceCtorEq] at hsem
          · subst hsem
            simp only [Den] at h1
            exact sound_val h hdst (by simp [ho]) ⟨_, run_lenOp ho hc hx ht hel h1, by simp [Den]⟩
          · subst hsem
            obtain ⟨p, q, h2⟩ := sl_len h1
            exact sound_val h hdst (by simp [ho]) ⟨_, run_lenOp ho hc hx ht hel h2, by simp [Den]⟩
      · rename_i x t hx ht
        cases hel : elemC P t with
        | none => simp [hel] at hop
        | some el =>
          simp only [hel, Option.map_some, Option.some.injEq, Prod.mk.injEq] at hop
          obtain ⟨rfl, rfl⟩ := hop
          obtain ⟨v, rfl, h1⟩ := hv.inv1
          cases v <;> simp only [sem, Option.some.injEq, reduceCtorEq] at hsem
          subst hsem
          simp only [Den] at h1
          exact sound_val h hdst (by simp [ho]) ⟨_, run_capOp ho hc hx ht hel h1, by simp [Den]⟩
      · rename_i x y t u hx ht
        split at hop
        · rename_i el el' he he'
          split at hop
          · rename_i n b z hs hb hz
            split at hop
            · rename_i hn
              simp only [Option.some.injEq, Prod.mk.injEq] at hop
              have hm : makes P o = true := by
                obtain ⟨callee, args, argTypes⟩ := c
                simp only at hc
                subst hc
                simp [makes, ho]
              rw [hm]
              exact sound_append h hdst hv hsem ⟨⟨c, u, el', ho, hc, hx, ht, he'⟩, he, hs, hb, hz, hn⟩ hop.1.symm hop.2.symm (by
                obtain ⟨d, hd⟩ := hmk hm
                exact ⟨d, hd, fun hdr => hnd (by simp [needs, hm, hdr]) d hd⟩)
            · cases hop
          · cases hop
        · rename_i el he he'
          split at hop
          · rename_i q n b z hu hs hb hz
            split at hop
            · rename_i hn
              simp only [Option.some.injEq, Prod.mk.injEq] at hop
              have hm : makes P o = true := by
                obtain ⟨callee, args, argTypes⟩ := c
                simp only at hc
                subst hc
                simp [makes, ho]
              rw [hm]
              exact sound_appz h hdst hv hsem ⟨⟨c, u, q, ho, hc, hx, ht, hu⟩, he, hs, hb, hz, hn.1, hn.2.1⟩ hop.1.symm hop.2.symm (hmk hm)
            · cases hop
          · cases hop
        · cases hop
      · simp only [Option.some.injEq, Prod.mk.injEq] at hop
        obtain ⟨rfl, rfl⟩ := hop
        simp only [sem] at hsem
        split at hsem
        · rename_i q m ms hi
          simp only [Option.some.injEq] at hsem; subst hsem
          exact sound_val h hdst (by simp [ho]) ⟨_, run_maxOp ho hc (intsOf_den hi hv), by simp [Den]⟩
        · cases hsem
      · simp only [Option.some.injEq, Prod.mk.injEq] at hop
        obtain ⟨rfl, rfl⟩ := hop
        simp only [sem] at hsem
        split at hsem
        · rename_i q m ms hi
          simp only [Option.some.injEq] at hsem; subst hsem
          exact sound_val h hdst (by simp [ho]) ⟨_, run_minOp ho hc (intsOf_den hi hv), by simp [Den]⟩
        · cases hsem
      · cases hop
end
end Go.Lo
