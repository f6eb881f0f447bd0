/- Control. -/
import Derived.Test.YtifanigkolnedaaMl
namespace Go.Lo
section
variable {P : Program} {call : Nat → List V → Option V}

theorem once_loop : ∀ (c : Code) {kp : Nat → List Nat} {lc : LCode}, codeC P kp true c = some lc → onceC lc = []
  | c, kp, lc, h => by
    induction c generalizing lc with
    | region id ops draw =>
      simp only [codeC] at h
      unfold regC at h
      generalize (if draw = true then Region.before ops else #[]) = b at h
      simp only at h
      split at h
      · simp only [Option.some.injEq] at h; subst h; rfl
      · cases h
    | seq a b iha ihb =>
      simp only [codeC] at h
      split at h
      · rename_i x y hx hy
        simp only [Option.some.injEq] at h; subst h
        simp [onceC, iha _ hx, ihb _ hy]
      · cases h
    | cond c a b iha ihb =>
      simp only [codeC] at h
      split at h
      · rename_i c' x y hc hx hy
        simp only [Option.some.injEq] at h; subst h
        simp [onceC, iha _ hx, ihb _ hy]
      · cases h
    | block id a iha =>
      simp only [codeC] at h
      split at h
      · rename_i x hx
        simp only [Option.some.injEq] at h; subst h
        simp [onceC, iha _ hx]
      · cases h
    | loop a iha =>
      simp only [codeC] at h
      split at h
      · simp only [Option.some.injEq] at h; subst h; rfl
      · cases h
    | rangeFunc g ps a b iha ihb =>
      simp only [codeC] at h
      split at h
      · simp only [Option.some.injEq] at h; subst h; rfl
      · cases h
    | _ => simp only [codeC, Option.some.injEq] at h; subst h; rfl
theorem least {R : Nat → Prop} (h : ∃ k, R k) : ∃ k, R k ∧ ∀ j, R j → k ≤ j := by
  obtain ⟨k, hk⟩ := h
  induction k using Nat.strongRecOn with
  | _ k ih =>
    by_cases hj : ∃ j, j < k ∧ R j
    · obtain ⟨j, hlt, hr⟩ := hj
      exact ih j hlt hr
    · refine ⟨k, hk, fun j hr => ?_⟩
      apply Decidable.byContradiction
      intro hlt
      exact hj ⟨j, by omega, hr⟩
/-- Behind nothing. -/
theorem Arr.here {X : Sc} {w0 w : World} {ro : Option Nat} {Ω : Own} {a : Act} {M : List Nat} {df : List Deferred} {σ : St} {ks ds : List Nat} (hn : M.Nodup) (hl : ∀ r ∈ M, w0.heap.size ≤ r) (hd : a.defers = marks M ++ df) (h : Inv (X.df M) w0 Ω w a.tmps σ) :
    Arr X w0 ro Ω a M df σ ks ds a w Ω M := ⟨rfl, hd, hn, hl, .inl rfl, fun _ _ => rfl, h, fun _ hf _ => hf⟩
/-- One behind the other. -/
theorem Arr.trans {X : Sc} {w0 w1 w2 : World} {ro : Option Nat} {Ω Ω1 Ω2 : Own} {a a1 a2 : Act} {M M1 M2 : List Nat} {df : List Deferred} {σ1 σ2 : St} {ks1 ds1 ks2 ds2 ks ds : List Nat} (h : Arr X w0 ro Ω a M df σ1 ks1 ds1 a1 w1 Ω1 M1) (k : Arr X w0 ro Ω1 a1 M1 df σ2 ks2 ds2 a2 w2 Ω2 M2)
    (hk : ∀ s, s ∉ ks → s ∉ ks1 ∧ s ∉ ks2) (hd : ∀ s, s ∉ ds → s ∉ ds1 ∧ s ∉ ds2) : Arr X w0 ro Ω a M df σ2 ks ds a2 w2 Ω2 M2 := by
  refine ⟨k.size.trans h.size, k.defers, k.nodup, k.low, ?_, fun s hs => (k.keep s (hk s hs).2).trans (h.keep s (hk s hs).1), k.inv, fun d hf hds => k.fresh d (h.fresh d hf (hd d hds).1) (hd d hds).2⟩
  rcases k.same with e | e
  · rw [e]; exact h.same
  · exact .inr e
theorem Arr.mono {X : Sc} {w0 w1 : World} {ro : Option Nat} {Ω Ω1 : Own} {a a1 : Act} {M M1 : List Nat} {df : List Deferred} {σ1 : St} {ks1 ds1 ks ds : List Nat} (h : Arr X w0 ro Ω a M df σ1 ks1 ds1 a1 w1 Ω1 M1)
    (hk : ∀ s, s ∉ ks → s ∉ ks1) (hd : ∀ s, s ∉ ds → s ∉ ds1) : Arr X w0 ro Ω a M df σ1 ks ds a1 w1 Ω1 M1 :=
  ⟨h.size, h.defers, h.nodup, h.low, h.same, fun s hs => h.keep s (hk s hs), h.inv, fun d hf hds => h.fresh d hf (hd d hds)⟩
theorem Arr.pl {X : Sc} {w0 w1 : World} {ro : Option Nat} {Ω Ω1 : Own} {a a1 : Act} {M M1 : List Nat} {df : List Deferred} {σ1 : St} {ks1 ds1 : List Nat} (h : Arr X w0 ro Ω a M df σ1 ks1 ds1 a1 w1 Ω1 M1) (hp : Plain X ∨ M = []) : Plain X ∨ M1 = [] := by
  rcases h.same with e | e
  · rw [e]; exact hp
  · exact .inl e.1
theorem code_sound (hcall : CallsOk P call) (hmix : P.follows .mixedOrders = true) {N : Nat} {kp : Nat → List Nat} : ∀ (c : Code) {lp : Bool} {lc : LCode}, codeC P kp lp c = some lc → CodeOk P call N c lc := by
  intro c
  induction c with
  | skip =>
    intro lp lc hc X w0 T ro n Ω w a σ σ' ex Q M df sc hpl hMn hMl hdf hev hT h hdst hfr hon hK
    simp only [codeC, Option.some.injEq] at hc; subst hc
    simp only [evC, Option.some.injEq, Prod.mk.injEq] at hev
    obtain ⟨rfl, rfl⟩ := hev
    exact wpIn_skip (hK a w Ω M (.here hMn hMl hdf h))
  | exit id =>
    intro lp lc hc X w0 T ro n Ω w a σ σ' ex Q M df sc hpl hMn hMl hdf hev hT h hdst hfr hon hK
    simp only [codeC, Option.some.injEq] at hc; subst hc
    simp only [evC, Option.some.injEq, Prod.mk.injEq] at hev
    obtain ⟨rfl, rfl⟩ := hev
    exact wpIn_exit (hK a w Ω M (.here hMn hMl hdf h))
  | ret =>
    intro lp lc hc X w0 T ro n Ω w a σ σ' ex Q M df sc hpl hMn hMl hdf hev hT h hdst hfr hon hK
    simp only [codeC, Option.some.injEq] at hc; subst hc
    simp only [evC, Option.some.injEq, Prod.mk.injEq] at hev
    obtain ⟨rfl, rfl⟩ := hev
    exact wpIn_ret (hK a w Ω M (.here hMn hMl hdf h))
  | region id ops draw =>
    intro lp lc hc X w0 T ro n Ω w a σ σ' ex Q M df sc hpl hMn hMl hdf hev hT h hdst hfr hon hK
    simp only [codeC] at hc
    refine region_sound (sc.y.df hpl) hT hcall hmix hc h hev hdst hfr (fun hex => ?_)
    subst hex
    intro a' w' Ω' hsz hdf' htm hinv hfresh
    exact hK a' w' Ω' M ⟨hsz, hdf'.trans hdf, hMn, hMl, .inl rfl, htm, hinv, hfresh⟩
  | seq x y ihx ihy =>
    intro lp lc hc X w0 T ro n Ω w a σ σ' ex Q M df sc hpl hMn hMl hdf hev hT h hdst hfr hon hK
    simp only [codeC] at hc
    split at hc
    · rename_i lx ly hx hy
      simp only [Option.some.injEq] at hc; subst hc
      obtain ⟨hon1, hon2⟩ := hon
      simp only [onceC, loopC, dstsC, List.mem_append] at hon1 hon2 hdst hfr hK
      rw [List.nodup_append] at hon1
      have honx : Once lx := ⟨hon1.1, fun d hd hl => hon2 d (.inl hd) (.inl hl)⟩
      have hony : Once ly := ⟨hon1.2.1, fun d hd hl => hon2 d (.inr hd) (.inr hl)⟩
      simp only [evC] at hev
      refine wpIn_seq ?_
      split at hev
      · rename_i σ1 h1
        refine ihx hx sc hpl hMn hMl hdf h1 ((evC_tr ly hev).upTo hT) h (fun d hd => hdst d (.inl hd)) (fun d hd => hfr d (.inl hd)) honx ?_
        intro a' w' Ω' M' A
        refine ihy hy sc (A.pl hpl) A.nodup A.low A.defers hev hT A.inv (fun d hd => by rw [A.size]; exact hdst d (.inr hd)) (fun d hd => A.fresh d (hfr d (.inr hd)) (fun hm => ?_)) hony ?_
        · rcases List.mem_append.1 hm with hm | hm
          · exact hon1.2.2 d hm d hd rfl
          · exact hon2 d (.inr hd) (.inl hm)
        · intro a'' w'' Ω'' M'' B
          refine hK a'' w'' Ω'' M'' (A.trans B (fun s hs => ?_) (fun s hs => ?_))
          · simp only [List.mem_append, not_or] at hs; exact hs
          · simp only [List.mem_append, not_or] at hs ⊢; exact ⟨⟨hs.1.1, hs.2.1⟩, ⟨hs.1.2, hs.2.2⟩⟩
      · rename_i hne
        refine ihx hx sc hpl hMn hMl hdf hev hT h (fun d hd => hdst d (.inl hd)) (fun d hd => hfr d (.inl hd)) honx ?_
        intro a' w' Ω' M' A
        have := hK a' w' Ω' M' (A.mono (fun s hs => by simp only [List.mem_append, not_or] at hs; exact hs.1) (fun s hs => by
          simp only [List.mem_append, not_or] at hs ⊢
          exact ⟨hs.1.1, hs.2.1⟩))
        cases ex with
        | normal => exact (hne _ hev).elim
        | exit id => exact this
        | ret => exact this
    · cases hc
  | cond c x y ihx ihy =>
    intro lp lc hc X w0 T ro n Ω w a σ σ' ex Q M df sc hpl hMn hMl hdf hev hT h hdst hfr hon hK
    simp only [codeC] at hc
    split at hc
    · rename_i c' lx ly hcc hx hy
      simp only [Option.some.injEq] at hc; subst hc
      obtain ⟨hon1, hon2⟩ := hon
      simp only [onceC, loopC, dstsC, List.mem_append] at hon1 hon2 hdst hfr hK
      rw [List.nodup_append] at hon1
      simp only [evC] at hev
      split at hev
      · rename_i t ht
        have hd := opd_sound h hcc ht
        simp only [Den] at hd
        refine wpIn_cond hd ?_
        cases t with
        | true =>
          simp only [if_true] at hev ⊢
          refine ihx hx sc hpl hMn hMl hdf hev hT h (fun d hd => hdst d (.inl hd)) (fun d hd => hfr d (.inl hd)) ⟨hon1.1, fun d hd hl => hon2 d (.inl hd) (.inl hl)⟩ ?_
          intro a' w' Ω' M' A
          exact hK a' w' Ω' M' (A.mono (fun s hs => by simp only [List.mem_append, not_or] at hs; exact hs.1) (fun s hs => by
            simp only [List.mem_append, not_or] at hs ⊢; exact ⟨hs.1.1, hs.2.1⟩))
        | false =>
          simp only [Bool.false_eq_true, if_false] at hev ⊢
          refine ihy hy sc hpl hMn hMl hdf hev hT h (fun d hd => hdst d (.inr hd)) (fun d hd => hfr d (.inr hd)) ⟨hon1.2.1, fun d hd hl => hon2 d (.inr hd) (.inr hl)⟩ ?_
          intro a' w' Ω' M' A
          exact hK a' w' Ω' M' (A.mono (fun s hs => by simp only [List.mem_append, not_or] at hs; exact hs.2) (fun s hs => by
            simp only [List.mem_append, not_or] at hs ⊢; exact ⟨hs.1.2, hs.2.2⟩))
      · cases hev
    · cases hc
  | block id x ih =>
    intro lp lc hc X w0 T ro n Ω w a σ σ' ex Q M df sc hpl hMn hMl hdf hev hT h hdst hfr hon hK
    simp only [codeC] at hc
    split at hc
    · rename_i lx hx
      simp only [Option.some.injEq] at hc; subst hc
      simp only [evC] at hev
      refine wpIn_block ?_
      split at hev
      · rename_i j σ1 h1
        split at hev
        · rename_i hj
          simp only [Option.some.injEq, Prod.mk.injEq] at hev
          obtain ⟨rfl, rfl⟩ := hev
          refine ih hx sc hpl hMn hMl hdf h1 hT h hdst hfr hon ?_
          intro a' w' Ω' M' A
          simp only [Ex.out, Exit.inBlock, if_pos hj]
          exact hK a' w' Ω' M' A
        · rename_i hj
          simp only [Option.some.injEq, Prod.mk.injEq] at hev
          obtain ⟨rfl, rfl⟩ := hev
          refine ih hx sc hpl hMn hMl hdf h1 hT h hdst hfr hon ?_
          intro a' w' Ω' M' A
          simp only [Ex.out, Exit.inBlock, if_neg hj]
          exact hK a' w' Ω' M' A
      · rename_i hne
        refine ih hx sc hpl hMn hMl hdf hev hT h hdst hfr hon ?_
        intro a' w' Ω' M' A
        have := hK a' w' Ω' M' A
        cases ex with
        | normal => exact this
        | exit id => exact (hne _ _ hev).elim
        | ret => exact this
    · cases hc
  | loop x ih =>
    intro lp lc hc X w0 T ro n Ω w a σ σ' ex Q M df sc hpl hMn hMl hdf hev hT h hdst hfr hon hK
    simp only [codeC] at hc
    split at hc
    · rename_i lx hx
      simp only [Option.some.injEq] at hc; subst hc
      simp only [evC] at hev
      have honce := once_loop x hx
      simp only [onceC, loopC, dstsC, List.nil_append] at hdst hK
      -- what holds before a round, with so many rounds at most
      let R : Nat → Act → World → Prop := fun k a1 w1 => ∃ Ω1 σ1 M1, Arr X w0 ro Ω a M df σ1 (dstsC lx) (loopC lx) a1 w1 Ω1 M1 ∧ iter (evC call N lx) k σ1 = some (ex, σ')
      let μ : Act → World → Nat := fun a1 w1 => open Classical in if hk : ∃ k, R k a1 w1 then Classical.choose (least hk) else 0
      have hμ : ∀ k a1 w1, R k a1 w1 → R (μ a1 w1) a1 w1 ∧ μ a1 w1 ≤ k := by
        intro k a1 w1 hk
        have hex : ∃ k, R k a1 w1 := ⟨k, hk⟩
        have hs := Classical.choose_spec (least hex)
        simp only [μ, dif_pos hex]
        exact ⟨hs.1, hs.2 k hk⟩
      refine wpIn_loop (fun a1 w1 => ∃ k, R k a1 w1) μ ⟨N, Ω, σ, M, .here hMn hMl hdf h, hev⟩ ?_
      rintro a1 w1 ⟨k, hk⟩
      obtain ⟨⟨Ω1, σ1, M1, A, hit⟩, _⟩ := hμ k a1 w1 hk
      generalize hm : μ a1 w1 = m at hit
      cases m with
      | zero => simp [iter] at hit
      | succ m =>
        simp only [iter] at hit
        split at hit
        · rename_i σ2 h2
          refine ih hx sc (A.pl hpl) A.nodup A.low A.defers h2 ((iter_tr (fun _ _ _ h => evC_tr lx h) hit).upTo hT) A.inv (fun d hd => by rw [A.size]; exact hdst d hd) (fun d hd => by rw [honce] at hd; cases hd) ⟨by rw [honce]; exact List.nodup_nil, fun d hd => by rw [honce] at hd; cases hd⟩ ?_
          intro a' w' Ω' M' B
          have hR : R m a' w' := ⟨Ω', σ2, M', A.trans B (fun s hs => ⟨hs, hs⟩) (fun s hs => ⟨hs, by rw [honce, List.nil_append]; exact hs⟩), hit⟩
          refine ⟨⟨m, hR⟩, ?_⟩
          have := (hμ m a' w' hR).2
          omega
        · rename_i hne
          refine ih hx sc (A.pl hpl) A.nodup A.low A.defers hit hT A.inv (fun d hd => by rw [A.size]; exact hdst d hd) (fun d hd => by rw [honce] at hd; cases hd) ⟨by rw [honce]; exact List.nodup_nil, fun d hd => by rw [honce] at hd; cases hd⟩ ?_
          intro a' w' Ω' M' B
          have := hK a' w' Ω' M' (A.trans B (fun s hs => ⟨hs, hs⟩) (fun s hs => ⟨hs, by rw [honce, List.nil_append]; exact hs⟩))
          cases ex with
          | normal => exact (hne _ hit).elim
          | exit id => exact this
          | ret => exact this
    · cases hc
  | rangeFunc g ps x y ihx ihy =>
    intro lp lc hc
    simp only [codeC] at hc
    split at hc
    · rename_i g' lx ly hg hx hy
      simp only [Option.some.injEq] at hc; subst hc
      exact rng_sound hcall hg (ihx hx) (ihy hy) (once_loop x hx) (once_loop y hy)
    · cases hc
  | _ =>
    intro lp lc hc X w0 T ro n Ω w a σ σ' ex Q M df sc hpl hMn hMl hdf hev hT h hdst hfr hon hK
    simp only [codeC, Option.some.injEq] at hc; subst hc
    simp only [evC] at hev
    cases hev
end
end Go.Lo
