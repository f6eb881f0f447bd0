/- Ranges over functions: a round; the statement. -/
import Derived.Test.YtifanigkolnedaaMk
open Go.RowKit (Below)
namespace Go.Lo
section
variable {P : Program} {X : Sc} {w0 w : World} {Ω : Own} {tm : Array Value} {σ : St}

/-! ### Slots -/
theorem not_mem_of_memN {s : Nat} {xs : List Nat} (h : memN s xs = false) : s ∉ xs := fun hm => by rw [memN_self hm] at h; cases h
theorem get_dropL {α : Type} {ks : List Nat} : ∀ {l : List (Nat × α)} {s : Nat} {v : α}, get (dropL ks l) s = some v → get l s = some v ∧ memN s ks = false
  | [], s, v, h => by simp [dropL, get] at h
  | (k, u) :: l, s, v, h => by
    simp only [dropL] at h
    split at h
    · rename_i hm
      obtain ⟨h1, h2⟩ := get_dropL h
      have hne : k ≠ s := fun e => by subst e; rw [hm] at h2; cases h2
      exact ⟨by simp only [get, if_neg hne]; exact h1, h2⟩
    · rename_i hm
      simp only [get] at h ⊢
      split at h
      · rename_i e; subst e; rw [if_pos rfl]; exact ⟨h, by simpa using hm⟩
      · rename_i e; rw [if_neg e]; exact get_dropL h
theorem inv_tm {tm' : Array Value} {ks : List Nat} (h : Inv X w0 Ω w tm' σ) (hs : tm'.size = tm.size) (hk : ∀ k, k ∉ ks → tm'.getD k undef = tm.getD k undef) : Inv X w0 Ω w tm { σ with fr := dropL ks σ.fr } where
  kept := h.kept
  ownB := h.ownB
  ownA := h.ownA
  bnd := h.bnd
  uniq := h.uniq
  limB := h.limB
  slot s v hv := by
    obtain ⟨h1, h2⟩ := get_dropL hv
    obtain ⟨g1, g2⟩ := h.slot s v h1
    exact ⟨hs ▸ g1, by rw [← hk s (not_mem_of_memN h2)]; exact g2⟩
  tok := h.tok
  old := h.old
  out := h.out
theorem inv_params : ∀ (ps : List Nat) (as : List V) (xs : List Value) {tm : Array Value} {σ : St}, Inv X w0 Ω w tm σ → DenL Ω w as xs → as.length = ps.length → (∀ p ∈ ps, p < tm.size) →
    Inv X w0 Ω w ((ps.zip xs).foldl (fun tm (p : Nat × Value) => tm.setIfInBounds p.1 p.2) tm) { σ with fr := putA ps as σ.fr } ∧ ((ps.zip xs).foldl (fun tm (p : Nat × Value) => tm.setIfInBounds p.1 p.2) tm).size = tm.size ∧
      ∀ k, k ∉ ps → ((ps.zip xs).foldl (fun tm (p : Nat × Value) => tm.setIfInBounds p.1 p.2) tm).getD k undef = tm.getD k undef
  | [], as, xs, tm, σ, h, hd, hl, hp => by
    cases as with
    | nil => exact ⟨h, rfl, fun _ _ => rfl⟩
    | cons _ _ => simp at hl
  | p :: ps, as, xs, tm, σ, h, hd, hl, hp => by
    cases as with
    | nil => simp at hl
    | cons v as =>
      simp only [DenL] at hd
      obtain ⟨x, ys, rfl, h2, h3⟩ := hd
      simp only [List.length_cons, Nat.add_right_cancel_iff] at hl
      have h1 := h.put (hp p (by simp)) (DenS.of h2)
      obtain ⟨g1, g2, g3⟩ := inv_params ps as ys h1 h3 hl (fun q hq => by rw [Array.size_setIfInBounds]; exact hp q (by simp [hq]))
      simp only [List.zip_cons_cons, List.foldl_cons, putA]
      refine ⟨g1, g2.trans (Array.size_setIfInBounds ..), fun k hk => ?_⟩
      simp only [List.mem_cons, not_or] at hk
      rw [g3 k hk.2]
      exact getD_set_other (fun e => hk.1 e.symm)
theorem Inv.rcd {l : Nat} {o : Obj} (h : Inv X w0 Ω w tm σ) (hl : Ω.o l = .out) (hs : w0.heap.size ≤ l) (hj : X.j σ.tr Ω (w.putObj l o)) : Inv X w0 Ω (w.putObj l o) tm σ :=
  h.other (tr' := σ.tr) ⟨h.kept.os, h.kept.tape, h.kept.output, by rw [World.putObj_size]; exact h.kept.size, fun b hb hX => by
      rw [World.putObj_heap_other (by omega)]; exact h.kept.block b hb hX⟩ (by simp)
    (fun b hm => World.putObj_heap_other fun e => by subst e; exact (mine_ne hm).1 hl) (fun b off hf _ => putObj_cell fun e => by subst e; exact Own.frozp_ne hf hl) hj
/-- A plain scope does not mind the record. -/
theorem Plain.rcd {Xc : Sc} {we ws w' : World} {Ω1 Ω' : Own} {l : Nat} {o : Obj} (S : JS Xc w0 Ω1 we ws l) {σ' : St} {tm' : Array Value} (h : Inv Xc w0 Ω' w' tm' σ') (hl : Ω'.o l = .out) : Inv Xc w0 Ω' (w'.putObj l o) tm' σ' := by
  have htr := S.plain.1 _ _ _ h.out
  refine h.rcd hl S.sz ?_
  have hj := h.out
  rw [htr] at hj ⊢
  exact S.plain.2 none Ω1 we Ω' Ω' w' _ S.hj hj ⟨rfl, rfl, rfl, by simp, fun b hb => World.putObj_heap_other (by rw [S.hl] at hb; omega), fun _ _ => ⟨rfl, rfl⟩, fun _ h => h, fun b hb => by simpa using h.bnd b hb, rfl⟩

mutual
theorem Den.itmC {Ω' : Own} {w' : World} (h : ExtM Ω Ω' w w') : ∀ (vs : List V) (xs : List Value), (vs.all V.pm) = true → DenL Ω w vs xs → DenL Ω' w' vs xs
  | [], _, _, hd => by simpa [DenL] using hd
  | v :: vs, xs, hp, hd => by
    simp only [List.all_cons, Bool.and_eq_true] at hp
    simp only [DenL] at hd
    obtain ⟨x, ys, rfl, h2, h3⟩ := hd
    exact DenL.cons (Den.extM h v x hp.1 h2) (Den.itmC h vs ys hp.2 h3)
end
theorem Den.itm {Ω' : Own} {w' : World} (h : ExtM Ω Ω' w w') {v : V} {x : Value} (hp : (v.cells.all V.pm) = true) (hd : Den Ω w v x) : Den Ω' w' v x := by
  have one : v.cells = [v] → Den Ω' w' v x := fun e => Den.extM h v x (by rw [e] at hp; simpa using hp) hd
  cases v <;> first
    | exact one rfl
    | (simp only [Den, V.cells] at hd hp ⊢
       obtain ⟨xs, h1, h2⟩ := hd
       exact ⟨xs, h1, Den.itmC h _ _ hp h2⟩)
theorem DenL.itm {Ω' : Own} {w' : World} (h : ExtM Ω Ω' w w') : ∀ {vs : List V} {xs : List Value}, (vs.all fun v => v.cells.all V.pm) = true → DenL Ω w vs xs → DenL Ω' w' vs xs
  | [], _, _, hd => by simpa [DenL] using hd
  | v :: vs, xs, hp, hd => by
    simp only [List.all_cons, Bool.and_eq_true] at hp
    simp only [DenL] at hd
    obtain ⟨x, ys, rfl, h2, h3⟩ := hd
    exact DenL.cons (Den.itm h hp.1 h2) (DenL.itm h (by simpa using hp.2) h3)
end

/-! ### A round -/
def stOf (k : Nat) : Ex → Option (Nat × Ex)
  | .normal => none
  | e => some (k, e)
theorem jump_stOf (k : Nat) (e : Ex) : jumpOf (stOf k e) = jumpOf (some (0, e)) := by cases e <;> rfl
section
variable {P : Program} {call : Nat → List V → Option V} {N : Nat} {Xc : Sc} {w0 we ws w : World} {Ω1 Ωi Ωo : Own} {tm : Array Value} {σ1 σo : St} {l b : Nat} {r0 : Loop} {t : List (List V)}
theorem round_ok {asg body : Code} {lx ly : LCode} {ps wr : List Nat} {T : List (List V)} {ro0 : Option Nat} (hx : CodeOk P call N asg lx) (hy : CodeOk P call N body ly) (ox : onceC lx = []) (oy : onceC ly = []) (sc : ScOk P Xc w0 T ro0)
    (hwr : wr = ps ++ (dstsC lx ++ dstsC ly)) (hsz : ∀ d ∈ wr, d < tm.size) (S : JS Xc w0 Ω1 we ws l) (hr0 : r0.tmps = tm ∧ r0.params.toList = ps ∧ r0.assign = asg ∧ r0.body = body)
    (h : JAt Xc w0 Ω1 ws tm (roundE (evC call N lx) (evC call N ly) ps wr) σ1 l b r0 (loopC lx ++ loopC ly) t Ωi w Ωo σo none) {as : List V} {xs : List Value} (hd : DenL Ωi w as xs) (hp : (as.all fun v => v.cells.all V.pm) = true)
    {e2 : Ex} {σ2 : St} (hF : roundE (evC call N lx) (evC call N ly) ps wr σo as = some (e2, σ2)) :
    ∃ fn tmps asg' body', (Instr.yield l xs.toArray).run P w = .ok (.round l fn tmps asg' body') w ∧ ∀ ro n, RoundIn (wideR ro) n P l fn tmps asg' body' w fun e w4 => e = .returned (.bool (jumpOf (some (0, e2))).isNone) ∧
      (∃ Ωo', JAt Xc w0 Ω1 ws tm (roundE (evC call N lx) (evC call N ly) ps wr) σ1 l b r0 (loopC lx ++ loopC ly) (t ++ [as]) Ωi w4 Ωo' σ2 (stOf t.length e2)) ∧ w.heap.size ≤ w4.heap.size ∧
      (∀ k, Ωi.mine k → w4.heap[k]? = w.heap[k]?) ∧ ∀ k off, Ωi.frozp k → off < Ωi.lim k → w4.cell? ⟨k, off, none⟩ = w.cell? ⟨k, off, none⟩ := by
  have hF0 := hF
  unfold roundE at hF
  split at hF
  case isFalse => cases hF
  rename_i hlen
  split at hF
  case h_2 => cases hF
  rename_i σa hA
  split at hF
  case h_2 => cases hF
  rename_i e2' σb hB
  simp only [Option.some.injEq, Prod.mk.injEq] at hF
  obtain ⟨rfl, rfl⟩ := hF
  obtain ⟨q1, q2, q3, q4⟩ := hr0
  have hxl : xs.length = ps.length := by rw [hd.length, hlen]
  have hrun := run_yield (P := P) (args := xs.toArray) h.rcd (by
    show xs.toArray.size = r0.params.size
    rw [List.size_toArray, hxl, ← q2, Array.length_toList])
  refine ⟨_, _, _, _, hrun, fun ro n => ?_⟩
  have htm : (r0.params.zip xs.toArray).foldl (fun tmps (p : Nat × Value) => tmps.setIfInBounds p.1 p.2) r0.tmps = (ps.zip xs).foldl (fun tm (p : Nat × Value) => tm.setIfInBounds p.1 p.2) tm := by
    rw [← Array.foldl_toList, Array.toList_zip, q1, q2]
  simp only at htm ⊢
  -- the state at the start of the round
  have hlt0 : l < ws.heap.size := by rw [S.hws]; exact Nat.lt_succ_self l
  have hlw : l < w.heap.size := Nat.lt_of_lt_of_le hlt0 h.kept.size
  have hmg := h.merge S
  have hlo : (Ωo.mg Ωi ws.heap.size).o l = .out := by rw [(mg_lt hlt0).1]; exact h.d1
  have htr := h.trn S
  have hdm : DenL (Ωo.mg Ωi ws.heap.size) w as xs := by
    refine DenL.itm ⟨fun k hf => ?_, fun k hf => ?_, fun _ _ _ _ => rfl⟩ hp hd
    · by_cases hk : ws.heap.size ≤ k
      · exact .inl (mg_frz hk hf).1
      · have hk := Nat.lt_of_not_le hk
        rw [froz_same (mg_lt hk).1]
        refine (h.a2 k ?_).1
        rcases itOwn_or Ω1 l b k with e | ⟨_, e⟩
        · exact absurd ((h.a1 k hk).1.trans e) (Own.froz_ne hf)
        · exact e
    · by_cases hk : ws.heap.size ≤ k
      · rw [(mg_frz hk hf).2]; exact Nat.le_refl _
      · have hk := Nat.lt_of_not_le hk
        rw [(mg_lt hk).2, (h.a1 k hk).2]
        refine (h.a2 k ?_).2
        rcases itOwn_or Ω1 l b k with e | ⟨_, e⟩
        · exact absurd ((h.a1 k hk).1.trans e) (Own.froz_ne hf)
        · exact e
  have hps : ∀ p ∈ ps, p < tm.size := fun p hm => hsz p (by rw [hwr]; simp [hm])
  obtain ⟨i1, i2, i3⟩ := inv_params ps as xs (inv_tm (ks := wr) hmg.rb rfl (fun _ _ => rfl)) hdm hlen hps
  rw [← htm] at i1 i2 i3
  refine roundIn_of_wpIn (F := wideR ro) trivial ?_
  show Code.wpIn (wideR (some l)) n P r0.assign _ _ w
  rw [q3, q4]
  have sc1 := sc.round S.plain hlo h.rcd (Ω := Ωo.mg Ωi ws.heap.size) (w := w)
  have hi0 : Inv ((Xc.rb (Ωo.mg Ωi ws.heap.size) w).df []) w (Ωo.mg Ωi ws.heap.size) w _ _ := i1.sc rfl rfl rfl (fun hj => ⟨hj, fun r hr => by cases hr⟩)
  have trA : σa.tr = none := (evC_tr lx hA).none (by simpa using htr)
  have trB : σb.tr = none := (evC_tr ly hB).none trA
  refine hx sc1 (.inl (S.plain.rb _ _)) (M := []) (df := []) List.nodup_nil (fun r hr => by cases hr) rfl hA (fun l hl => by rw [trA] at hl; cases hl) hi0 (fun d hd => by
    show d < Array.size _
    rw [i2]; exact hsz d (by rw [hwr]; simp [hd])) (by rw [ox]; intro d hd; cases hd) ⟨by rw [ox]; exact List.nodup_nil, by rw [ox]; intro d hd; cases hd⟩ ?_
  intro a1 w1 Ωa M1 A1
  have hM1 : M1 = [] := by
    rcases A1.same with e | ⟨_, e⟩
    · exact e
    · cases e
  subst hM1
  have inv1 : Inv (Xc.rb (Ωo.mg Ωi ws.heap.size) w) w Ωa w1 a1.tmps σa := A1.inv.sc rfl rfl rfl (fun hj => hj.1)
  have st1 : Stp (Ωo.mg Ωi ws.heap.size) Ωa w w1 := inv1.out.2
  have nml : ¬ (Ωo.mg Ωi ws.heap.size).mine l := fun hm => (mine_ne hm).1 hlo
  have rec1 : w1.heap[l]? = w.heap[l]? := st1.s.block l hlw nml
  have hla : Ωa.o l = .out := by rw [(st1.s.same l hlw nml).1]; exact hlo
  have invA : Inv Xc w0 Ωa w1 a1.tmps σa := hmg.unrb inv1
  rw [h.rcd] at rec1
  refine ⟨_, run_beginRound rec1 rfl, ?_⟩
  have hlw1 : l < w1.heap.size := (Array.getElem?_eq_some_iff.1 rec1).1
  have invA' := Plain.rcd (o := .loop { r0 with state := .busy, pending := jumpOf none }) S invA hla
  have rec2 := World.putObj_heap_same (w := w1) (o := .loop { r0 with state := .busy, pending := jumpOf none }) hlw1
  have sc2 := sc.round S.plain hla rec2 (Ω := Ωa)
  have hi2 := invA'.rb.sc (X' := (Xc.rb Ωa (w1.putObj l (.loop { r0 with state := .busy, pending := jumpOf none }))).df []) rfl rfl rfl (fun hj => ⟨hj, fun r hr => by cases hr⟩)
  refine hy sc2 (.inl (S.plain.rb _ _)) (M := []) (df := []) List.nodup_nil (fun r hr => by cases hr) A1.defers hB (fun l hl => by rw [trB] at hl; cases hl) hi2 (fun d hd => by
    rw [A1.size]
    show d < Array.size _
    rw [i2]; exact hsz d (by rw [hwr]; simp [hd])) (by rw [oy]; intro d hd; cases hd) ⟨by rw [oy]; exact List.nodup_nil, by rw [oy]; intro d hd; cases hd⟩ ?_
  intro a2 w3 Ωb M2 A2
  have hM2 : M2 = [] := by
    rcases A2.same with e | ⟨_, e⟩
    · exact e
    · cases e
  subst hM2
  have inv2 := A2.inv.sc (X' := Xc.rb Ωa (w1.putObj l (.loop { r0 with state := .busy, pending := jumpOf none }))) rfl rfl rfl (fun hj => hj.1)
  have st2 := inv2.out.2
  have nml2 : ¬ Ωa.mine l := fun hm => (mine_ne hm).1 hla
  have hlw2 : l < (w1.putObj l (.loop { r0 with state := .busy, pending := jumpOf none })).heap.size := by simpa using hlw1
  have rec3 := st2.s.block l hlw2 nml2
  rw [rec2] at rec3
  have hlb : Ωb.o l = .out := by rw [(st2.s.same l hlw2 nml2).1]; exact hla
  have invB : Inv Xc w0 Ωb w3 a2.tmps σb := invA'.unrb inv2
  -- what is kept of the slots
  have hsize : a2.tmps.size = tm.size := A2.size.trans (A1.size.trans i2)
  have hkeep : ∀ k, k ∉ wr → a2.tmps.getD k undef = tm.getD k undef := fun k hk => by
    rw [hwr] at hk
    simp only [List.mem_append, not_or] at hk
    rw [A2.keep k hk.2.2, A1.keep k hk.2.1]
    exact i3 k hk.1
  have invT := inv_tm (ks := wr) invB hsize hkeep
  -- the end of the round
  have fin : ∀ (j : Option Code), j = jumpOf (some (0, e2')) → ∃ v w', (Instr.endRound l j).run P w3 = .ok v w' ∧ (Ending.returned v = .returned (.bool (jumpOf (some (0, e2'))).isNone) ∧
      (∃ Ωo', JAt Xc w0 Ω1 ws tm (roundE (evC call N lx) (evC call N ly) ps wr) σ1 l b r0 (loopC lx ++ loopC ly) (t ++ [as]) Ωi w' Ωo' { σb with fr := dropL wr σb.fr } (stOf t.length e2')) ∧ w.heap.size ≤ w'.heap.size ∧
      (∀ k, Ωi.mine k → w'.heap[k]? = w.heap[k]?) ∧ ∀ k off, Ωi.frozp k → off < Ωi.lim k → w'.cell? ⟨k, off, none⟩ = w.cell? ⟨k, off, none⟩) := by
    intro j hj
    subst hj
    refine ⟨_, _, run_endRound _ rec3, rfl, ?_⟩
    generalize hw4 : w3.putObj l _ = w4
    have s3 : StpX l Ωb Ωb w3 w4 := hw4 ▸ StpX.put hlb
    have sx : StpX l (Ωo.mg Ωi ws.heap.size) Ωb w w4 := (st1.toX l).trans ((StpX.put hla).trans ((st2.toX l).trans s3))
    have nmi : ∀ k, ws.heap.size ≤ k → Ωi.o k ≠ .out → ¬ (Ωo.mg Ωi ws.heap.size).mine k := fun k hk hne hm => by
      rcases h.b1 k hk hne with e | ⟨e, _⟩
      · exact (mine_ne (h.mgMine hm)).1 e
      · exact (mine_ne (h.mgMine hm)).2 e
    have hnl : ∀ k, ws.heap.size ≤ k → k ≠ l := fun k hk e => by rw [S.hws] at hk; omega
    have kge : ∀ k, Ωi.mine k → ws.heap.size ≤ k := fun k hm => Nat.le_of_not_lt fun hlt => h.nm hlt hm
    refine ⟨⟨Ωb, ?_⟩, sx.size, fun k hm => sx.block k (h.c1 k (mine_ne hm).1) (nmi k (kge k hm) (mine_ne hm).1) (hnl k (kge k hm)), fun k off hf hl => ?_⟩
    · refine ⟨?_, ?_, ?_, h.a1, fun k hf => ?_, fun k hk hne => ?_, fun k hk => Nat.lt_of_lt_of_le (h.c1 k hk) sx.size, hlb, fun k hk hm => ?_, h.yl, ?_, fun d hf hd => ?_⟩
      · rw [foldR_snoc t 0 σ1 σo as h.fold, hF0, Nat.zero_add]
        cases e2' <;> rfl
      · rw [← hw4]; exact Plain.rcd S invT hlb
      · rw [← hw4, jump_stOf]
        exact World.putObj_heap_same (Array.getElem?_eq_some_iff.1 rec3).1
      · obtain ⟨g1, g2⟩ := h.a2 k hf
        obtain ⟨k1, k2⟩ := h.mgFroz g1
        exact ⟨sx.m.froz k k1, Nat.le_trans g2 (Nat.le_trans k2 (sx.m.lim k k1))⟩
      · obtain ⟨g1, g2⟩ := sx.same k (h.c1 k hne) (nmi k hk hne)
        rw [g1, g2]
        rcases h.mg k with ⟨k1, k2⟩ | ⟨_, hf, k1, k2, _⟩
        · rw [k1, k2]; exact h.b1 k hk hne
        · exact .inr ⟨k1, hf, by rw [k2]; exact Nat.le_refl _⟩
      · exact h.e1 k hk (h.mgMine (sx.mine hm (Nat.lt_of_lt_of_le hk h.kept.size)))
      · refine ⟨sx.os.trans h.kept.os, sx.tape.trans h.kept.tape, sx.output.trans h.kept.output, Nat.le_trans h.kept.size sx.size, fun k hk hxk => ?_⟩
        rw [sx.block k (Nat.lt_of_lt_of_le hk h.kept.size) (fun hm => hxk (.inl (h.e1 k hk (h.mgMine hm)))) (fun e => hxk (.inr e))]
        exact h.kept.block k hk hxk
      · simp only [List.mem_append, not_or] at hd
        have f0 := h.fresh d hf (by simp only [List.mem_append, not_or]; exact hd)
        have f1 : Fresh (Ωo.mg Ωi ws.heap.size) d := ⟨fun k hk => f0.1 k (h.mgBack hk (by simp)).1, fun k u p e hk => f0.2 k u p e (h.mgBack hk (by simp)).1⟩
        have f2 := A1.fresh d f1 (by rw [ox]; exact hd.1)
        exact A2.fresh d f2 (by rw [oy]; exact hd.2)
    · by_cases hk : ws.heap.size ≤ k
      · have hne := Own.frozp_ne hf
        exact World.cell?_of_block (sx.block k (h.c1 k hne) (nmi k hk hne) (hnl k hk))
      · have hk := Nat.lt_of_not_le hk
        obtain ⟨g1, g2⟩ := h.a1 k hk
        have hf1 : Ω1.froz k := by
          rcases itOwn_or Ω1 l b k with e | ⟨_, e⟩
          · exact absurd (g1.trans e) (Own.frozp_ne hf)
          · exact e
        obtain ⟨g3, g4⟩ := h.a2 k hf1
        obtain ⟨k1, k2⟩ := h.mgFroz g3
        exact sx.m.cell k off k1 (by rw [g2] at hl; omega)
  cases e2' with
  | normal => exact fin none rfl
  | exit id => exact fin (some (.exit id)) rfl
  | ret => exact fin (some .ret) rfl

/-! ### The statement -/
theorem enterLoop_inner {l1 : Nat} {r : Loop} (h : w.heap[l1]? = some (.loop r)) (fn : FuncId) (tmps : Array Value) (ps : Array Tmp) (assign body : Code) :
    (Instr.enterLoop fn tmps ps assign body (some l1)).run P w = .ok (w.heap.size, []) (w.alloc (.loop { state := .ready, pending := none, fn, tmps, params := ps, assign, body, defers := r.defers })) := by
  unfold Instr.enterLoop
  simp only [Sem.run_bind, run_getLoop h, run_newObj_alloc, Result.andThen, Sem.run_pure]
theorem below_alloc (w : World) (o : Obj) : Below w.heap.size w (w.alloc o) := ⟨rfl, rfl, rfl, by simp, fun _ hb => heap_alloc_lt w o hb⟩
theorem rng_core (hcall : CallsOk P call) {g : Operand} {g' : Opd} {ps : Array Tmp} {asg body : Code} {lx ly : LCode} (hx : CodeOk P call N asg lx) (hy : CodeOk P call N body ly) (ox : onceC lx = []) (oy : onceC ly = [])
    {X : Sc} {w0 : World} {T : List (List V)} {ro : Option Nat} {n : Nat} {Ω : Own} {w : World} {a : Act} {σ σ' : St} {ex : Ex} {Q : Exit → Act → World → Prop} {M : List Nat} {df : List Deferred} {f : Nat} {ts : List Nat} {pre post : List V} {xs1 xs2 : List Value}
    (sc : ScOk P X w0 T ro) (hMn : M.Nodup) (hMl : ∀ r ∈ M, w0.heap.size ≤ r) (hdf : a.defers = marks M ++ df) (h : Inv (X.df M) w0 Ω w a.tmps σ) (htr : σ.tr = none)
    (hev : rngE (roundE (evC call N lx) (evC call N ly) ps.toList (ps.toList ++ (dstsC lx ++ dstsC ly))) (fun a => call f (pre ++ .fn (.y a) [] :: post)) { σ with fr := dropL (ps.toList ++ (dstsC lx ++ dstsC ly)) σ.fr, tk := protT ts σ.tk } = some (ex, σ'))
    (hf : a.eval g = .func (.func f) xs1.toArray xs2.toArray) (hxs1 : DenL (Ω.prot ts) w pre xs1) (hxs2 : DenL (Ω.prot ts) w post xs2) (hpure1 : pureL pre = true) (hpure2 : pureL post = true) (hcs1 : (pre.all fun v => v.cells.all V.pm) = true) (hcs2 : (post.all fun v => v.cells.all V.pm) = true)
    (hdst : ∀ d ∈ dstsC (.rng g' ps.toList (ps.toList ++ (dstsC lx ++ dstsC ly)) lx ly), d < a.tmps.size)
    (hK : NextC X w0 ro Ω a M df σ' (dstsC (.rng g' ps.toList (ps.toList ++ (dstsC lx ++ dstsC ly)) lx ly)) (onceC (.rng g' ps.toList (ps.toList ++ (dstsC lx ++ dstsC ly)) lx ly) ++ loopC (.rng g' ps.toList (ps.toList ++ (dstsC lx ++ dstsC ly)) lx ly)) (Q ex.out)) :
    (Code.rangeFunc g ps asg body).wpIn (wideR ro) n P Q a w := by
  obtain ⟨b, T', hit, hfold⟩ := rngE_spec hev
  have hp : Plain X := by
    rcases sc.k with hp | hn
    · exact hp
    · have := h.out.1
      rw [htr] at this
      exact (hn Ω w this).elim
  have h1 := inv_tm (ks := ps.toList ++ (dstsC lx ++ dstsC ly)) (h.prot ts) rfl (fun _ _ => rfl)
  -- the function that is ranged over
  obtain ⟨R, hR, hRT⟩ : ∃ R, call f (pre ++ .fn (.y b) [] :: post) = some R ∧ itemsOf (some R) = some T' := by
    cases hc : call f (pre ++ .fn (.y b) [] :: post) with
    | none => rw [hc] at hit; cases hit
    | some R => rw [hc] at hit; exact ⟨R, rfl, hit⟩
  obtain ⟨hent, hok⟩ := hcall f _ R hR
  have hitok := hok.2 b pre post rfl
  -- the loop is entered
  generalize hσ1 : ({ σ with fr := dropL (ps.toList ++ (dstsC lx ++ dstsC ly)) σ.fr, tk := protT ts σ.tk } : St) = σ1 at hfold
  have h1 : Inv (X.df M) w0 (Ω.prot ts) w a.tmps σ1 := hσ1 ▸ h1
  have htr1 : σ1.tr = none := by rw [← hσ1]; exact htr
  obtain ⟨we, mk, dfr, M', hent1, hmk, hMn', hMl', hMs, hinv, hbe⟩ : ∃ (we : World) (mk : List Deferred) (dfr : Nat) (M' : List Nat), (∀ fn, (Instr.enterLoop fn a.tmps ps asg body ro).run P w = .ok (we.heap.size, mk)
        (we.alloc (.loop { state := .ready, pending := none, fn, tmps := a.tmps, params := ps, assign := asg, body := body, defers := dfr }))) ∧ mk ++ a.defers = marks M' ++ df ∧ M'.Nodup ∧ (∀ r ∈ M', w0.heap.size ≤ r) ∧ (M' = M ∨ (Plain X ∧ ro = none)) ∧
        Inv (X.df M') w0 (Ω.prot ts) we a.tmps σ1 ∧ Below w.heap.size w we := by
    cases ro with
    | none =>
      refine ⟨w.alloc (.deferred (some [])), [mark w.heap.size], w.heap.size, w.heap.size :: M, fun fn => ?_, ?_, ?_, fun r hr => ?_, .inr ⟨hp, rfl⟩, ?_, below_alloc _ _⟩
      · rw [run_enterLoop_outer, World.size_alloc]; rfl
      · rw [hdf]; rfl
      · refine List.nodup_cons.2 ⟨fun hm => ?_, hMn⟩
        have := (Array.getElem?_eq_some_iff.1 (h1.out.2 _ hm).2).1
        exact absurd this (Nat.lt_irrefl _)
      · rcases List.mem_cons.1 hr with rfl | hr
        · exact h1.kept.size
        · exact hMl r hr
      · have i1 := inv_below h1 (below_alloc w (.deferred (some [])))
        refine i1.sc rfl rfl rfl fun hj => ⟨hj.1, fun r hr => ?_⟩
        rcases List.mem_cons.1 hr with rfl | hr
        · exact ⟨fun hm => absurd (h1.bnd _ (mine_ne hm).1) (Nat.lt_irrefl _), World.alloc_heap_new w _⟩
        · exact hj.2 r hr
    | some l1 =>
      obtain ⟨r1, r2, r, r3⟩ := sc.r l1 rfl
      have hh := h.kept.block l1 r1 r2
      rw [r3] at hh
      exact ⟨w, [], r.defers, M, fun fn => enterLoop_inner hh fn _ _ _ _, by rw [hdf]; rfl, hMn, hMl, .inl rfl, h1, Go.RowKit.Below.refl _ _⟩
  refine wpIn_rangeFunc fun fn _ => ?_
  have hent2 := hent1 fn
  generalize hr0 : ({ state := .ready, pending := none, fn, tmps := a.tmps, params := ps, assign := asg, body := body, defers := dfr } : Loop) = r0 at hent2
  have hinvs := inv_below hinv (below_alloc we (.loop r0))
  have S : JS (X.df M') w0 (Ω.prot ts) we (we.alloc (.loop r0)) we.heap.size := by
    have hj := hinv.out
    rw [htr1] at hj
    exact ⟨hp.df M', rfl, by simp, hj, out_size hinv, hinv.kept.size, hinv.bnd⟩
  have hlt : ∀ k, (Ω.prot ts).o k ≠ .out → k < (we.alloc (.loop r0)).heap.size := fun k hk => by rw [S.hws]; exact Nat.lt_succ_of_lt (S.bnd k hk)
  have J0 : JAt (X.df M') w0 (Ω.prot ts) (we.alloc (.loop r0)) a.tmps (roundE (evC call N lx) (evC call N ly) ps.toList (ps.toList ++ (dstsC lx ++ dstsC ly))) σ1 we.heap.size b r0 (loopC lx ++ loopC ly) [] (itOwn (Ω.prot ts) we.heap.size b) (we.alloc (.loop r0)) (Ω.prot ts) σ1 none := by
    refine ⟨rfl, hinvs, ?_, fun _ _ => ⟨rfl, rfl⟩, fun k hk => ⟨hk, Nat.le_refl _⟩, fun k hk hne => ?_, fun k hk => ?_, S.lo, fun _ _ h => h, rfl, Kept.refl _ _, fun d hd _ => hd⟩
    · rw [World.alloc_heap_new, ← hr0]; rfl
    · rcases itOwn_or (Ω.prot ts) we.heap.size b k with e | ⟨_, e⟩
      · exact absurd e hne
      · exact absurd (hlt k (Own.froz_ne e)) (Nat.not_lt_of_le hk)
    · rcases itOwn_or (Ω.prot ts) we.heap.size b k with e | ⟨_, e⟩
      · exact absurd e hk
      · exact hlt k (Own.froz_ne e)
  have hm : ExtM (Ω.prot ts) (itOwn (Ω.prot ts) we.heap.size b) w (we.alloc (.loop r0)) := by
    refine ⟨fun k hk => .inl ?_, fun _ _ => Nat.le_refl _, fun k off hk _ => ?_⟩
    · rcases itOwn_or (Ω.prot ts) we.heap.size b k with e | ⟨e, _⟩
      · simp only [itOwn, froz_iff.1 hk, if_true] at e; cases e
      · exact e
    · have hk1 := h1.bnd k (Own.froz_ne hk)
      refine World.cell?_of_block ?_
      rw [heap_alloc_lt we _ (Nat.lt_of_lt_of_le hk1 hbe.size), hbe.block k hk1]
  have hY : YieldOk P (itSc (X.df M') w0 (Ω.prot ts) (we.alloc (.loop r0)) a.tmps (roundE (evC call N lx) (evC call N ly) ps.toList (ps.toList ++ (dstsC lx ++ dstsC ly))) σ1 we.heap.size b r0 (loopC lx ++ loopC ly)) (we.alloc (.loop r0)) T' := by
    refine ⟨fun Ωi wi hj => (by obtain ⟨t, _, _, _, _, _, e, _⟩ := hj; cases e), fun ro' n' b' l' tr as ys Ωi wi hj hyl hd hpm hpre => ?_⟩
    obtain ⟨Ωo, σo, st, J⟩ := itSc_at S hj
    have hlb := J.yl
    rw [hyl] at hlb
    injection hlb with hlb
    injection hlb with e1 e2
    subst e1; subst e2
    obtain ⟨σo', e2, σ2, k1, k2, k3⟩ := hfold.at hpre
    have hfo := J.fold
    rw [k1] at hfo
    injection hfo with hfo
    injection hfo with e3 e4
    subst e3; subst e4
    have scd : ScOk P (X.df M') w0 T ro := ⟨sc.y.df (.inl hp), .inl (hp.df M'), sc.r⟩
    obtain ⟨fn', tmps', asg', body', q1, q2⟩ := round_ok hx hy ox oy scd rfl (fun d hd => hdst d (by simpa [dstsC] using hd)) S (by rw [← hr0]; exact ⟨rfl, rfl, rfl, rfl⟩) J hd hpm k2
    refine ⟨fn', tmps', asg', body', q1, RoundIn.mono (q2 ro' n') fun e w4 he => ?_⟩
    obtain ⟨g1, ⟨Ωo', g2⟩, g3, g4, g5⟩ := he
    exact ⟨by rw [k3]; exact g1, itSc_of g2, g2.kept, g3, g4, g5⟩
  have hC := hitok T' hRT _ (itOwn (Ω.prot ts) we.heap.size b) (we.alloc (.loop r0)) we.heap.size xs1 xs2 (base_itOwn hlt) rfl hpure1 hpure2 (DenL.itm hm hcs1 hxs1) (DenL.itm hm hcs2 hxs2) rfl rfl (itSc_of J0) (fun _ _ hj => (by obtain ⟨t, _, _, _, _, _, e, _⟩ := hj; cases e)) hY
  refine ⟨we.heap.size, mk, we.alloc (.loop r0), { target := .fn (.func f) xs2.toArray, args := xs1.toArray ++ #[Value.func (.yield we.heap.size) #[] #[]] }, we.alloc (.loop r0), f, _, we.alloc (.loop r0), hent2, ?_, fun _ _ => trivial, ?_, fun h => by simp [wideR, Fence.wide] at h, CallsIn.mono (callsIn_wideR hC) fun e w1 he => ?_⟩
  · simp only [resolve, hf, Deferred.ofValue, Sem.run_pure]
    congr 2
    apply Array.ext'; simp [Act.eval]
  · simp only [invoke, run_callFunc hent]
    congr 2
    apply Array.ext'; simp
  · obtain ⟨x, Ωi, rfl, hj⟩ := he
    obtain ⟨Ωo, σo, st, J⟩ := itSc_at S hj
    obtain ⟨st', hf1, hf2⟩ := hfold.fold
    have hfo := J.fold
    rw [hf1] at hfo
    injection hfo with hfo
    injection hfo with e3 e4
    subst e3; subst e4
    have hend := run_endLoop (P := P) J.rcd (by simp only; split <;> simp)
    refine ⟨jumpOf st', w1.putObj we.heap.size (.loop { r0 with state := .exhausted, pending := jumpOf st' }), hend, ?_⟩
    have hfin := Plain.rcd (o := .loop { r0 with state := .exhausted, pending := jumpOf st' }) S J.inv J.d1
    have hnext := hK { a with defers := mk ++ a.defers } _ Ωo M' ⟨rfl, hmk, hMn', hMl', hMs, fun _ _ => rfl, hfin, fun d hd hds => J.fresh d ⟨fun k hk => hd.1 k (prot_box hk), fun k u p e hk => by
      obtain ⟨q, hq, _⟩ := prot_arr hk
      exact hd.2 k u q e hq⟩ (by simpa [onceC, loopC] using hds)⟩
    revert hnext
    generalize jumpOf st' = j at hf2
    subst hf2
    intro hnext
    cases ex with
    | normal => exact hnext
    | exit id => exact wpIn_exit hnext
    | ret => exact wpIn_ret hnext
theorem rng_sound (hcall : CallsOk P call) {g : Operand} {g' : Opd} {ps : Array Tmp} {asg body : Code} {lx ly : LCode} (hg : opdC g = some g') (hx : CodeOk P call N asg lx) (hy : CodeOk P call N body ly) (ox : onceC lx = []) (oy : onceC ly = []) :
    CodeOk P call N (.rangeFunc g ps asg body) (.rng g' ps.toList (ps.toList ++ (dstsC lx ++ dstsC ly)) lx ly) := by
  intro X w0 T ro n Ω w a σ σ' ex Q M df sc hpl hMn hMl hdf hev hT h hdst hfr hon hK
  simp only [evC] at hev
  split at hev
  · rename_i f caps htr hop
    split at hev
    case h_2 => cases hev
    rename_i cs ts hfrz
    split at hev
    case isFalse => cases hev
    rename_i hcs
    have hden := opd_sound h hg hop
    simp only [Den, Fk.Is] at hden
    obtain ⟨xs, hf, hxs⟩ := hden
    obtain ⟨hxs1, hpure, _⟩ := DenL.frzE (ps := ts) caps cs ts xs hfrz (fun t ht => memN_self ht) hxs
    exact rng_core hcall hx hy ox oy sc hMn hMl hdf h htr (pre := []) (post := cs) (xs1 := []) hev hf DenL.nil hxs1 rfl hpure rfl hcs hdst hK
  · rename_i f caps htr hop
    split at hev
    case h_2 => cases hev
    rename_i cs ts hfrz
    split at hev
    case isFalse => cases hev
    rename_i hcs
    have hden := opd_sound h hg hop
    simp only [Den, Fk.Is] at hden
    obtain ⟨xs, hf, hxs⟩ := hden
    obtain ⟨hxs1, hpure, _⟩ := DenL.frzE (ps := ts) caps cs ts xs hfrz (fun t ht => memN_self ht) hxs
    exact rng_core hcall hx hy ox oy sc hMn hMl hdf h htr (pre := cs) (post := []) (xs2 := []) hev hf hxs1 DenL.nil hpure rfl hcs rfl hdst hK
  · cases hev
end
end Go.Lo
