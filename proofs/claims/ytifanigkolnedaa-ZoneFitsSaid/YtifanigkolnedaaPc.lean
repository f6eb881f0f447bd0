/- Texts put together. -/
import Derived.Test.YtifanigkolnedaaPb
import Derived.RangeFuncLeaves
import Derived.ChangeArms
import Derived.Handed
import Derived.Carry
import Derived.RowKit
import Derived.ChangeShapes
/- Ranges over functions: a round; the statement. -/
open Go.RowKit (Below)
namespace Go.Lo
section
variable {P : Program} {X : Sc} {w0 w : World} {Ω : Own} {tm : Array Value} {σ : St}

/-! ### Slots -/
theorem not_mem_of_memN {s : Nat} {xs : List Nat} (h : memN s xs = false) : s ∉ xs := fun hm => by rw [memN_self hm] at h; cases h
theorem get_dropL {α : Type} {ks : List Nat} : ∀ {l : List (Nat × α)} {s : Nat} {v : α}, get (dropL ks l) s = some v → get l s = some v ∧ memN s ks = false
  | [], s, v, h => by simp [dropL, get] at h
  | (k, u) :: l, s, v, h => by
    simp only [dropL] at h
    split at h
    · rename_i hm
      obtain ⟨h1, h2⟩ := get_dropL h
      have hne : k ≠ s := fun e => by subst e; rw [hm] at h2; cases h2
      exact ⟨by simp only [get, if_neg hne]; exact h1, h2⟩
    · rename_i hm
      simp only [get] at h ⊢
      split at h
      · rename_i e; subst e; rw [if_pos rfl]; exact ⟨h, by simpa using hm⟩
      · rename_i e; rw [if_neg e]; exact get_dropL h
theorem inv_tm {tm' : Array Value} {ks : List Nat} (h : Inv X w0 Ω w tm' σ) (hs : tm'.size = tm.size) (hk : ∀ k, k ∉ ks → tm'.getD k undef = tm.getD k undef) : Inv X w0 Ω w tm { σ with fr := dropL ks σ.fr } where
  kept := h.kept
  ownB := h.ownB
  ownA := h.ownA
  bnd := h.bnd
  uniq := h.uniq
  limB := h.limB
  slot s v hv := by
    obtain ⟨h1, h2⟩ := get_dropL hv
    obtain ⟨g1, g2⟩ := h.slot s v h1
    exact ⟨hs ▸ g1, by rw [← hk s (not_mem_of_memN h2)]; exact g2⟩
  tok := h.tok
  old := h.old
  out := h.out
theorem inv_params : ∀ (ps : List Nat) (as : List V) (xs : List Value) {tm : Array Value} {σ : St}, Inv X w0 Ω w tm σ → DenL Ω w as xs → as.length = ps.length → (∀ p ∈ ps, p < tm.size) →
    Inv X w0 Ω w ((ps.zip xs).foldl (fun tm (p : Nat × Value) => tm.setIfInBounds p.1 p.2) tm) { σ with fr := putA ps as σ.fr } ∧ ((ps.zip xs).foldl (fun tm (p : Nat × Value) => tm.setIfInBounds p.1 p.2) tm).size = tm.size ∧
      ∀ k, k ∉ ps → ((ps.zip xs).foldl (fun tm (p : Nat × Value) => tm.setIfInBounds p.1 p.2) tm).getD k undef = tm.getD k undef
  | [], as, xs, tm, σ, h, hd, hl, hp => by
    cases as with
    | nil => exact ⟨h, rfl, fun _ _ => rfl⟩
    | cons _ _ => simp at hl
  | p :: ps, as, xs, tm, σ, h, hd, hl, hp => by
    cases as with
    | nil => simp at hl
    | cons v as =>
      simp only [DenL] at hd
      obtain ⟨x, ys, rfl, h2, h3⟩ := hd
      simp only [List.length_cons, Nat.add_right_cancel_iff] at hl
      have h1 := h.put (hp p (by simp)) (DenS.of h2)
      obtain ⟨g1, g2, g3⟩ := inv_params ps as ys h1 h3 hl (fun q hq => by rw [Array.size_setIfInBounds]; exact hp q (by simp [hq]))
      simp only [List.zip_cons_cons, List.foldl_cons, putA]
      refine ⟨g1, g2.trans (Array.size_setIfInBounds ..), fun k hk => ?_⟩
      simp only [List.mem_cons, not_or] at hk
      rw [g3 k hk.2]
      exact getD_set_other (fun e => hk.1 e.symm)
theorem Inv.rcd {l : Nat} {o : Obj} (h : Inv X w0 Ω w tm σ) (hl : Ω.o l = .out) (hs : w0.heap.size ≤ l) (hj : X.j σ.tr Ω (w.putObj l o)) : Inv X w0 Ω (w.putObj l o) tm σ :=
  h.other (tr' := σ.tr) ⟨h.kept.os, h.kept.tape, h.kept.output, by rw [World.putObj_size]; exact h.kept.size, fun b hb hX => by
      rw [World.putObj_heap_other (by omega)]; exact h.kept.block b hb hX⟩ (by simp)
    (fun b hm => World.putObj_heap_other fun e => by subst e; exact (mine_ne hm).1 hl) (fun b off hf _ => putObj_cell fun e => by subst e; exact Own.frozp_ne hf hl) hj
/-- A plain scope does not mind the record. -/
theorem Plain.rcd {Xc : Sc} {we ws w' : World} {Ω1 Ω' : Own} {l : Nat} {o : Obj} (S : JS Xc w0 Ω1 we ws l) {σ' : St} {tm' : Array Value} (h : Inv Xc w0 Ω' w' tm' σ') (hl : Ω'.o l = .out) : Inv Xc w0 Ω' (w'.putObj l o) tm' σ' := by
  have htr := S.plain.1 _ _ _ h.out
  refine h.rcd hl S.sz ?_
  have hj := h.out
  rw [htr] at hj ⊢
  exact S.plain.2 none Ω1 we Ω' Ω' w' _ S.hj hj ⟨rfl, rfl, rfl, by simp, fun b hb => World.putObj_heap_other (by rw [S.hl] at hb; omega), fun _ _ => ⟨rfl, rfl⟩, fun _ h => h, fun b hb => by simpa using h.bnd b hb, rfl⟩

mutual
theorem Den.itmC {Ω' : Own} {w' : World} (h : ExtM Ω Ω' w w') : ∀ (vs : List V) (xs : List Value), (vs.all V.pm) = true → DenL Ω w vs xs → DenL Ω' w' vs xs
  | [], _, _, hd => by simpa [DenL] using hd
  | v :: vs, xs, hp, hd => by
    simp only [List.all_cons, Bool.and_eq_true] at hp
    simp only [DenL] at hd
    obtain ⟨x, ys, rfl, h2, h3⟩ := hd
    exact DenL.cons (Den.extM h v x hp.1 h2) (Den.itmC h vs ys hp.2 h3)
end
theorem Den.itm {Ω' : Own} {w' : World} (h : ExtM Ω Ω' w w') {v : V} {x : Value} (hp : (v.cells.all V.pm) = true) (hd : Den Ω w v x) : Den Ω' w' v x := by
  have one : v.cells = [v] → Den Ω' w' v x := fun e => Den.extM h v x (by rw [e] at hp; simpa using hp) hd
  cases v <;> first
    | exact one rfl
    | (simp only [Den, V.cells] at hd hp ⊢
       obtain ⟨xs, h1, h2⟩ := hd
       exact ⟨xs, h1, Den.itmC h _ _ hp h2⟩)
theorem DenL.itm {Ω' : Own} {w' : World} (h : ExtM Ω Ω' w w') : ∀ {vs : List V} {xs : List Value}, (vs.all fun v => v.cells.all V.pm) = true → DenL Ω w vs xs → DenL Ω' w' vs xs
  | [], _, _, hd => by simpa [DenL] using hd
  | v :: vs, xs, hp, hd => by
    simp only [List.all_cons, Bool.and_eq_true] at hp
    simp only [DenL] at hd
    obtain ⟨x, ys, rfl, h2, h3⟩ := hd
    exact DenL.cons (Den.itm h hp.1 h2) (DenL.itm h (by simpa using hp.2) h3)
end

/-! ### A round -/
def stOf (k : Nat) : Ex → Option (Nat × Ex)
  | .normal => none
  | e => some (k, e)
theorem jump_stOf (k : Nat) (e : Ex) : jumpOf (stOf k e) = jumpOf (some (0, e)) := by cases e <;> rfl
section
variable {P : Program} {call : Nat → List V → Option V} {N : Nat} {Xc : Sc} {w0 we ws w : World} {Ω1 Ωi Ωo : Own} {tm : Array Value} {σ1 σo : St} {l b : Nat} {r0 : Loop} {t : List (List V)}
theorem round_ok {asg body : Code} {lx ly : LCode} {ps wr : List Nat} {T : List (List V)} {ro0 : Option Nat} (hx : CodeOk P call N asg lx) (hy : CodeOk P call N body ly) (ox : onceC lx = []) (oy : onceC ly = []) (sc : ScOk P Xc w0 T ro0)
    (hwr : wr = ps ++ (dstsC lx ++ dstsC ly)) (hsz : ∀ d ∈ wr, d < tm.size) (S : JS Xc w0 Ω1 we ws l) (hr0 : r0.tmps = tm ∧ r0.params.toList = ps ∧ r0.assign = asg ∧ r0.body = body)
    (h : JAt Xc w0 Ω1 ws tm (roundE (evC call N lx) (evC call N ly) ps wr) σ1 l b r0 (loopC lx ++ loopC ly) t Ωi w Ωo σo none) {as : List V} {xs : List Value} (hd : DenL Ωi w as xs) (hp : (as.all fun v => v.cells.all V.pm) = true)
    {e2 : Ex} {σ2 : St} (hF : roundE (evC call N lx) (evC call N ly) ps wr σo as = some (e2, σ2)) :
    ∃ fn tmps asg' body', (Instr.yield l xs.toArray).run P w = .ok (.round l fn tmps asg' body') w ∧ ∀ ro n, RoundIn (wideR ro) n P l fn tmps asg' body' w fun e w4 => e = .returned (.bool (jumpOf (some (0, e2))).isNone) ∧
      (∃ Ωo', JAt Xc w0 Ω1 ws tm (roundE (evC call N lx) (evC call N ly) ps wr) σ1 l b r0 (loopC lx ++ loopC ly) (t ++ [as]) Ωi w4 Ωo' σ2 (stOf t.length e2)) ∧ w.heap.size ≤ w4.heap.size ∧
      (∀ k, Ωi.mine k → w4.heap[k]? = w.heap[k]?) ∧ ∀ k off, Ωi.frozp k → off < Ωi.lim k → w4.cell? ⟨k, off, none⟩ = w.cell? ⟨k, off, none⟩ := by
  have hF0 := hF
  unfold roundE at hF
  split at hF
  case isFalse => cases hF
  rename_i hlen
  split at hF
  case h_2 => cases hF
  rename_i σa hA
  split at hF
  case h_2 => cases hF
  rename_i e2' σb hB
  simp only [Option.some.injEq, Prod.mk.injEq] at hF
  obtain ⟨rfl, rfl⟩ := hF
  obtain ⟨q1, q2, q3, q4⟩ := hr0
  have hxl : xs.length = ps.length := by rw [hd.length, hlen]
  have hrun := run_yield (P := P) (args := xs.toArray) h.rcd (by
    show xs.toArray.size = r0.params.size
    rw [List.size_toArray, hxl, ← q2, Array.length_toList])
  refine ⟨_, _, _, _, hrun, fun ro n => ?_⟩
  have htm : (r0.params.zip xs.toArray).foldl (fun tmps (p : Nat × Value) => tmps.setIfInBounds p.1 p.2) r0.tmps = (ps.zip xs).foldl (fun tm (p : Nat × Value) => tm.setIfInBounds p.1 p.2) tm := by
    rw [← Array.foldl_toList, Array.toList_zip, q1, q2]
  simp only at htm ⊢
  -- the state at the start of the round
  have hlt0 : l < ws.heap.size := by rw [S.hws]; exact Nat.lt_succ_self l
  have hlw : l < w.heap.size := Nat.lt_of_lt_of_le hlt0 h.kept.size
  have hmg := h.merge S
  have hlo : (Ωo.mg Ωi ws.heap.size).o l = .out := by rw [(mg_lt hlt0).1]; exact h.d1
  have htr := h.trn S
  have hdm : DenL (Ωo.mg Ωi ws.heap.size) w as xs := by
    refine DenL.itm ⟨fun k hf => ?_, fun k hf => ?_, fun _ _ _ _ => rfl⟩ hp hd
    · by_cases hk : ws.heap.size ≤ k
      · exact .inl (mg_frz hk hf).1
      · have hk := Nat.lt_of_not_le hk
        rw [froz_same (mg_lt hk).1]
        refine (h.a2 k ?_).1
        rcases itOwn_or Ω1 l b k with e | ⟨_, e⟩
        · exact absurd ((h.a1 k hk).1.trans e) (Own.froz_ne hf)
        · exact e
    · by_cases hk : ws.heap.size ≤ k
      · rw [(mg_frz hk hf).2]; exact Nat.le_refl _
      · have hk := Nat.lt_of_not_le hk
        rw [(mg_lt hk).2, (h.a1 k hk).2]
        refine (h.a2 k ?_).2
        rcases itOwn_or Ω1 l b k with e | ⟨_, e⟩
        · exact absurd ((h.a1 k hk).1.trans e) (Own.froz_ne hf)
        · exact e
  have hps : ∀ p ∈ ps, p < tm.size := fun p hm => hsz p (by rw [hwr]; simp [hm])
  obtain ⟨i1, i2, i3⟩ := inv_params ps as xs (inv_tm (ks := wr) hmg.rb rfl (fun _ _ => rfl)) hdm hlen hps
  rw [← htm] at i1 i2 i3
  refine roundIn_of_wpIn (F := wideR ro) trivial ?_
  show Code.wpIn (wideR (some l)) n P r0.assign _ _ w
  rw [q3, q4]
  have sc1 := sc.round S.plain hlo h.rcd (Ω := Ωo.mg Ωi ws.heap.size) (w := w)
  have hi0 : Inv ((Xc.rb (Ωo.mg Ωi ws.heap.size) w).df []) w (Ωo.mg Ωi ws.heap.size) w _ _ := i1.sc rfl rfl rfl (fun hj => ⟨hj, fun r hr => by cases hr⟩)
  have trA : σa.tr = none := (evC_tr lx hA).none (by simpa using htr)
  have trB : σb.tr = none := (evC_tr ly hB).none trA
  refine hx sc1 (.inl (S.plain.rb _ _)) (M := []) (df := []) List.nodup_nil (fun r hr => by cases hr) rfl hA (fun l hl => by rw [trA] at hl; cases hl) hi0 (fun d hd => by
    show d < Array.size _
    rw [i2]; exact hsz d (by rw [hwr]; simp [hd])) (by rw [ox]; intro d hd; cases hd) ⟨by rw [ox]; exact List.nodup_nil, by rw [ox]; intro d hd; cases hd⟩ ?_
  intro a1 w1 Ωa M1 A1
  have hM1 : M1 = [] := by
    rcases A1.same with e | ⟨_, e⟩
    · exact e
    · cases e
  subst hM1
  have inv1 : Inv (Xc.rb (Ωo.mg Ωi ws.heap.size) w) w Ωa w1 a1.tmps σa := A1.inv.sc rfl rfl rfl (fun hj => hj.1)
  have st1 : Stp (Ωo.mg Ωi ws.heap.size) Ωa w w1 := inv1.out.2
  have nml : ¬ (Ωo.mg Ωi ws.heap.size).mine l := fun hm => (mine_ne hm).1 hlo
  have rec1 : w1.heap[l]? = w.heap[l]? := st1.s.block l hlw nml
  have hla : Ωa.o l = .out := by rw [(st1.s.same l hlw nml).1]; exact hlo
  have invA : Inv Xc w0 Ωa w1 a1.tmps σa := hmg.unrb inv1
  rw [h.rcd] at rec1
  refine ⟨_, run_beginRound rec1 rfl, ?_⟩
  have hlw1 : l < w1.heap.size := (Array.getElem?_eq_some_iff.1 rec1).1
  have invA' := Plain.rcd (o := .loop { r0 with state := .busy, pending := jumpOf none }) S invA hla
  have rec2 := World.putObj_heap_same (w := w1) (o := .loop { r0 with state := .busy, pending := jumpOf none }) hlw1
  have sc2 := sc.round S.plain hla rec2 (Ω := Ωa)
  have hi2 := invA'.rb.sc (X' := (Xc.rb Ωa (w1.putObj l (.loop { r0 with state := .busy, pending := jumpOf none }))).df []) rfl rfl rfl (fun hj => ⟨hj, fun r hr => by cases hr⟩)
  refine hy sc2 (.inl (S.plain.rb _ _)) (M := []) (df := []) List.nodup_nil (fun r hr => by cases hr) A1.defers hB (fun l hl => by rw [trB] at hl; cases hl) hi2 (fun d hd => by
    rw [A1.size]
    show d < Array.size _
    rw [i2]; exact hsz d (by rw [hwr]; simp [hd])) (by rw [oy]; intro d hd; cases hd) ⟨by rw [oy]; exact List.nodup_nil, by rw [oy]; intro d hd; cases hd⟩ ?_
  intro a2 w3 Ωb M2 A2
  have hM2 : M2 = [] := by
    rcases A2.same with e | ⟨_, e⟩
    · exact e
    · cases e
  subst hM2
  have inv2 := A2.inv.sc (X' := Xc.rb Ωa (w1.putObj l (.loop { r0 with state := .busy, pending := jumpOf none }))) rfl rfl rfl (fun hj => hj.1)
  have st2 := inv2.out.2
  have nml2 : ¬ Ωa.mine l := fun hm => (mine_ne hm).1 hla
  have hlw2 : l < (w1.putObj l (.loop { r0 with state := .busy, pending := jumpOf none })).heap.size := by simpa using hlw1
  have rec3 := st2.s.block l hlw2 nml2
  rw [rec2] at rec3
  have hlb : Ωb.o l = .out := by rw [(st2.s.same l hlw2 nml2).1]; exact hla
  have invB : Inv Xc w0 Ωb w3 a2.tmps σb := invA'.unrb inv2
  -- what is kept of the slots
  have hsize : a2.tmps.size = tm.size := A2.size.trans (A1.size.trans i2)
  have hkeep : ∀ k, k ∉ wr → a2.tmps.getD k undef = tm.getD k undef := fun k hk => by
    rw [hwr] at hk
    simp only [List.mem_append, not_or] at hk
    rw [A2.keep k hk.2.2, A1.keep k hk.2.1]
    exact i3 k hk.1
  have invT := inv_tm (ks := wr) invB hsize hkeep
  -- the end of the round
  have fin : ∀ (j : Option Code), j = jumpOf (some (0, e2')) → ∃ v w', (Instr.endRound l j).run P w3 = .ok v w' ∧ (Ending.returned v = .returned (.bool (jumpOf (some (0, e2'))).isNone) ∧
      (∃ Ωo', JAt Xc w0 Ω1 ws tm (roundE (evC call N lx) (evC call N ly) ps wr) σ1 l b r0 (loopC lx ++ loopC ly) (t ++ [as]) Ωi w' Ωo' { σb with fr := dropL wr σb.fr } (stOf t.length e2')) ∧ w.heap.size ≤ w'.heap.size ∧
      (∀ k, Ωi.mine k → w'.heap[k]? = w.heap[k]?) ∧ ∀ k off, Ωi.frozp k → off < Ωi.lim k → w'.cell? ⟨k, off, none⟩ = w.cell? ⟨k, off, none⟩) := by
    intro j hj
    subst hj
    refine ⟨_, _, run_endRound _ rec3, rfl, ?_⟩
    generalize hw4 : w3.putObj l _ = w4
    have s3 : StpX l Ωb Ωb w3 w4 := hw4 ▸ StpX.put hlb
    have sx : StpX l (Ωo.mg Ωi ws.heap.size) Ωb w w4 := (st1.toX l).trans ((StpX.put hla).trans ((st2.toX l).trans s3))
    have nmi : ∀ k, ws.heap.size ≤ k → Ωi.o k ≠ .out → ¬ (Ωo.mg Ωi ws.heap.size).mine k := fun k hk hne hm => by
      rcases h.b1 k hk hne with e | ⟨e, _⟩
      · exact (mine_ne (h.mgMine hm)).1 e
      · exact (mine_ne (h.mgMine hm)).2 e
    have hnl : ∀ k, ws.heap.size ≤ k → k ≠ l := fun k hk e => by rw [S.hws] at hk; omega
    have kge : ∀ k, Ωi.mine k → ws.heap.size ≤ k := fun k hm => Nat.le_of_not_lt fun hlt => h.nm hlt hm
    refine ⟨⟨Ωb, ?_⟩, sx.size, fun k hm => sx.block k (h.c1 k (mine_ne hm).1) (nmi k (kge k hm) (mine_ne hm).1) (hnl k (kge k hm)), fun k off hf hl => ?_⟩
    · refine ⟨?_, ?_, ?_, h.a1, fun k hf => ?_, fun k hk hne => ?_, fun k hk => Nat.lt_of_lt_of_le (h.c1 k hk) sx.size, hlb, fun k hk hm => ?_, h.yl, ?_, fun d hf hd => ?_⟩
      · rw [foldR_snoc t 0 σ1 σo as h.fold, hF0, Nat.zero_add]
        cases e2' <;> rfl
      · rw [← hw4]; exact Plain.rcd S invT hlb
      · rw [← hw4, jump_stOf]
        exact World.putObj_heap_same (Array.getElem?_eq_some_iff.1 rec3).1
      · obtain ⟨g1, g2⟩ := h.a2 k hf
        obtain ⟨k1, k2⟩ := h.mgFroz g1
        exact ⟨sx.m.froz k k1, Nat.le_trans g2 (Nat.le_trans k2 (sx.m.lim k k1))⟩
      · obtain ⟨g1, g2⟩ := sx.same k (h.c1 k hne) (nmi k hk hne)
        rw [g1, g2]
        rcases h.mg k with ⟨k1, k2⟩ | ⟨_, hf, k1, k2, _⟩
        · rw [k1, k2]; exact h.b1 k hk hne
        · exact .inr ⟨k1, hf, by rw [k2]; exact Nat.le_refl _⟩
      · exact h.e1 k hk (h.mgMine (sx.mine hm (Nat.lt_of_lt_of_le hk h.kept.size)))
      · refine ⟨sx.os.trans h.kept.os, sx.tape.trans h.kept.tape, sx.output.trans h.kept.output, Nat.le_trans h.kept.size sx.size, fun k hk hxk => ?_⟩
        rw [sx.block k (Nat.lt_of_lt_of_le hk h.kept.size) (fun hm => hxk (.inl (h.e1 k hk (h.mgMine hm)))) (fun e => hxk (.inr e))]
        exact h.kept.block k hk hxk
      · simp only [List.mem_append, not_or] at hd
        have f0 := h.fresh d hf (by simp only [List.mem_append, not_or]; exact hd)
        have f1 : Fresh (Ωo.mg Ωi ws.heap.size) d := ⟨fun k hk => f0.1 k (h.mgBack hk (by simp)).1, fun k u p e hk => f0.2 k u p e (h.mgBack hk (by simp)).1⟩
        have f2 := A1.fresh d f1 (by rw [ox]; exact hd.1)
        exact A2.fresh d f2 (by rw [oy]; exact hd.2)
    · by_cases hk : ws.heap.size ≤ k
      · have hne := Own.frozp_ne hf
        exact World.cell?_of_block (sx.block k (h.c1 k hne) (nmi k hk hne) (hnl k hk))
      · have hk := Nat.lt_of_not_le hk
        obtain ⟨g1, g2⟩ := h.a1 k hk
        have hf1 : Ω1.froz k := by
          rcases itOwn_or Ω1 l b k with e | ⟨_, e⟩
          · exact absurd (g1.trans e) (Own.frozp_ne hf)
          · exact e
        obtain ⟨g3, g4⟩ := h.a2 k hf1
        obtain ⟨k1, k2⟩ := h.mgFroz g3
        exact sx.m.cell k off k1 (by rw [g2] at hl; omega)
  cases e2' with
  | normal => exact fin none rfl
  | exit id => exact fin (some (.exit id)) rfl
  | ret => exact fin (some .ret) rfl

/-! ### The statement -/
theorem enterLoop_inner {l1 : Nat} {r : Loop} (h : w.heap[l1]? = some (.loop r)) (fn : FuncId) (tmps : Array Value) (ps : Array Tmp) (assign body : Code) :
    (Instr.enterLoop fn tmps ps assign body (some l1)).run P w = .ok (w.heap.size, []) (w.alloc (.loop { state := .ready, pending := none, fn, tmps, params := ps, assign, body, defers := r.defers })) := by
  unfold Instr.enterLoop
  simp only [Sem.run_bind, run_getLoop h, run_newObj_alloc, Result.andThen, Sem.run_pure]
theorem below_alloc (w : World) (o : Obj) : Below w.heap.size w (w.alloc o) := ⟨rfl, rfl, rfl, by simp, fun _ hb => heap_alloc_lt w o hb⟩
theorem rng_core (hcall : CallsOk P call) {g : Operand} {g' : Opd} {ps : Array Tmp} {asg body : Code} {lx ly : LCode} (hx : CodeOk P call N asg lx) (hy : CodeOk P call N body ly) (ox : onceC lx = []) (oy : onceC ly = [])
    {X : Sc} {w0 : World} {T : List (List V)} {ro : Option Nat} {n : Nat} {Ω : Own} {w : World} {a : Act} {σ σ' : St} {ex : Ex} {Q : Exit → Act → World → Prop} {M : List Nat} {df : List Deferred} {f : Nat} {ts : List Nat} {pre post : List V} {xs1 xs2 : List Value}
    (sc : ScOk P X w0 T ro) (hMn : M.Nodup) (hMl : ∀ r ∈ M, w0.heap.size ≤ r) (hdf : a.defers = marks M ++ df) (h : Inv (X.df M) w0 Ω w a.tmps σ) (htr : σ.tr = none)
    (hev : rngE (roundE (evC call N lx) (evC call N ly) ps.toList (ps.toList ++ (dstsC lx ++ dstsC ly))) (fun a => call f (pre ++ .fn (.y a) [] :: post)) { σ with fr := dropL (ps.toList ++ (dstsC lx ++ dstsC ly)) σ.fr, tk := protT ts σ.tk } = some (ex, σ'))
    (hf : a.eval g = .func (.func f) xs1.toArray xs2.toArray) (hxs1 : DenL (Ω.prot ts) w pre xs1) (hxs2 : DenL (Ω.prot ts) w post xs2) (hpure1 : pureL pre = true) (hpure2 : pureL post = true) (hcs1 : (pre.all fun v => v.cells.all V.pm) = true) (hcs2 : (post.all fun v => v.cells.all V.pm) = true)
    (hdst : ∀ d ∈ dstsC (.rng g' ps.toList (ps.toList ++ (dstsC lx ++ dstsC ly)) lx ly), d < a.tmps.size)
    (hK : NextC X w0 ro Ω a M df σ' (dstsC (.rng g' ps.toList (ps.toList ++ (dstsC lx ++ dstsC ly)) lx ly)) (onceC (.rng g' ps.toList (ps.toList ++ (dstsC lx ++ dstsC ly)) lx ly) ++ loopC (.rng g' ps.toList (ps.toList ++ (dstsC lx ++ dstsC ly)) lx ly)) (Q ex.out)) :
    (Code.rangeFunc g ps asg body).wpIn (wideR ro) n P Q a w := by
  obtain ⟨b, T', hit, hfold⟩ := rngE_spec hev
  have hp : Plain X := by
    rcases sc.k with hp | hn
    · exact hp
    · have := h.out.1
      rw [htr] at this
      exact (hn Ω w this).elim
  have h1 := inv_tm (ks := ps.toList ++ (dstsC lx ++ dstsC ly)) (h.prot ts) rfl (fun _ _ => rfl)
  -- the function that is ranged over
  obtain ⟨R, hR, hRT⟩ : ∃ R, call f (pre ++ .fn (.y b) [] :: post) = some R ∧ itemsOf (some R) = some T' := by
    cases hc : call f (pre ++ .fn (.y b) [] :: post) with
    | none => rw [hc] at hit; cases hit
    | some R => rw [hc] at hit; exact ⟨R, rfl, hit⟩
  obtain ⟨hent, hok⟩ := hcall f _ R hR
  have hitok := hok.2 b pre post rfl
  -- the loop is entered
  generalize hσ1 : ({ σ with fr := dropL (ps.toList ++ (dstsC lx ++ dstsC ly)) σ.fr, tk := protT ts σ.tk } : St) = σ1 at hfold
  have h1 : Inv (X.df M) w0 (Ω.prot ts) w a.tmps σ1 := hσ1 ▸ h1
  have htr1 : σ1.tr = none := by rw [← hσ1]; exact htr
  obtain ⟨we, mk, dfr, M', hent1, hmk, hMn', hMl', hMs, hinv, hbe⟩ : ∃ (we : World) (mk : List Deferred) (dfr : Nat) (M' : List Nat), (∀ fn, (Instr.enterLoop fn a.tmps ps asg body ro).run P w = .ok (we.heap.size, mk)
        (we.alloc (.loop { state := .ready, pending := none, fn, tmps := a.tmps, params := ps, assign := asg, body := body, defers := dfr }))) ∧ mk ++ a.defers = marks M' ++ df ∧ M'.Nodup ∧ (∀ r ∈ M', w0.heap.size ≤ r) ∧ (M' = M ∨ (Plain X ∧ ro = none)) ∧
        Inv (X.df M') w0 (Ω.prot ts) we a.tmps σ1 ∧ Below w.heap.size w we := by
    cases ro with
    | none =>
      refine ⟨w.alloc (.deferred (some [])), [mark w.heap.size], w.heap.size, w.heap.size :: M, fun fn => ?_, ?_, ?_, fun r hr => ?_, .inr ⟨hp, rfl⟩, ?_, below_alloc _ _⟩
      · rw [run_enterLoop_outer, World.size_alloc]; rfl
      · rw [hdf]; rfl
      · refine List.nodup_cons.2 ⟨fun hm => ?_, hMn⟩
        have := (Array.getElem?_eq_some_iff.1 (h1.out.2 _ hm).2).1
        exact absurd this (Nat.lt_irrefl _)
      · rcases List.mem_cons.1 hr with rfl | hr
        · exact h1.kept.size
        · exact hMl r hr
      · have i1 := inv_below h1 (below_alloc w (.deferred (some [])))
        refine i1.sc rfl rfl rfl fun hj => ⟨hj.1, fun r hr => ?_⟩
        rcases List.mem_cons.1 hr with rfl | hr
        · exact ⟨fun hm => absurd (h1.bnd _ (mine_ne hm).1) (Nat.lt_irrefl _), World.alloc_heap_new w _⟩
        · exact hj.2 r hr
    | some l1 =>
      obtain ⟨r1, r2, r, r3⟩ := sc.r l1 rfl
      have hh := h.kept.block l1 r1 r2
      rw [r3] at hh
      exact ⟨w, [], r.defers, M, fun fn => enterLoop_inner hh fn _ _ _ _, by rw [hdf]; rfl, hMn, hMl, .inl rfl, h1, Go.RowKit.Below.refl _ _⟩
  refine wpIn_rangeFunc fun fn _ => ?_
  have hent2 := hent1 fn
  generalize hr0 : ({ state := .ready, pending := none, fn, tmps := a.tmps, params := ps, assign := asg, body := body, defers := dfr } : Loop) = r0 at hent2
  have hinvs := inv_below hinv (below_alloc we (.loop r0))
  have S : JS (X.df M') w0 (Ω.prot ts) we (we.alloc (.loop r0)) we.heap.size := by
    have hj := hinv.out
    rw [htr1] at hj
    exact ⟨hp.df M', rfl, by simp, hj, out_size hinv, hinv.kept.size, hinv.bnd⟩
  have hlt : ∀ k, (Ω.prot ts).o k ≠ .out → k < (we.alloc (.loop r0)).heap.size := fun k hk => by rw [S.hws]; exact Nat.lt_succ_of_lt (S.bnd k hk)
  have J0 : JAt (X.df M') w0 (Ω.prot ts) (we.alloc (.loop r0)) a.tmps (roundE (evC call N lx) (evC call N ly) ps.toList (ps.toList ++ (dstsC lx ++ dstsC ly))) σ1 we.heap.size b r0 (loopC lx ++ loopC ly) [] (itOwn (Ω.prot ts) we.heap.size b) (we.alloc (.loop r0)) (Ω.prot ts) σ1 none := by
    refine ⟨rfl, hinvs, ?_, fun _ _ => ⟨rfl, rfl⟩, fun k hk => ⟨hk, Nat.le_refl _⟩, fun k hk hne => ?_, fun k hk => ?_, S.lo, fun _ _ h => h, rfl, Kept.refl _ _, fun d hd _ => hd⟩
    · rw [World.alloc_heap_new, ← hr0]; rfl
    · rcases itOwn_or (Ω.prot ts) we.heap.size b k with e | ⟨_, e⟩
      · exact absurd e hne
      · exact absurd (hlt k (Own.froz_ne e)) (Nat.not_lt_of_le hk)
    · rcases itOwn_or (Ω.prot ts) we.heap.size b k with e | ⟨_, e⟩
      · exact absurd e hk
      · exact hlt k (Own.froz_ne e)
  have hm : ExtM (Ω.prot ts) (itOwn (Ω.prot ts) we.heap.size b) w (we.alloc (.loop r0)) := by
    refine ⟨fun k hk => .inl ?_, fun _ _ => Nat.le_refl _, fun k off hk _ => ?_⟩
    · rcases itOwn_or (Ω.prot ts) we.heap.size b k with e | ⟨e, _⟩
      · simp only [itOwn, froz_iff.1 hk, if_true] at e; cases e
      · exact e
    · have hk1 := h1.bnd k (Own.froz_ne hk)
      refine World.cell?_of_block ?_
      rw [heap_alloc_lt we _ (Nat.lt_of_lt_of_le hk1 hbe.size), hbe.block k hk1]
  have hY : YieldOk P (itSc (X.df M') w0 (Ω.prot ts) (we.alloc (.loop r0)) a.tmps (roundE (evC call N lx) (evC call N ly) ps.toList (ps.toList ++ (dstsC lx ++ dstsC ly))) σ1 we.heap.size b r0 (loopC lx ++ loopC ly)) (we.alloc (.loop r0)) T' := by
    refine ⟨fun Ωi wi hj => (by obtain ⟨t, _, _, _, _, _, e, _⟩ := hj; cases e), fun ro' n' b' l' tr as ys Ωi wi hj hyl hd hpm hpre => ?_⟩
    obtain ⟨Ωo, σo, st, J⟩ := itSc_at S hj
    have hlb := J.yl
    rw [hyl] at hlb
    injection hlb with hlb
    injection hlb with e1 e2
    subst e1; subst e2
    obtain ⟨σo', e2, σ2, k1, k2, k3⟩ := hfold.at hpre
    have hfo := J.fold
    rw [k1] at hfo
    injection hfo with hfo
    injection hfo with e3 e4
    subst e3; subst e4
    have scd : ScOk P (X.df M') w0 T ro := ⟨sc.y.df (.inl hp), .inl (hp.df M'), sc.r⟩
    obtain ⟨fn', tmps', asg', body', q1, q2⟩ := round_ok hx hy ox oy scd rfl (fun d hd => hdst d (by simpa [dstsC] using hd)) S (by rw [← hr0]; exact ⟨rfl, rfl, rfl, rfl⟩) J hd hpm k2
    refine ⟨fn', tmps', asg', body', q1, RoundIn.mono (q2 ro' n') fun e w4 he => ?_⟩
    obtain ⟨g1, ⟨Ωo', g2⟩, g3, g4, g5⟩ := he
    exact ⟨by rw [k3]; exact g1, itSc_of g2, g2.kept, g3, g4, g5⟩
  have hC := hitok T' hRT _ (itOwn (Ω.prot ts) we.heap.size b) (we.alloc (.loop r0)) we.heap.size xs1 xs2 (base_itOwn hlt) rfl hpure1 hpure2 (DenL.itm hm hcs1 hxs1) (DenL.itm hm hcs2 hxs2) rfl rfl (itSc_of J0) (fun _ _ hj => (by obtain ⟨t, _, _, _, _, _, e, _⟩ := hj; cases e)) hY
  refine ⟨we.heap.size, mk, we.alloc (.loop r0), { target := .fn (.func f) xs2.toArray, args := xs1.toArray ++ #[Value.func (.yield we.heap.size) #[] #[]] }, we.alloc (.loop r0), f, _, we.alloc (.loop r0), hent2, ?_, fun _ _ => trivial, ?_, fun h => by simp [wideR, Fence.wide] at h, CallsIn.mono (callsIn_wideR hC) fun e w1 he => ?_⟩
  · simp only [resolve, hf, Deferred.ofValue, Sem.run_pure]
    congr 2
    apply Array.ext'; simp [Act.eval]
  · simp only [invoke, run_callFunc hent]
    congr 2
    apply Array.ext'; simp
  · obtain ⟨x, Ωi, rfl, hj⟩ := he
    obtain ⟨Ωo, σo, st, J⟩ := itSc_at S hj
    obtain ⟨st', hf1, hf2⟩ := hfold.fold
    have hfo := J.fold
    rw [hf1] at hfo
    injection hfo with hfo
    injection hfo with e3 e4
    subst e3; subst e4
    have hend := run_endLoop (P := P) J.rcd (by simp only; split <;> simp)
    refine ⟨jumpOf st', w1.putObj we.heap.size (.loop { r0 with state := .exhausted, pending := jumpOf st' }), hend, ?_⟩
    have hfin := Plain.rcd (o := .loop { r0 with state := .exhausted, pending := jumpOf st' }) S J.inv J.d1
    have hnext := hK { a with defers := mk ++ a.defers } _ Ωo M' ⟨rfl, hmk, hMn', hMl', hMs, fun _ _ => rfl, hfin, fun d hd hds => J.fresh d ⟨fun k hk => hd.1 k (prot_box hk), fun k u p e hk => by
      obtain ⟨q, hq, _⟩ := prot_arr hk
      exact hd.2 k u q e hq⟩ (by simpa [onceC, loopC] using hds)⟩
    revert hnext
    generalize jumpOf st' = j at hf2
    subst hf2
    intro hnext
    cases ex with
    | normal => exact hnext
    | exit id => exact wpIn_exit hnext
    | ret => exact wpIn_ret hnext
theorem rng_sound (hcall : CallsOk P call) {g : Operand} {g' : Opd} {ps : Array Tmp} {asg body : Code} {lx ly : LCode} (hg : opdC g = some g') (hx : CodeOk P call N asg lx) (hy : CodeOk P call N body ly) (ox : onceC lx = []) (oy : onceC ly = []) :
    CodeOk P call N (.rangeFunc g ps asg body) (.rng g' ps.toList (ps.toList ++ (dstsC lx ++ dstsC ly)) lx ly) := by
  intro X w0 T ro n Ω w a σ σ' ex Q M df sc hpl hMn hMl hdf hev hT h hdst hfr hon hK
  simp only [evC] at hev
  split at hev
  · rename_i f caps htr hop
    split at hev
    case h_2 => cases hev
    rename_i cs ts hfrz
    split at hev
    case isFalse => cases hev
    rename_i hcs
    have hden := opd_sound h hg hop
    simp only [Den, Fk.Is] at hden
    obtain ⟨xs, hf, hxs⟩ := hden
    obtain ⟨hxs1, hpure, _⟩ := DenL.frzE (ps := ts) caps cs ts xs hfrz (fun t ht => memN_self ht) hxs
    exact rng_core hcall hx hy ox oy sc hMn hMl hdf h htr (pre := []) (post := cs) (xs1 := []) hev hf DenL.nil hxs1 rfl hpure rfl hcs hdst hK
  · rename_i f caps htr hop
    split at hev
    case h_2 => cases hev
    rename_i cs ts hfrz
    split at hev
    case isFalse => cases hev
    rename_i hcs
    have hden := opd_sound h hg hop
    simp only [Den, Fk.Is] at hden
    obtain ⟨xs, hf, hxs⟩ := hden
    obtain ⟨hxs1, hpure, _⟩ := DenL.frzE (ps := ts) caps cs ts xs hfrz (fun t ht => memN_self ht) hxs
    exact rng_core hcall hx hy ox oy sc hMn hMl hdf h htr (pre := cs) (post := []) (xs2 := []) hev hf hxs1 DenL.nil hpure rfl hcs rfl hdst hK
  · cases hev
end
end Go.Lo

/- Control. -/
namespace Go.Lo
section
variable {P : Program} {call : Nat → List V → Option V}

theorem once_loop : ∀ (c : Code) {kp : Nat → List Nat} {lc : LCode}, codeC P kp true c = some lc → onceC lc = []
  | c, kp, lc, h => by
    induction c generalizing lc with
    | region id ops draw =>
      simp only [codeC] at h
      unfold regC at h
      generalize (if draw = true then Region.before ops else #[]) = b at h
      simp only at h
      split at h
      · simp only [Option.some.injEq] at h; subst h; rfl
      · cases h
    | seq a b iha ihb =>
      simp only [codeC] at h
      split at h
      · rename_i x y hx hy
        simp only [Option.some.injEq] at h; subst h
        simp [onceC, iha _ hx, ihb _ hy]
      · cases h
    | cond c a b iha ihb =>
      simp only [codeC] at h
      split at h
      · rename_i c' x y hc hx hy
        simp only [Option.some.injEq] at h; subst h
        simp [onceC, iha _ hx, ihb _ hy]
      · cases h
    | block id a iha =>
      simp only [codeC] at h
      split at h
      · rename_i x hx
        simp only [Option.some.injEq] at h; subst h
        simp [onceC, iha _ hx]
      · cases h
    | loop a iha =>
      simp only [codeC] at h
      split at h
      · simp only [Option.some.injEq] at h; subst h; rfl
      · cases h
    | rangeFunc g ps a b iha ihb =>
      simp only [codeC] at h
      split at h
      · simp only [Option.some.injEq] at h; subst h; rfl
      · cases h
    | _ => simp only [codeC, Option.some.injEq] at h; subst h; rfl
theorem least {R : Nat → Prop} (h : ∃ k, R k) : ∃ k, R k ∧ ∀ j, R j → k ≤ j := by
  obtain ⟨k, hk⟩ := h
  induction k using Nat.strongRecOn with
  | _ k ih =>
    by_cases hj : ∃ j, j < k ∧ R j
    · obtain ⟨j, hlt, hr⟩ := hj
      exact ih j hlt hr
    · refine ⟨k, hk, fun j hr => ?_⟩
      apply Decidable.byContradiction
      intro hlt
      exact hj ⟨j, by omega, hr⟩
/-- Behind nothing. -/
theorem Arr.here {X : Sc} {w0 w : World} {ro : Option Nat} {Ω : Own} {a : Act} {M : List Nat} {df : List Deferred} {σ : St} {ks ds : List Nat} (hn : M.Nodup) (hl : ∀ r ∈ M, w0.heap.size ≤ r) (hd : a.defers = marks M ++ df) (h : Inv (X.df M) w0 Ω w a.tmps σ) :
    Arr X w0 ro Ω a M df σ ks ds a w Ω M := ⟨rfl, hd, hn, hl, .inl rfl, fun _ _ => rfl, h, fun _ hf _ => hf⟩
/-- One behind the other. -/
theorem Arr.trans {X : Sc} {w0 w1 w2 : World} {ro : Option Nat} {Ω Ω1 Ω2 : Own} {a a1 a2 : Act} {M M1 M2 : List Nat} {df : List Deferred} {σ1 σ2 : St} {ks1 ds1 ks2 ds2 ks ds : List Nat} (h : Arr X w0 ro Ω a M df σ1 ks1 ds1 a1 w1 Ω1 M1) (k : Arr X w0 ro Ω1 a1 M1 df σ2 ks2 ds2 a2 w2 Ω2 M2)
    (hk : ∀ s, s ∉ ks → s ∉ ks1 ∧ s ∉ ks2) (hd : ∀ s, s ∉ ds → s ∉ ds1 ∧ s ∉ ds2) : Arr X w0 ro Ω a M df σ2 ks ds a2 w2 Ω2 M2 := by
  refine ⟨k.size.trans h.size, k.defers, k.nodup, k.low, ?_, fun s hs => (k.keep s (hk s hs).2).trans (h.keep s (hk s hs).1), k.inv, fun d hf hds => k.fresh d (h.fresh d hf (hd d hds).1) (hd d hds).2⟩
  rcases k.same with e | e
  · rw [e]; exact h.same
  · exact .inr e
theorem Arr.mono {X : Sc} {w0 w1 : World} {ro : Option Nat} {Ω Ω1 : Own} {a a1 : Act} {M M1 : List Nat} {df : List Deferred} {σ1 : St} {ks1 ds1 ks ds : List Nat} (h : Arr X w0 ro Ω a M df σ1 ks1 ds1 a1 w1 Ω1 M1)
    (hk : ∀ s, s ∉ ks → s ∉ ks1) (hd : ∀ s, s ∉ ds → s ∉ ds1) : Arr X w0 ro Ω a M df σ1 ks ds a1 w1 Ω1 M1 :=
  ⟨h.size, h.defers, h.nodup, h.low, h.same, fun s hs => h.keep s (hk s hs), h.inv, fun d hf hds => h.fresh d hf (hd d hds)⟩
theorem Arr.pl {X : Sc} {w0 w1 : World} {ro : Option Nat} {Ω Ω1 : Own} {a a1 : Act} {M M1 : List Nat} {df : List Deferred} {σ1 : St} {ks1 ds1 : List Nat} (h : Arr X w0 ro Ω a M df σ1 ks1 ds1 a1 w1 Ω1 M1) (hp : Plain X ∨ M = []) : Plain X ∨ M1 = [] := by
  rcases h.same with e | e
  · rw [e]; exact hp
  · exact .inl e.1
theorem code_sound (hcall : CallsOk P call) (hmix : P.follows .mixedOrders = true) {N : Nat} {kp : Nat → List Nat} : ∀ (c : Code) {lp : Bool} {lc : LCode}, codeC P kp lp c = some lc → CodeOk P call N c lc := by
  intro c
  induction c with
  | skip =>
    intro lp lc hc X w0 T ro n Ω w a σ σ' ex Q M df sc hpl hMn hMl hdf hev hT h hdst hfr hon hK
    simp only [codeC, Option.some.injEq] at hc; subst hc
    simp only [evC, Option.some.injEq, Prod.mk.injEq] at hev
    obtain ⟨rfl, rfl⟩ := hev
    exact wpIn_skip (hK a w Ω M (.here hMn hMl hdf h))
  | exit id =>
    intro lp lc hc X w0 T ro n Ω w a σ σ' ex Q M df sc hpl hMn hMl hdf hev hT h hdst hfr hon hK
    simp only [codeC, Option.some.injEq] at hc; subst hc
    simp only [evC, Option.some.injEq, Prod.mk.injEq] at hev
    obtain ⟨rfl, rfl⟩ := hev
    exact wpIn_exit (hK a w Ω M (.here hMn hMl hdf h))
  | ret =>
    intro lp lc hc X w0 T ro n Ω w a σ σ' ex Q M df sc hpl hMn hMl hdf hev hT h hdst hfr hon hK
    simp only [codeC, Option.some.injEq] at hc; subst hc
    simp only [evC, Option.some.injEq, Prod.mk.injEq] at hev
    obtain ⟨rfl, rfl⟩ := hev
    exact wpIn_ret (hK a w Ω M (.here hMn hMl hdf h))
  | region id ops draw =>
    intro lp lc hc X w0 T ro n Ω w a σ σ' ex Q M df sc hpl hMn hMl hdf hev hT h hdst hfr hon hK
    simp only [codeC] at hc
    refine region_sound (sc.y.df hpl) hT hcall hmix hc h hev hdst hfr (fun hex => ?_)
    subst hex
    intro a' w' Ω' hsz hdf' htm hinv hfresh
    exact hK a' w' Ω' M ⟨hsz, hdf'.trans hdf, hMn, hMl, .inl rfl, htm, hinv, hfresh⟩
  | seq x y ihx ihy =>
    intro lp lc hc X w0 T ro n Ω w a σ σ' ex Q M df sc hpl hMn hMl hdf hev hT h hdst hfr hon hK
    simp only [codeC] at hc
    split at hc
    · rename_i lx ly hx hy
      simp only [Option.some.injEq] at hc; subst hc
      obtain ⟨hon1, hon2⟩ := hon
      simp only [onceC, loopC, dstsC, List.mem_append] at hon1 hon2 hdst hfr hK
      rw [List.nodup_append] at hon1
      have honx : Once lx := ⟨hon1.1, fun d hd hl => hon2 d (.inl hd) (.inl hl)⟩
      have hony : Once ly := ⟨hon1.2.1, fun d hd hl => hon2 d (.inr hd) (.inr hl)⟩
      simp only [evC] at hev
      refine wpIn_seq ?_
      split at hev
      · rename_i σ1 h1
        refine ihx hx sc hpl hMn hMl hdf h1 ((evC_tr ly hev).upTo hT) h (fun d hd => hdst d (.inl hd)) (fun d hd => hfr d (.inl hd)) honx ?_
        intro a' w' Ω' M' A
        refine ihy hy sc (A.pl hpl) A.nodup A.low A.defers hev hT A.inv (fun d hd => by rw [A.size]; exact hdst d (.inr hd)) (fun d hd => A.fresh d (hfr d (.inr hd)) (fun hm => ?_)) hony ?_
        · rcases List.mem_append.1 hm with hm | hm
          · exact hon1.2.2 d hm d hd rfl
          · exact hon2 d (.inr hd) (.inl hm)
        · intro a'' w'' Ω'' M'' B
          refine hK a'' w'' Ω'' M'' (A.trans B (fun s hs => ?_) (fun s hs => ?_))
          · simp only [List.mem_append, not_or] at hs; exact hs
          · simp only [List.mem_append, not_or] at hs ⊢; exact ⟨⟨hs.1.1, hs.2.1⟩, ⟨hs.1.2, hs.2.2⟩⟩
      · rename_i hne
        refine ihx hx sc hpl hMn hMl hdf hev hT h (fun d hd => hdst d (.inl hd)) (fun d hd => hfr d (.inl hd)) honx ?_
        intro a' w' Ω' M' A
        have := hK a' w' Ω' M' (A.mono (fun s hs => by simp only [List.mem_append, not_or] at hs; exact hs.1) (fun s hs => by
          simp only [List.mem_append, not_or] at hs ⊢
          exact ⟨hs.1.1, hs.2.1⟩))
        cases ex with
        | normal => exact (hne _ hev).elim
        | exit id => exact this
        | ret => exact this
    · cases hc
  | cond c x y ihx ihy =>
    intro lp lc hc X w0 T ro n Ω w a σ σ' ex Q M df sc hpl hMn hMl hdf hev hT h hdst hfr hon hK
    simp only [codeC] at hc
    split at hc
    · rename_i c' lx ly hcc hx hy
      simp only [Option.some.injEq] at hc; subst hc
      obtain ⟨hon1, hon2⟩ := hon
      simp only [onceC, loopC, dstsC, List.mem_append] at hon1 hon2 hdst hfr hK
      rw [List.nodup_append] at hon1
      simp only [evC] at hev
      split at hev
      · rename_i t ht
        have hd := opd_sound h hcc ht
        simp only [Den] at hd
        refine wpIn_cond hd ?_
        cases t with
        | true =>
          simp only [if_true] at hev ⊢
          refine ihx hx sc hpl hMn hMl hdf hev hT h (fun d hd => hdst d (.inl hd)) (fun d hd => hfr d (.inl hd)) ⟨hon1.1, fun d hd hl => hon2 d (.inl hd) (.inl hl)⟩ ?_
          intro a' w' Ω' M' A
          exact hK a' w' Ω' M' (A.mono (fun s hs => by simp only [List.mem_append, not_or] at hs; exact hs.1) (fun s hs => by
            simp only [List.mem_append, not_or] at hs ⊢; exact ⟨hs.1.1, hs.2.1⟩))
        | false =>
          simp only [Bool.false_eq_true, if_false] at hev ⊢
          refine ihy hy sc hpl hMn hMl hdf hev hT h (fun d hd => hdst d (.inr hd)) (fun d hd => hfr d (.inr hd)) ⟨hon1.2.1, fun d hd hl => hon2 d (.inr hd) (.inr hl)⟩ ?_
          intro a' w' Ω' M' A
          exact hK a' w' Ω' M' (A.mono (fun s hs => by simp only [List.mem_append, not_or] at hs; exact hs.2) (fun s hs => by
            simp only [List.mem_append, not_or] at hs ⊢; exact ⟨hs.1.2, hs.2.2⟩))
      · cases hev
    · cases hc
  | block id x ih =>
    intro lp lc hc X w0 T ro n Ω w a σ σ' ex Q M df sc hpl hMn hMl hdf hev hT h hdst hfr hon hK
    simp only [codeC] at hc
    split at hc
    · rename_i lx hx
      simp only [Option.some.injEq] at hc; subst hc
      simp only [evC] at hev
      refine wpIn_block ?_
      split at hev
      · rename_i j σ1 h1
        split at hev
        · rename_i hj
          simp only [Option.some.injEq, Prod.mk.injEq] at hev
          obtain ⟨rfl, rfl⟩ := hev
          refine ih hx sc hpl hMn hMl hdf h1 hT h hdst hfr hon ?_
          intro a' w' Ω' M' A
          simp only [Ex.out, Exit.inBlock, if_pos hj]
          exact hK a' w' Ω' M' A
        · rename_i hj
          simp only [Option.some.injEq, Prod.mk.injEq] at hev
          obtain ⟨rfl, rfl⟩ := hev
          refine ih hx sc hpl hMn hMl hdf h1 hT h hdst hfr hon ?_
          intro a' w' Ω' M' A
          simp only [Ex.out, Exit.inBlock, if_neg hj]
          exact hK a' w' Ω' M' A
      · rename_i hne
        refine ih hx sc hpl hMn hMl hdf hev hT h hdst hfr hon ?_
        intro a' w' Ω' M' A
        have := hK a' w' Ω' M' A
        cases ex with
        | normal => exact this
        | exit id => exact (hne _ _ hev).elim
        | ret => exact this
    · cases hc
  | loop x ih =>
    intro lp lc hc X w0 T ro n Ω w a σ σ' ex Q M df sc hpl hMn hMl hdf hev hT h hdst hfr hon hK
    simp only [codeC] at hc
    split at hc
    · rename_i lx hx
      simp only [Option.some.injEq] at hc; subst hc
      simp only [evC] at hev
      have honce := once_loop x hx
      simp only [onceC, loopC, dstsC, List.nil_append] at hdst hK
      -- what holds before a round, with so many rounds at most
      let R : Nat → Act → World → Prop := fun k a1 w1 => ∃ Ω1 σ1 M1, Arr X w0 ro Ω a M df σ1 (dstsC lx) (loopC lx) a1 w1 Ω1 M1 ∧ iter (evC call N lx) k σ1 = some (ex, σ')
      let μ : Act → World → Nat := fun a1 w1 => open Classical in if hk : ∃ k, R k a1 w1 then Classical.choose (least hk) else 0
      have hμ : ∀ k a1 w1, R k a1 w1 → R (μ a1 w1) a1 w1 ∧ μ a1 w1 ≤ k := by
        intro k a1 w1 hk
        have hex : ∃ k, R k a1 w1 := ⟨k, hk⟩
        have hs := Classical.choose_spec (least hex)
        simp only [μ, dif_pos hex]
        exact ⟨hs.1, hs.2 k hk⟩
      refine wpIn_loop (fun a1 w1 => ∃ k, R k a1 w1) μ ⟨N, Ω, σ, M, .here hMn hMl hdf h, hev⟩ ?_
      rintro a1 w1 ⟨k, hk⟩
      obtain ⟨⟨Ω1, σ1, M1, A, hit⟩, _⟩ := hμ k a1 w1 hk
      generalize hm : μ a1 w1 = m at hit
      cases m with
      | zero => simp [iter] at hit
      | succ m =>
        simp only [iter] at hit
        split at hit
        · rename_i σ2 h2
          refine ih hx sc (A.pl hpl) A.nodup A.low A.defers h2 ((iter_tr (fun _ _ _ h => evC_tr lx h) hit).upTo hT) A.inv (fun d hd => by rw [A.size]; exact hdst d hd) (fun d hd => by rw [honce] at hd; cases hd) ⟨by rw [honce]; exact List.nodup_nil, fun d hd => by rw [honce] at hd; cases hd⟩ ?_
          intro a' w' Ω' M' B
          have hR : R m a' w' := ⟨Ω', σ2, M', A.trans B (fun s hs => ⟨hs, hs⟩) (fun s hs => ⟨hs, by rw [honce, List.nil_append]; exact hs⟩), hit⟩
          refine ⟨⟨m, hR⟩, ?_⟩
          have := (hμ m a' w' hR).2
          omega
        · rename_i hne
          refine ih hx sc (A.pl hpl) A.nodup A.low A.defers hit hT A.inv (fun d hd => by rw [A.size]; exact hdst d hd) (fun d hd => by rw [honce] at hd; cases hd) ⟨by rw [honce]; exact List.nodup_nil, fun d hd => by rw [honce] at hd; cases hd⟩ ?_
          intro a' w' Ω' M' B
          have := hK a' w' Ω' M' (A.trans B (fun s hs => ⟨hs, hs⟩) (fun s hs => ⟨hs, by rw [honce, List.nil_append]; exact hs⟩))
          cases ex with
          | normal => exact (hne _ hit).elim
          | exit id => exact this
          | ret => exact this
    · cases hc
  | rangeFunc g ps x y ihx ihy =>
    intro lp lc hc
    simp only [codeC] at hc
    split at hc
    · rename_i g' lx ly hg hx hy
      simp only [Option.some.injEq] at hc; subst hc
      exact rng_sound hcall hg (ihx hx) (ihy hy) (once_loop x hx) (once_loop y hy)
    · cases hc
  | _ =>
    intro lp lc hc X w0 T ro n Ω w a σ σ' ex Q M df sc hpl hMn hMl hdf hev hT h hdst hfr hon hK
    simp only [codeC, Option.some.injEq] at hc; subst hc
    simp only [evC] at hev
    cases hev
end
end Go.Lo

/- Function bodies. -/
namespace Go.Lo
open Go.RowKit (Below)
section
variable {P : Program} {X : Sc} {w0 w : World} {Ω : Own} {call : Nat → List V → Option V} {σ : St}

theorem loadAt_var {t : TypeId} {ad : Addr} : (Instr.loadAt t (.pointer (some ad))).run P w = (loadVar t ad).run P w := by
  simp [Instr.loadAt, Instr.sureAddr]
def readRV (tm : Array Value) : ResultVar → Sem Value
  | .tmp t => pure (tm.getD t undef)
  | .cell a t => do loadVar t (← asAddr (tm.getD a undef))
theorem run_results {fn : Func} {tm : Array Value} {xs : List Value} (h : (fn.results.toList.mapM (readRV tm)).run P w = .ok xs w) : (results fn tm).run P w = .ok (if h : xs.length = 1 then xs[0] else .tuple xs.toArray) w := by
  change (do
    let vs ← fn.results.mapM (readRV tm)
    pure (if h : vs.size = 1 then vs[0] else Value.tuple vs) : Sem Value).run P w = _
  rw [Array.mapM_eq_mapM_toList, Sem.run_bind, Sem.run_map, h]
  simp only [Result.andThen_ok]
  rfl
/-- The results, read. -/
theorem rvs_sound {tm : Array Value} (h : Inv X w0 Ω w tm σ) : ∀ {rs : List ResultVar} {ls : List RV} {vs : List V}, rvsC P rs = some ls → rvs σ.fr ls = some vs →
    ∃ xs, (rs.mapM (readRV tm)).run P w = .ok xs w ∧ DenL Ω w vs xs
  | [], ls, vs, hc, hv => by
    simp only [rvsC, Option.some.injEq] at hc; subst hc
    simp only [rvs, Option.some.injEq] at hv; subst hv
    exact ⟨[], by simp, DenL.nil⟩
  | r :: rs, ls, vs, hc, hv => by
    simp only [rvsC] at hc
    split at hc
    · rename_i x xs hx hxs
      simp only [Option.some.injEq] at hc; subst hc
      cases r with
      | tmp t =>
        simp only [rvC, Option.some.injEq] at hx; subst hx
        simp only [rvs] at hv
        split at hv
        · rename_i v vs' h1 h2
          simp only [Option.some.injEq] at hv; subst hv
          obtain ⟨ys, g1, g2⟩ := rvs_sound h hxs h2
          have hd := opd_sound (a := { tmps := tm, defers := [] }) h (x := .tmp t) (y := .t t) rfl h1
          refine ⟨tm.getD t undef :: ys, ?_, DenL.cons hd g2⟩
          simp only [List.mapM_cons, readRV, Sem.run_bind, Sem.run_pure, Result.andThen_ok, g1]
        · cases hv
      | cell ad t =>
        simp only [rvC] at hx
        split at hx
        · rename_i n hn
          simp only [Option.some.injEq] at hx; subst hx
          simp only [rvs] at hv
          split at hv
          · rename_i cs vs' h1 h2
            split at hv
            · rename_i v hp
              simp only [Option.some.injEq] at hv; subst hv
              obtain ⟨ys, g1, g2⟩ := rvs_sound h hxs h2
              obtain ⟨_, hs⟩ := h.slot ad _ h1
              simp only [DenS] at hs
              obtain ⟨b, zs, T, e1, e2, e3, e4, e5⟩ := hs
              obtain ⟨y, k1, k2⟩ := load_cells (P := P) (base := 0) (off := 0) (b := b) hn e4 (fun j z hj => by
                rw [Nat.zero_add, cell_of_row w b j _ T (0, 0) e3]
                simpa using hj) hp
              rw [loadAt_var] at k1
              refine ⟨y :: ys, ?_, DenL.cons k2 g2⟩
              simp only [Nat.add_zero] at k1
              simp only [List.mapM_cons, readRV, Sem.run_bind, Sem.run_pure, Result.andThen_ok, g1, e1, asAddr, k1]
            · cases hv
          · cases hv
        · cases hx
    · cases hc
end
end Go.Lo

/- What a function gives back. -/
namespace Go.Lo
section
variable {w : World} {Ω Ω1 : Own} {tk : List (Nat × Nat × Bool)}

def posN (t : Nat) : List Nat → Option Nat
  | [] => none
  | x :: xs => if x = t then some 0 else (posN t xs).map (· + 1)
theorem posN_get : ∀ {l : List Nat} {t k : Nat}, posN t l = some k → l[k]? = some t
  | x :: xs, t, k, h => by
    simp only [posN] at h
    split at h
    · rename_i e; injection h with h; subst h; subst e; rfl
    · cases hp : posN t xs with
      | none => rw [hp] at h; cases h
      | some j =>
        rw [hp] at h
        simp only [Option.map_some, Option.some.injEq] at h; subst h
        simpa using posN_get hp
theorem posN_of : ∀ {l : List Nat} {t k : Nat}, l.Nodup → l[k]? = some t → posN t l = some k
  | x :: xs, t, 0, hn, h => by simp only [List.getElem?_cons_zero, Option.some.injEq] at h; simp [posN, h]
  | x :: xs, t, k + 1, hn, h => by
    simp only [List.getElem?_cons_succ] at h
    have hne : x ≠ t := fun e => (List.nodup_cons.1 hn).1 (e ▸ List.mem_of_getElem? h)
    simp only [posN, if_neg hne, posN_of (List.nodup_cons.1 hn).2 h, Option.map_some]
/-- The own map for the caller. 'U': the arrays that are given with their ownership. -/
def Own.fin (Ω B : Own) (n0 : Nat) (U : List Nat) : Own where
  o b := if b < n0 then B.o b else match Ω.o b with
    | .arr t p => (match posN t U with
      | some k => .arr k p
      | none => .frz)
    | .frz => .frz
    | _ => .out
  lim b := if b < n0 then B.lim b else Ω.lim b
  cur k := match U[k]? with
    | some t => Ω.cur t
    | none => none
  tsz k := match U[k]? with
    | some t => Ω.tsz t
    | none => 0
/-- Threading: what was listed stays listed; nothing is listed twice. -/
structure Lists (us us' : List Nat × List Nat) : Prop where
  pre : us.1 <+: us'.1
  sub : ∀ t ∈ us.2, t ∈ us'.2
  nodup : us.1.Nodup → us'.1.Nodup
  apart : (∀ t ∈ us.1, t ∉ us.2) → ∀ t ∈ us'.1, t ∉ us'.2
theorem Lists.refl (us : List Nat × List Nat) : Lists us us := ⟨List.prefix_refl _, fun _ h => h, fun h => h, fun h => h⟩
theorem Lists.trans {a b c : List Nat × List Nat} (h : Lists a b) (k : Lists b c) : Lists a c :=
  ⟨h.pre.trans k.pre, fun t ht => k.sub t (h.sub t ht), fun x => k.nodup (h.nodup x), fun x => k.apart (h.apart x)⟩
theorem Lists.dum {us gs : List Nat} (h : dumOk us gs = true) : Lists (us, gs) (us ++ [dumT us.length], gs) := by
  unfold dumOk at h
  simp only [Bool.and_eq_true, Bool.not_eq_true'] at h
  refine ⟨List.prefix_append _ _, fun _ h => h, fun hn => ?_, fun ha s hs => ?_⟩
  · rw [List.nodup_append]
    refine ⟨hn, by simp, fun a ha b hb e => ?_⟩
    rw [List.mem_singleton] at hb
    subst hb; subst e
    exact not_mem_of_memN h.1 ha
  · rcases List.mem_append.1 hs with hs | hs
    · exact ha s hs
    · rw [List.mem_singleton] at hs; subst hs
      exact not_mem_of_memN h.2
mutual
theorem fin_lists : ∀ (v v' : V) (us us' : List Nat × List Nat), v.fin tk us = some (v', us') → Lists us us'
  | .bool _, v', us, us', h => by simp only [V.fin, Option.some.injEq, Prod.mk.injEq] at h; rw [← h.2]; exact Lists.refl us
  | .int _ _, v', us, us', h => by simp only [V.fin, Option.some.injEq, Prod.mk.injEq] at h; rw [← h.2]; exact Lists.refl us
  | .nil, v', (us, gs), us', h => by
    simp only [V.fin] at h
    split at h
    · rename_i hd
      simp only [Option.some.injEq, Prod.mk.injEq] at h
      rw [← h.2]
      exact Lists.dum hd
    · cases h
  | .sl none _ _, v', (us, gs), us', h => by
    simp only [V.fin] at h
    split at h
    · rename_i hd
      simp only [Option.some.injEq, Prod.mk.injEq] at h
      rw [← h.2]
      exact Lists.dum hd
    · cases h
  | .sl (some t) sz es, v', (us, gs), us', h => by
    simp only [V.fin] at h
    split at h
    · cases h
    · rename_i hu
      have hu : t ∉ us := not_mem_of_memN (by simpa using hu)
      split at h
      · rename_i hc
        simp only [Option.some.injEq, Prod.mk.injEq] at h
        rw [← h.2]
        refine ⟨List.prefix_append _ _, fun _ h => h, fun hn => ?_, fun ha s hs => ?_⟩
        · rw [List.nodup_append]
          refine ⟨hn, by simp, fun a ha b hb e => ?_⟩
          rw [List.mem_singleton] at hb
          subst hb; subst e
          exact hu ha
        · rcases List.mem_append.1 hs with hs | hs
          · exact ha s hs
          · rw [List.mem_singleton] at hs; subst hs
            exact not_mem_of_memN hc.2
      · split at h
        · rename_i hd
          simp only [Option.some.injEq, Prod.mk.injEq] at h
          rw [← h.2]
          refine Lists.trans (b := (us, t :: gs)) ⟨List.prefix_refl _, fun s hs => List.mem_cons_of_mem _ hs, fun hn => hn, fun ha s hs => ?_⟩ (Lists.dum hd)
          intro hm
          rcases List.mem_cons.1 hm with rfl | hm
          · exact hu hs
          · exact ha s hs hm
        · cases h
  | .agg cs, v', us, us', h => by
    simp only [V.fin] at h
    split at h
    · rename_i cs' us2 h2
      simp only [Option.some.injEq, Prod.mk.injEq] at h
      rw [← h.2]
      exact finL_lists cs cs' us us2 h2
    · cases h
  | .und, v', us, us', h => by simp [V.fin] at h
  | .dead, v', us, us', h => by simp [V.fin] at h
  | .tup _, v', us, us', h => by simp [V.fin] at h
  | .fn _ _, v', us, us', h => by simp [V.fin] at h
  | .ref _ _, v', us, us', h => by simp [V.fin] at h
  | .cref _, v', us, us', h => by simp [V.fin] at h
  | .eref _ _ _ _ _, v', us, us', h => by simp [V.fin] at h
  | .box _, v', us, us', h => by simp [V.fin] at h
theorem finL_lists : ∀ (vs vs' : List V) (us us' : List Nat × List Nat), finL tk vs us = some (vs', us') → Lists us us'
  | [], vs', us, us', h => by simp only [finL, Option.some.injEq, Prod.mk.injEq] at h; rw [← h.2]; exact Lists.refl us
  | v :: vs, vs', us, us', h => by
    simp only [finL] at h
    split at h
    · rename_i v' us1 h1
      split at h
      · rename_i vs2 us2 h2
        simp only [Option.some.injEq, Prod.mk.injEq] at h
        rw [← h.2]
        exact (fin_lists v v' us us1 h1).trans (finL_lists vs vs2 us1 us2 h2)
      · cases h
    · cases h
end
/-- What must be known of the two own maps. -/
structure FinOk (Ω Ω1 : Own) (w : World) (U G : List Nat) : Prop where
  ext : ExtM Ω Ω1 w w
  lim : ∀ b t p, Ω.o b = .arr t p → Ω.lim b = Ω1.lim b
  own : ∀ b t p k, Ω.o b = .arr t p → U[k]? = some t → Ω1.o b = .arr k p ∧ Ω1.tsz k = Ω.tsz t ∧ Ω1.cur k = Ω.cur t
  give : ∀ b t p, Ω.o b = .arr t p → t ∈ G → Ω1.froz b
mutual
theorem Den.fin {U G : List Nat} (hf : FinOk Ω Ω1 w U G) : ∀ (v v' : V) (us us' : List Nat × List Nat) (x : Value), v.fin tk us = some (v', us') → us'.1 <+: U → (∀ t ∈ us'.2, t ∈ G) → Den Ω w v x → Den Ω1 w v' x
  | .bool _, v', us, us', x, h, _, _, hd => by simp only [V.fin, Option.some.injEq, Prod.mk.injEq] at h; rw [← h.1]; exact hd
  | .int _ _, v', us, us', x, h, _, _, hd => by simp only [V.fin, Option.some.injEq, Prod.mk.injEq] at h; rw [← h.1]; exact hd
  | .nil, v', (us, gs), us', x, h, _, _, hd => by
    simp only [V.fin] at h
    split at h
    · simp only [Option.some.injEq, Prod.mk.injEq] at h; rw [← h.1]; exact hd
    · cases h
  | .sl none sz es, v', (us, gs), us', x, h, _, _, hd => by
    simp only [V.fin] at h
    split at h
    · simp only [Option.some.injEq, Prod.mk.injEq] at h; rw [← h.1]
      exact Den.extM hf.ext _ _ rfl hd
    · cases h
  | .sl (some t) sz es, v', (us, gs), us', x, h, hp, hg, hd => by
    simp only [V.fin] at h
    simp only [Den] at hd
    obtain ⟨b, cap, p, h1, h2, h3, h4, h5⟩ := hd
    have hE : DenE Ω1 w es sz b 0 := DenE.extM hf.ext es sz b 0 (Nat.le_of_eq (hf.lim b t p h2)) (fun _ _ => rfl) h5
    split at h
    · cases h
    · split at h
      · simp only [Option.some.injEq, Prod.mk.injEq] at h
        obtain ⟨rfl, rfl⟩ := h
        have hk : U[us.length]? = some t := by
          obtain ⟨r, rfl⟩ := hp
          simp
        obtain ⟨g1, g2, g3⟩ := hf.own b t p us.length h2 hk
        simp only [Den]
        exact ⟨b, cap, p, h1, g1, by rw [g2]; exact h3, by rw [g3]; exact h4, hE⟩
      · split at h
        · simp only [Option.some.injEq, Prod.mk.injEq] at h
          obtain ⟨rfl, rfl⟩ := h
          simp only [Den]
          exact .inr ⟨b, 0, cap, h1, hf.give b t p h2 (hg t (by simp)), hE⟩
        · cases h
  | .agg cs, v', us, us', x, h, hp, hg, hd => by
    simp only [V.fin] at h
    split at h
    · rename_i cs' us2 h2
      simp only [Option.some.injEq, Prod.mk.injEq] at h
      obtain ⟨rfl, rfl⟩ := h
      simp only [Den] at hd ⊢
      obtain ⟨xs, h3, h4⟩ := hd
      exact ⟨xs, h3, DenL.fin hf cs cs' us us2 xs h2 hp hg h4⟩
    · cases h
  | .und, v', us, us', x, h, _, _, _ => by simp [V.fin] at h
  | .dead, v', us, us', x, h, _, _, _ => by simp [V.fin] at h
  | .tup _, v', us, us', x, h, _, _, _ => by simp [V.fin] at h
  | .fn _ _, v', us, us', x, h, _, _, _ => by simp [V.fin] at h
  | .ref _ _, v', us, us', x, h, _, _, _ => by simp [V.fin] at h
  | .cref _, v', us, us', x, h, _, _, _ => by simp [V.fin] at h
  | .eref _ _ _ _ _, v', us, us', x, h, _, _, _ => by simp [V.fin] at h
  | .box _, v', us, us', x, h, _, _, _ => by simp [V.fin] at h
theorem DenL.fin {U G : List Nat} (hf : FinOk Ω Ω1 w U G) : ∀ (vs vs' : List V) (us us' : List Nat × List Nat) (xs : List Value), finL tk vs us = some (vs', us') → us'.1 <+: U → (∀ t ∈ us'.2, t ∈ G) → DenL Ω w vs xs → DenL Ω1 w vs' xs
  | [], vs', us, us', xs, h, _, _, hd => by
    simp only [finL, Option.some.injEq, Prod.mk.injEq] at h; rw [← h.1]
    simpa [DenL] using hd
  | v :: vs, vs', us, us', xs, h, hp, hg, hd => by
    simp only [finL] at h
    split at h
    · rename_i v' us1 h1
      split at h
      · rename_i vs2 us2 h2
        simp only [Option.some.injEq, Prod.mk.injEq] at h
        obtain ⟨rfl, rfl⟩ := h
        simp only [DenL] at hd
        obtain ⟨x, ys, rfl, h3, h4⟩ := hd
        have hl := finL_lists vs vs2 us1 us2 h2
        exact DenL.cons (Den.fin hf v v' us us1 x h1 (hl.pre.trans hp) (fun t ht => hg t (hl.sub t ht)) h3) (DenL.fin hf vs vs2 us1 us2 ys h2 hp hg h4)
      · cases h
    · cases h
end
mutual
/-- The arrays of what is given back. -/
theorem fin_tks {U : List Nat} : ∀ (v v' : V) (us us' : List Nat × List Nat), v.fin tk us = some (v', us') → us'.1 <+: U → ∀ k n, (k, n) ∈ v'.tks → ∃ t, U[k]? = some t ∧ get tk t = some (n, true)
  | .bool _, v', us, us', h, _, k, n, hk => by simp only [V.fin, Option.some.injEq, Prod.mk.injEq] at h; rw [← h.1] at hk; simp [V.tks] at hk
  | .int _ _, v', us, us', h, _, k, n, hk => by simp only [V.fin, Option.some.injEq, Prod.mk.injEq] at h; rw [← h.1] at hk; simp [V.tks] at hk
  | .nil, v', (us, gs), us', h, _, k, n, hk => by
    simp only [V.fin] at h
    split at h
    · simp only [Option.some.injEq, Prod.mk.injEq] at h; rw [← h.1] at hk; simp [V.tks] at hk
    · cases h
  | .sl none _ _, v', (us, gs), us', h, _, k, n, hk => by
    simp only [V.fin] at h
    split at h
    · simp only [Option.some.injEq, Prod.mk.injEq] at h; rw [← h.1] at hk; simp [V.tks] at hk
    · cases h
  | .sl (some t) sz es, v', (us, gs), us', h, hp, k, n, hk => by
    simp only [V.fin] at h
    split at h
    · cases h
    · split at h
      · rename_i hc
        simp only [Option.some.injEq, Prod.mk.injEq] at h
        obtain ⟨rfl, rfl⟩ := h
        simp only [V.tks, List.mem_singleton, Prod.mk.injEq] at hk
        obtain ⟨rfl, rfl⟩ := hk
        obtain ⟨r, rfl⟩ := hp
        exact ⟨t, by simp, hc.1⟩
      · split at h
        · simp only [Option.some.injEq, Prod.mk.injEq] at h
          obtain ⟨rfl, rfl⟩ := h
          simp [V.tks] at hk
        · cases h
  | .agg cs, v', us, us', h, hp, k, n, hk => by
    simp only [V.fin] at h
    split at h
    · rename_i cs' us2 h2
      simp only [Option.some.injEq, Prod.mk.injEq] at h
      obtain ⟨rfl, rfl⟩ := h
      exact finL_tks cs cs' us us2 h2 hp k n (by simpa [V.tks] using hk)
    · cases h
  | .und, v', us, us', h, _, _, _, _ => by simp [V.fin] at h
  | .dead, v', us, us', h, _, _, _, _ => by simp [V.fin] at h
  | .tup _, v', us, us', h, _, _, _, _ => by simp [V.fin] at h
  | .fn _ _, v', us, us', h, _, _, _, _ => by simp [V.fin] at h
  | .ref _ _, v', us, us', h, _, _, _, _ => by simp [V.fin] at h
  | .cref _, v', us, us', h, _, _, _, _ => by simp [V.fin] at h
  | .eref _ _ _ _ _, v', us, us', h, _, _, _, _ => by simp [V.fin] at h
  | .box _, v', us, us', h, _, _, _, _ => by simp [V.fin] at h
theorem finL_tks {U : List Nat} : ∀ (vs vs' : List V) (us us' : List Nat × List Nat), finL tk vs us = some (vs', us') → us'.1 <+: U → ∀ k n, (k, n) ∈ tksL vs' → ∃ t, U[k]? = some t ∧ get tk t = some (n, true)
  | [], vs', us, us', h, _, k, n, hk => by
    simp only [finL, Option.some.injEq, Prod.mk.injEq] at h; rw [← h.1] at hk
    simp [tksL] at hk
  | v :: vs, vs', us, us', h, hp, k, n, hk => by
    simp only [finL] at h
    split at h
    · rename_i v' us1 h1
      split at h
      · rename_i vs2 us2 h2
        simp only [Option.some.injEq, Prod.mk.injEq] at h
        obtain ⟨rfl, rfl⟩ := h
        simp only [tksL, List.mem_append] at hk
        rcases hk with hk | hk
        · exact fin_tks v v' us us1 h1 ((finL_lists vs vs2 us1 us2 h2).pre.trans hp) k n hk
        · exact finL_tks vs vs2 us1 us2 h2 hp k n hk
      · cases h
    · cases h
end
end
end Go.Lo

/- Functions. -/
namespace Go.Lo
open Go.RowKit (Below)
section
variable {P : Program} {X : Sc} {w0 w : World} {Ω Ω0 : Own} {call : Nat → List V → Option V} {σ : St} {tm : Array Value}

/-- A walk that may turn nothing that was there. -/
def scOf (Ω0 : Own) : Sc where
  x _ := False
  o := Ω0.o
  lim := Ω0.lim
  j tr Ω _ := tr = none ∧ Ω.yl = none
  st h s := ⟨h.1, s.yl.trans h.2⟩
theorem plain_scOf (Ω0 : Own) : Plain (scOf Ω0) := ⟨fun _ _ _ h => h.1, fun _ _ _ _ _ _ _ _ h g => ⟨h.1, g.yl.trans h.2⟩⟩
/-- The marks are taken. -/
structure Taken (M : List Nat) (w w' : World) : Prop where
  os : w'.os = w.os
  tape : w'.tape = w.tape
  output : w'.output = w.output
  size : w'.heap.size = w.heap.size
  block : ∀ b, b ∉ M → w'.heap[b]? = w.heap[b]?
  gone : ∀ b, b ∈ M → w'.heap[b]? = some (.deferred none)
theorem leaves_marks {P : Program} {F : Fence} {n : Nat} {fn : Func} {tmps : Array Value} {R : Ending → World → Prop} : ∀ (M : List Nat) (w : World), M.Nodup → (∀ r ∈ M, w.heap[r]? = some (.deferred (some []))) →
    (∀ w', Taken M w w' → LeavesIn F n P fn tmps R [] .returning w') → LeavesInM F n P fn tmps R (marks M) .returning w
  | [], w, _, _, h => h w ⟨rfl, rfl, rfl, rfl, fun _ _ => rfl, fun _ hb => by cases hb⟩
  | r :: M, w, hn, hM, h => by
    obtain ⟨h1, h2⟩ := List.nodup_cons.1 hn
    refine ⟨by simp, .inl ⟨r, w.putObj r (.deferred none), rfl, run_takeDeferred (hM r (by simp)), ?_⟩⟩
    have hlt := (Array.getElem?_eq_some_iff.1 (hM r (by simp))).1
    refine leaves_marks M _ h2 (fun s hs => ?_) fun w' t => h w' ⟨t.os, t.tape, t.output, t.size.trans World.putObj_size, fun b hb => ?_, fun b hb => ?_⟩
    · rw [World.putObj_heap_other (fun e => h1 (by subst e; exact hs))]; exact hM s (by simp [hs])
    · simp only [List.mem_cons, not_or] at hb
      rw [t.block b hb.2, World.putObj_heap_other hb.1]
    · by_cases hs : b ∈ M
      · exact t.gone b hs
      · rcases List.mem_cons.1 hb with rfl | hb
        · rw [t.block b hs, World.putObj_heap_same hlt]
        · exact absurd hb hs
theorem inv_taken {M : List Nat} {w' : World} {Ωs : Own} {ws : World} (hp : Plain X) (hs : X.j none Ωs ws) (hws : ∀ r ∈ M, ws.heap.size ≤ r) (h : Inv (X.df M) w0 Ω w tm σ) (hl : ∀ r ∈ M, w0.heap.size ≤ r) (t : Taken M w w') : Inv X w0 Ω w' tm σ := by
  have h0 : Inv X w0 Ω w tm σ := h.sc rfl rfl rfl fun hj => hj.1
  have htr := hp.1 _ _ _ h0.out
  have key : ∀ b off, w'.cell? ⟨b, off, none⟩ = w.cell? ⟨b, off, none⟩ := fun b off => by
    by_cases hb : b ∈ M
    · unfold World.cell?
      rw [t.gone b hb, (h.out.2 b hb).2]
    · exact World.cell?_of_block (t.block b hb)
  refine h0.other (tr' := σ.tr) ⟨t.os.trans h0.kept.os, t.tape.trans h0.kept.tape, t.output.trans h0.kept.output, by rw [t.size]; exact h0.kept.size, fun b hb hX => ?_⟩ (Nat.le_of_eq t.size.symm) (fun b hm => t.block b fun hb => (h.out.2 b hb).1 hm) (fun b off _ _ => key b off) ?_
  · rw [t.block b (fun hm => absurd (hl b hm) (Nat.not_le_of_lt hb))]; exact h0.kept.block b hb hX
  · have hj := h0.out
    rw [htr] at hj ⊢
    exact hp.2 none Ωs ws Ω Ω w w' hs hj ⟨t.os, t.tape, t.output, Nat.le_of_eq t.size.symm, fun b hb => t.block b (fun hm => absurd (hws b hm) (Nat.not_le_of_lt hb)), fun _ _ => ⟨rfl, rfl⟩, fun _ h => h, fun b hb => by rw [t.size]; exact h0.bnd b hb, rfl⟩
theorem itemsL_tups : ∀ (l : List (List V)), itemsL (tupsL l) = some l
  | [] => rfl
  | x :: l => by simp only [tupsL, itemsL, itemsL_tups l]
theorem pure_ranged : ∀ {args : List V}, pureL args = true → ranged args = false
  | [], _ => rfl
  | v :: vs, h => by
    simp only [pureL] at h
    split at h
    · rename_i hv
      have ih := pure_ranged h
      cases v <;> first | exact ih | skip
      rename_i f cs
      cases f with
      | f n => exact ih
      | m n => exact ih
      | y b => simp [V.pure] at hv
    · cases h
theorem ranged_mid {y : Nat} {post : List V} : ∀ {pre : List V}, ranged (pre ++ .fn (.y y) [] :: post) = true
  | [] => rfl
  | v :: vs => by
    have ih := ranged_mid (y := y) (post := post) (pre := vs)
    cases v <;> first | exact ih | skip
    rename_i f cs
    cases f with
    | f n => exact ih
    | m n => exact ih
    | y b => rfl
theorem finOk (h : Inv (scOf Ω0) w0 Ω w tm σ) {U G : List Nat} (hU : U.Nodup) (ha : ∀ t ∈ U, t ∉ G) : FinOk Ω (Ω.fin Ω0 w0.heap.size U) w U G := by
  have new : ∀ b t p, Ω.o b = .arr t p → ¬ b < w0.heap.size := fun b t p hb hlt => h.oldArr hlt (fun x => x) t p hb
  refine ⟨⟨fun b hb => ?_, fun b hb => ?_, fun _ _ _ _ => rfl⟩, fun b t p hb => ?_, fun b t p k hb hk => ?_, fun b t p hb hg => ?_⟩
  · by_cases hlt : b < w0.heap.size
    · have := (h.old b hlt (fun x => x)).1
      rcases hb with hb | ⟨t, hb⟩
      · exact .inl (by simp only [Own.fin, if_pos hlt]; rw [← hb, this]; rfl)
      · exact (new b t true hb hlt).elim
    · rcases hb with hb | ⟨t, hb⟩
      · exact .inl (by simp only [Own.fin, if_neg hlt, hb])
      · cases hp : posN t U with
        | none => exact .inl (by simp only [Own.fin, if_neg hlt, hb, hp])
        | some k => exact .inr ⟨k, by simp only [Own.fin, if_neg hlt, hb, hp]⟩
  · by_cases hlt : b < w0.heap.size
    · have := (h.old b hlt (fun x => x)).2
      simp only [Own.fin, if_pos hlt]
      rw [this]; exact Nat.le_refl _
    · simp only [Own.fin, if_neg hlt]; exact Nat.le_refl _
  · simp only [Own.fin, if_neg (new b t p hb)]
  · refine ⟨by simp only [Own.fin, if_neg (new b t p hb), hb, posN_of hU hk], by simp only [Own.fin, hk], by simp only [Own.fin, hk]⟩
  · cases hp : posN t U with
    | none => exact .inl (by simp only [Own.fin, if_neg (new b t p hb), hb, hp])
    | some k => exact (ha t (List.mem_of_getElem? (posN_get hp)) hg).elim
theorem fin_tok (h : Inv (scOf Ω0) w0 Ω w tm σ) (hb0 : Base Ω0 w0) {U : List Nat} (hU : U.Nodup) {k n t : Nat} (hk : U[k]? = some t) (ht : get σ.tk t = some (n, true)) : TokOk (Ω.fin Ω0 w0.heap.size U) w k n true := by
  obtain ⟨c, q, T, xs, g1, ⟨p, g2⟩, g3, g4, g5, g6, g7, g8⟩ := h.tok t n true ht
  have hc : ¬ c < w0.heap.size := fun hlt => h.oldArr hlt (fun x => x) t p g2
  refine ⟨c, q, T, xs, by simp only [Own.fin, hk, g1], ⟨p, by simp only [Own.fin, if_neg hc, g2, posN_of hU hk]⟩, g3, by simp only [Own.fin, hk]; exact g4, g5, by simp only [Own.fin, if_neg hc, hk]; exact g6, by simp only [Own.fin, hk]; exact g7, fun _ b p' hb => ?_⟩
  simp only [Own.fin] at hb
  split at hb
  · rcases hb0.o b with e | e | e <;> rw [e] at hb <;> cases hb
  · split at hb
    · rename_i t' p2 h2
      split at hb
      · rename_i k' hp
        injection hb with e1 e2
        subst e1; subst e2
        have := posN_get hp
        rw [hk] at this
        injection this with this; subst this
        exact g8 rfl b _ h2
      · cases hb
    · cases hb
    · cases hb
theorem one_tks {vs : List V} {k n : Nat} (h : (k, n) ∈ (one vs).tks) : (k, n) ∈ tksL vs := by
  unfold one at h
  split at h
  · simpa [tksL] using h
  · simpa [V.tks] using h
theorem one_den {vs : List V} {xs : List Value} (h : DenL Ω w vs xs) : Den Ω w (one vs) (if h : xs.length = 1 then xs[0] else .tuple xs.toArray) := by
  unfold one
  split
  · rename_i v
    simp only [DenL] at h
    obtain ⟨x, ys, rfl, h1, rfl⟩ := h
    simpa using h1
  · rename_i hne
    have hl := h.length
    have : ¬ xs.length = 1 := fun e => by
      rw [hl] at e
      obtain ⟨v, rfl⟩ := List.length_eq_one_iff.1 e
      exact hne v rfl
    rw [dif_neg this]
    simp only [Den]
    exact ⟨xs, rfl, h⟩
theorem params_get : ∀ {vs : List V} {k s : Nat} {v : V}, get (params k vs) s = some v → ∃ j, s = k + j ∧ vs[j]? = some v
  | [], k, s, v, h => by simp [params, get] at h
  | u :: vs, k, s, v, h => by
    simp only [params, get] at h
    split at h
    · rename_i e
      injection h with h; subst h; subst e
      exact ⟨0, rfl, rfl⟩
    · obtain ⟨j, e, hj⟩ := params_get h
      exact ⟨j + 1, by omega, by simpa using hj⟩
theorem deadL_get : ∀ {l : List Nat} {s : Nat} {v : V}, get (deadL l) s = some v → s ∈ l ∧ v = .dead
  | [], s, v, h => by simp [deadL, get] at h
  | k :: l, s, v, h => by
    simp only [deadL, get] at h
    split at h
    · rename_i e
      injection h with h; subst h; subst e
      exact ⟨by simp, rfl⟩
    · obtain ⟨h1, h2⟩ := deadL_get h
      exact ⟨by simp [h1], h2⟩
theorem get_append {α : Type} : ∀ {a b : List (Nat × α)} {s : Nat} {v : α}, get (a ++ b) s = some v → get a s = some v ∨ get b s = some v
  | [], b, s, v, h => .inr h
  | (k, u) :: a, b, s, v, h => by
    simp only [List.cons_append, get] at h ⊢
    split at h
    · rename_i e; rw [if_pos e]; exact .inl h
    · rename_i e; rw [if_neg e]; exact get_append h
theorem inv_start (X : Sc) {tr0 : Option (List (List V))} (ho : X.o = Ω0.o) (hlm : X.lim = Ω0.lim) (hj : X.j tr0 Ω0 w) (hb : Base Ω0 w) {args : List V} {xs : List Value} (hd : DenL Ω0 w args xs) (n : Nat) {sl : List Nat} (hsl : ∀ s ∈ sl, s < xs.length + n) :
    Inv X w Ω0 w (xs.toArray ++ Array.replicate n undef) { fr := params 0 args ++ deadL sl, tk := [], tr := tr0 } where
  kept := Kept.refl _ _
  ownB b s h := by rcases hb.o b with e | e | e <;> rw [e] at h <;> cases h
  ownA b t p h := by rcases hb.o b with e | e | e <;> rw [e] at h <;> cases h
  bnd := hb.bnd
  uniq b b' s h := by rcases hb.o b with e | e | e <;> rw [e] at h <;> cases h
  limB b s h := by rcases hb.o b with e | e | e <;> rw [e] at h <;> cases h
  slot s v hs := by
    rcases get_append hs with hs | hs
    case inr =>
      obtain ⟨h1, rfl⟩ := deadL_get hs
      exact ⟨by simp only [Array.size_append, List.size_toArray, Array.size_replicate]; exact hsl s h1, by simp [DenS, Den]⟩
    obtain ⟨j, e, hj⟩ := params_get hs
    rw [Nat.zero_add] at e; subst e
    obtain ⟨x, hx, hv⟩ := hd.get hj
    have hlt := (List.getElem?_eq_some_iff.1 hx).1
    refine ⟨by simp only [Array.size_append, List.size_toArray]; omega, DenS.of ?_⟩
    have : (xs.toArray ++ Array.replicate n undef).getD s undef = x := by
      rw [Array.getD_eq_getD_getElem?, Array.getElem?_append_left (by simpa using hlt)]
      simp [hx]
    rw [this]; exact hv
  tok t n wr h := by simp [get] at h
  old _ _ _ := by rw [ho, hlm]; exact ⟨rfl, rfl⟩
  out := hj
theorem fresh_start (hb : Base Ω0 w) (d : Nat) : Fresh Ω0 d := by
  refine ⟨fun b h => ?_, fun b t p _ h => ?_⟩ <;> rcases hb.o b with e | e | e <;> rw [e] at h <;> cases h
/-- A function does what its compiled form does. -/
theorem fun_sound (hmix : P.follows .mixedOrders = true) (hcall : CallsOk P call) {f : Nat} {fn : Func} (hf : P.funcs[f]? = some fn) (hn : fn.name ≠ "runtime.NumGoroutine") {kp : List (Nat × List Nat)} {lf : LFun} (hc : funC P kp fn = some lf)
    {N : Nat} {args : List V} {R : V} (hev : evBody call N lf args = some R) : Enters P f ∧ CallOk P f args R := by
  unfold funC at hc
  split at hc
  case h_2 => cases hc
  rename_i c hbody
  refine ⟨⟨fn, c, hf, hn, hbody⟩, ?_⟩
  split at hc
  case h_2 => cases hc
  rename_i b rs hb hrs
  split at hc
  case isFalse => cases hc
  rename_i hchk
  obtain ⟨k1, k2, k3, k4, k5⟩ := hchk
  simp only [Option.some.injEq] at hc; subst hc
  unfold evBody at hev
  simp only at hev
  split at hev
  case isFalse => cases hev
  rename_i hlen
  obtain ⟨ex, σ', hex, hevc, hres⟩ : ∃ ex σ', (ex = Ex.normal ∨ ex = Ex.ret) ∧ evC call N b { fr := params 0 args ++ deadL [], tk := [], tr := if ranged args = true then some [] else none } = some (ex, σ') ∧ finish (ranged args) rs σ' = some R := by
    split at hev
    · rename_i σ' h1; exact ⟨_, σ', .inl rfl, h1, hev⟩
    · rename_i σ' h1; exact ⟨_, σ', .inr rfl, h1, hev⟩
    · cases hev
  -- a walk through the body
  have walk : ∀ {X : Sc} {T : List (List V)} {Ω0 : Own} {w : World} {xs : List Value} {R' : Ending → World → Prop}, Base Ω0 w → DenL Ω0 w args xs → X.o = Ω0.o → X.lim = Ω0.lim → X.j (if ranged args = true then some [] else none) Ω0 w → ScOk P X w T none → UpTo T σ' →
      (∀ a' w' Ω' M', Arr X w none Ω0 { tmps := xs.toArray ++ Array.replicate (fn.ntmps - xs.toArray.size) undef, defers := [] } [] [] σ' (dstsC b) (onceC b ++ loopC b) a' w' Ω' M' → LeavesInM Fence.wide 0 P fn a'.tmps R' a'.defers .returning w') → Calls P f xs.toArray w R' := by
    intro X T Ω0 w xs R' hbase hd ho hl hj sc hT hK
    have hxl : xs.length = fn.params.size + fn.nfree := by rw [hd.length, hlen]
    have hsz : (xs.toArray ++ Array.replicate (fn.ntmps - xs.toArray.size) undef).size = fn.ntmps := by
      simp only [Array.size_append, List.size_toArray, Array.size_replicate]; omega
    have hinv := inv_start X ho hl hj hbase hd (fn.ntmps - xs.toArray.size) (sl := []) (fun s hs => by cases hs)
    refine callsIn_wide.1 (callsIn_of_wp_marks (n := 0) hf hbody trivial ?_)
    refine code_sound hcall hmix c hb sc (.inr rfl) (M := []) (df := []) List.nodup_nil (fun r hr => by cases hr) rfl hevc hT (hinv.sc rfl rfl rfl fun hj => ⟨hj, fun r hr => by cases hr⟩) (fun d hdd => ?_) (fun d _ => fresh_start hbase d) ⟨distinct_nodup k2, fun d hd hl => ?_⟩ ?_
    · show d < Array.size _
      rw [hsz]
      have := List.all_eq_true.1 k1 d hdd
      simpa using this
    · have := List.all_eq_true.1 k3 d hd
      simp only [Bool.and_eq_true, Bool.not_eq_true'] at this
      exact not_mem_of_memN this.1 hl
    · intro a' w' Ω' M' A
      have := hK a' w' Ω' M' A
      rcases hex with rfl | rfl <;> exact this
  refine ⟨fun hpure Ω0 w xs hbase hd => ?_, fun y pre post hargs T hRT X Ω w l xs zs hbase hyl hp1 hp2 hd1 hd2 ho hlm hj hnn hY => ?_⟩
  · -- called
    rw [pure_ranged hpure] at hres hevc walk
    simp only [Bool.false_eq_true, if_false] at hres hevc walk
    have hbase' : Base { Ω0 with yl := none } w := ⟨hbase.o, hbase.bnd⟩
    have hxp : ExtP Ω0 { Ω0 with yl := none } w w := ⟨fun _ h => h, fun _ h => .inr h, fun _ _ => Nat.le_refl _, fun _ _ _ _ => rfl⟩
    have hd' : DenL { Ω0 with yl := none } w args xs := DenL.extP hxp args xs hpure hd
    have trn : σ'.tr = none := (evC_tr b hevc).none rfl
    refine walk (X := scOf { Ω0 with yl := none }) (T := []) hbase' hd' rfl rfl ⟨rfl, rfl⟩ ⟨⟨fun _ _ h => h.2, fun _ _ _ _ _ _ _ _ _ h => (by have := h.1; cases this)⟩, .inl (plain_scOf _), fun _ h => by cases h⟩ (fun l hl => by rw [trn] at hl; cases hl) ?_
    intro a' w' Ω' M' A
    rw [A.defers, List.append_nil]
    refine leaves_marks M' w' A.nodup (fun r hr => (A.inv.out.2 r hr).2) fun w'' ht => ?_
    have hi : Inv (scOf { Ω0 with yl := none }) w Ω' w'' a'.tmps σ' := inv_taken (plain_scOf _) (Ωs := { Ω0 with yl := none }) (ws := w) ⟨rfl, rfl⟩ A.low A.inv A.low ht
    unfold finish result at hres
    simp only [Bool.false_eq_true, if_false] at hres
    split at hres
    case h_2 => cases hres
    rename_i vs hvs
    split at hres
    case h_2 => cases hres
    rename_i vs' us hfin
    injection hres with hres; subst hres
    obtain ⟨ys, r1, r2⟩ := rvs_sound (P := P) hi hrs hvs
    obtain ⟨U, G⟩ := us
    have hl := finL_lists vs vs' ([], []) (U, G) hfin
    have hU : U.Nodup := hl.nodup List.nodup_nil
    have ha : ∀ t ∈ U, t ∉ G := hl.apart (fun t h => by cases h)
    have hok := finOk hi hU ha
    have hden := DenL.fin hok vs vs' ([], []) (U, G) ys hfin (List.prefix_refl _) (fun _ h => h) r2
    refine ⟨_, run_results r1, _, Ω'.fin { Ω0 with yl := none } w.heap.size U, rfl, ?_, one_den hden, ?_⟩
    · exact ⟨hi.kept.os, hi.kept.tape, hi.kept.output, hi.kept.size, fun k hk => hi.kept.block k hk (fun x => x)⟩
    · refine ⟨fun b hlt => ⟨by simp only [Own.fin, if_pos hlt], by simp only [Own.fin, if_pos hlt]⟩, fun b hne => ?_, fun k n hk => ?_⟩
      · by_cases hlt : b < w.heap.size
        · exact Nat.lt_of_lt_of_le hlt hi.kept.size
        · refine hi.bnd b (fun e => hne ?_)
          simp only [Own.fin, if_neg hlt, e]
      · obtain ⟨t, q1, q2⟩ := finL_tks vs vs' ([], []) (U, G) hfin (List.prefix_refl _) k n (one_tks hk)
        exact fin_tok hi hbase' hU q1 q2
  · -- ranged over
    subst hargs
    have hrg : ranged (pre ++ V.fn (.y y) [] :: post) = true := ranged_mid
    rw [hrg] at hres hevc walk
    simp only [if_true] at hevc walk
    unfold finish at hres
    simp only [if_true] at hres
    split at hres
    case isFalse => cases hres
    rename_i hre
    split at hres
    case h_2 => cases hres
    rename_i tr htr
    injection hres with hres; subst hres
    simp only [itemsOf, itemsL_tups, Option.some.injEq] at hRT
    subst hRT
    have hd' : DenL Ω w (pre ++ V.fn (.y y) [] :: post) (xs ++ Value.func (.yield l) #[] #[] :: zs) := hd1.append (DenL.cons (by simp only [Den, DenL, Fk.Is]; exact ⟨[], ⟨l, hyl, rfl⟩, rfl⟩) hd2)
    refine walk (T := tr) hbase hd' ho hlm hj ⟨hY, .inr hnn, fun _ h => by cases h⟩ (fun l' hl' => by rw [htr] at hl'; injection hl' with hl'; subst hl'; exact List.prefix_refl _) ?_
    intro a' w' Ω' M' A
    have hM : M' = [] := by
      rcases A.same with e | e
      · exact e
      · have := e.1.1 _ _ _ hj; cases this
    subst hM
    rw [A.defers]
    have hi : Inv X w Ω' w' a'.tmps σ' := A.inv.sc rfl rfl rfl fun hj => hj.1
    have hrs0 : rs = [] := List.isEmpty_iff.1 hre
    obtain ⟨ys, r1, r2⟩ := rvs_sound (P := P) hi hrs (vs := []) (by rw [hrs0]; rfl)
    have hj' := hi.out
    rw [htr] at hj'
    exact ⟨_, run_results r1, _, Ω', rfl, hj'⟩
end
end Go.Lo

/- The evaluator is sound; its limit. -/
namespace Go.Lo

/-! ### More fuel -/
def Le (c c' : Nat → List V → Option V) : Prop := ∀ f as r, c f as = some r → c' f as = some r
section
variable {c c' : Nat → List V → Option V}
theorem sem_le (h : Le c c') {bx : Nat → Option (List V)} {tk : Nat → Option (Nat × Bool)} {d : Nat} {k : K} {vs : List V} {e : Eff} (he : sem c bx tk d k vs = some e) : sem c' bx tk d k vs = some e := by
  cases k with
  | call dr al mk =>
    have key : ∀ {f : Nat} {us : List V}, callE c bx d dr al mk f us = some e → callE c' bx d dr al mk f us = some e := fun he => by
      unfold callE at he ⊢
      split at he
      · rename_i as has
        split at he
        · rename_i r hr
          simp only [h _ as r hr]
          exact he
        · cases he
      · cases he
    simp only [sem] at he ⊢
    split at he
    · exact key he
    · exact key he
    · exact he
    · exact he
  | _ => exact he
theorem stepI_le (h : Le c c') {i : LIns} {σ σ' : St} (hs : stepI c i σ = some σ') : stepI c' i σ = some σ' := by
  unfold stepI at hs ⊢
  cases hw : wanted σ.fr i.guard with
  | none => rw [hw] at hs; cases hs
  | some b =>
    rw [hw] at hs
    cases b with
    | false => exact hs
    | true =>
      simp only at hs ⊢
      cases hvs : opds σ.fr i.xs with
      | none => rw [hvs] at hs; cases hs
      | some vs =>
        rw [hvs] at hs
        simp only at hs ⊢
        cases he : sem c (bxOf σ.fr i.ex) (tkOf σ.tk i.ex) (i.dst.getD 0) i.k vs with
        | none => rw [he] at hs; cases hs
        | some e =>
          rw [he] at hs
          rw [sem_le h he]
          exact hs
theorem stepL_le (h : Le c c') : ∀ {is : List LIns} {σ σ' : St}, stepL c is σ = some σ' → stepL c' is σ = some σ'
  | [], _, _, hs => hs
  | i :: is, σ, σ', hs => by
    simp only [stepL] at hs ⊢
    split at hs
    · rename_i σ1 h1
      rw [stepI_le h h1]
      exact stepL_le h hs
    · cases hs
theorem iter_le {f g : St → Option (Ex × St)} (h : ∀ σ x, f σ = some x → g σ = some x) : ∀ {n m : Nat} {σ : St} {x : Ex × St}, n ≤ m → iter f n σ = some x → iter g m σ = some x
  | 0, _, _, _, _, hs => by simp [iter] at hs
  | n + 1, 0, _, _, hl, _ => by omega
  | n + 1, m + 1, σ, x, hl, hs => by
    simp only [iter] at hs ⊢
    split at hs
    · rename_i σ1 h1
      rw [h _ _ h1]
      exact iter_le h (by omega) hs
    · rename_i hne
      rw [h _ _ hs]
      split
      · rename_i σ1 h1
        injection h1 with h1
        subst h1
        exact (hne _ hs).elim
      · rfl
theorem roundE_le {evA evB evA' evB' : St → Option (Ex × St)} (hA : ∀ σ x, evA σ = some x → evA' σ = some x) (hB : ∀ σ x, evB σ = some x → evB' σ = some x) {ps wr : List Nat} {σ : St} {as : List V} {x : Ex × St}
    (h : roundE evA evB ps wr σ as = some x) : roundE evA' evB' ps wr σ as = some x := by
  unfold roundE at h ⊢
  split at h
  · rename_i hl
    rw [if_pos hl]
    split at h
    · rename_i σ1 h1
      rw [hA _ _ h1]
      simp only
      split at h
      · rename_i ex σ2 h2
        rw [hB _ _ h2]
        exact h
      · cases h
    · cases h
  · cases h
theorem foldR_le {f f' : St → List V → Option (Ex × St)} (h : ∀ σ as x, f σ as = some x → f' σ as = some x) : ∀ {t : List (List V)} {k : Nat} {σ : St} {r : Option (Nat × Ex) × St}, foldR f k σ t = some r → foldR f' k σ t = some r
  | [], _, _, _, hs => hs
  | x :: t, k, σ, r, hs => by
    simp only [foldR] at hs ⊢
    split at hs
    · rename_i σ1 h1
      rw [h _ _ _ h1]
      exact foldR_le h hs
    · rename_i ex σ1 hne h1
      rw [h _ _ _ h1]
      cases ex with
      | normal => exact (hne rfl).elim
      | exit id => exact hs
      | ret => exact hs
    · cases hs
theorem itemsOf_le {o o' : Option V} (h : ∀ R, o = some R → o' = some R) {T : List (List V)} (ho : itemsOf o = some T) : itemsOf o' = some T := by
  cases o with
  | none => cases ho
  | some R => rw [h R rfl]; exact ho
theorem rngE_le {f f' : St → List V → Option (Ex × St)} {it it' : Nat → Option V} (h : ∀ σ as x, f σ as = some x → f' σ as = some x) (hi : ∀ a R, it a = some R → it' a = some R) {σ : St} {x : Ex × St} (hs : rngE f it σ = some x) : rngE f' it' σ = some x := by
  unfold rngE at hs ⊢
  split at hs
  · cases hs
  · rename_i items h1
    rw [itemsOf_le (hi 0) h1]
    simp only
    split at hs
    · rename_i σ1 h2
      rw [foldR_le h h2]
      exact hs
    · rename_i k e σ1 h2
      rw [foldR_le h h2]
      simp only
      split at hs
      · cases hs
      · rename_i items' h3
        rw [itemsOf_le (hi (k + 1)) h3]
        simp only
        split at hs
        · rename_i k' ex σ2 h4
          rw [foldR_le h h4]
          exact hs
        · cases hs
    · cases hs
theorem evC_le (h : Le c c') {N N' : Nat} (hN : N ≤ N') : ∀ (lc : LCode) {σ : St} {x : Ex × St}, evC c N lc σ = some x → evC c' N' lc σ = some x := by
  intro lc
  induction lc with
  | skip => intro σ x hs; exact hs
  | exit id => intro σ x hs; exact hs
  | ret => intro σ x hs; exact hs
  | bad => intro σ x hs; exact hs
  | reg lp ds pp ops kn kp =>
    intro σ x hs
    simp only [evC] at hs ⊢
    split at hs
    · rename_i σ1 h1
      rw [stepL_le h h1]
      exact hs
    · cases hs
  | seq a b iha ihb =>
    intro σ x hs
    simp only [evC] at hs ⊢
    split at hs
    · rename_i σ1 h1
      rw [iha h1]
      exact ihb hs
    · rename_i hne
      rw [iha hs]
      split
      · rename_i σ1 h1
        injection h1 with h1
        subst h1
        exact (hne _ hs).elim
      · rfl
  | cond cc a b iha ihb =>
    intro σ x hs
    simp only [evC] at hs ⊢
    split at hs
    · rename_i t ht
      cases t with
      | true => simp only [if_true] at hs ⊢; exact iha hs
      | false => simp only [Bool.false_eq_true, if_false] at hs ⊢; exact ihb hs
    · cases hs
  | block id a ih =>
    intro σ x hs
    simp only [evC] at hs ⊢
    split at hs
    · rename_i j σ1 h1
      rw [ih h1]
      exact hs
    · rename_i hne
      rw [ih hs]
      split
      · rename_i j σ1 h1
        injection h1 with h1
        subst h1
        exact (hne _ _ hs).elim
      · rfl
  | loop a ih =>
    intro σ x hs
    simp only [evC] at hs ⊢
    exact iter_le (fun _ _ h => ih h) hN hs
  | rng g ps wr a b iha ihb =>
    intro σ x hs
    simp only [evC] at hs ⊢
    split at hs
    · split at hs
      · split at hs
        · rename_i hc
          rw [if_pos hc]
          exact rngE_le (fun _ _ _ h => roundE_le (fun _ _ h => iha h) (fun _ _ h => ihb h) h) (fun _ R hR => h _ _ R hR) hs
        · cases hs
      · cases hs
    · split at hs
      · split at hs
        · rename_i hc
          rw [if_pos hc]
          exact rngE_le (fun _ _ _ h => roundE_le (fun _ _ h => iha h) (fun _ _ h => ihb h) h) (fun _ R hR => h _ _ R hR) hs
        · cases hs
      · cases hs
    · cases hs
theorem evBody_le (h : Le c c') {N N' : Nat} (hN : N ≤ N') {lf : LFun} {args : List V} {r : V} (hs : evBody c N lf args = some r) : evBody c' N' lf args = some r := by
  unfold evBody at hs ⊢
  split at hs
  · rename_i hl
    rw [if_pos hl]
    split at hs
    · rename_i σ h1; rw [evC_le h hN _ h1]; exact hs
    · rename_i σ h1; rw [evC_le h hN _ h1]; exact hs
    · cases hs
  · cases hs
end
section
variable {F : Nat → Option (List V → Option V)} {C : Nat → Option LFun}
theorem evF_succ : ∀ (n : Nat), Le (evF F C n) (evF F C (n + 1))
  | 0, f, as, r, h => by simp [evF] at h
  | n + 1, f, as, r, h => by
    rw [evF] at h ⊢
    split at h
    · exact h
    · split at h
      · exact evBody_le (evF_succ n) (Nat.le_succ n) h
      · cases h
theorem evF_le {n m : Nat} (h : n ≤ m) : Le (evF F C n) (evF F C m) := by
  induction h with
  | refl => exact fun _ _ _ h => h
  | step _ ih => exact fun f as r hr => evF_succ _ f as r (ih f as r hr)
/-- What a function gives back, if it ends: whatever the fuel. -/
noncomputable def run (F : Nat → Option (List V → Option V)) (C : Nat → Option LFun) (f : Nat) (as : List V) : Option V :=
  open Classical in if h : ∃ r n, evF F C n f as = some r then some (Classical.choose h) else none
theorem run_of {n f : Nat} {as : List V} {r : V} (h : evF F C n f as = some r) : run F C f as = some r := by
  unfold run
  have hex : ∃ r n, evF F C n f as = some r := ⟨r, n, h⟩
  rw [dif_pos hex]
  obtain ⟨m, hm⟩ := Classical.choose_spec hex
  have h1 := evF_le (Nat.le_max_left n m) f as r h
  have h2 := evF_le (Nat.le_max_right n m) f as _ hm
  rw [h1] at h2
  exact h2.symm
theorem of_run {f : Nat} {as : List V} {r : V} (h : run F C f as = some r) : ∃ n, evF F C n f as = some r := by
  unfold run at h
  split at h
  · rename_i hex
    injection h with h; subst h
    exact Classical.choose_spec hex
  · cases h
/-! Few calls need little fuel. -/
theorem sem_fin {bx : Nat → Option (List V)} {tk : Nat → Option (Nat × Bool)} {d : Nat} {k : K} {vs : List V} {e : Eff} (he : sem (run F C) bx tk d k vs = some e) : ∃ n, sem (evF F C n) bx tk d k vs = some e := by
  cases k with
  | call dr al mk =>
    have key : ∀ {f : Nat} {us : List V}, callE (run F C) bx d dr al mk f us = some e → ∃ n, callE (evF F C n) bx d dr al mk f us = some e := fun he => by
      unfold callE at he ⊢
      split at he
      · rename_i as has
        split at he
        · rename_i r hr
          obtain ⟨n, hn⟩ := of_run hr
          refine ⟨n, ?_⟩
          simp only [hn]
          exact he
        · cases he
      · cases he
    simp only [sem] at he ⊢
    split at he
    · exact key he
    · exact key he
    · exact ⟨0, he⟩
    · exact ⟨0, he⟩
  | _ => exact ⟨0, he⟩
theorem stepI_fin {i : LIns} {σ σ' : St} (hs : stepI (run F C) i σ = some σ') : ∃ n, stepI (evF F C n) i σ = some σ' := by
  unfold stepI at hs ⊢
  cases hw : wanted σ.fr i.guard with
  | none => rw [hw] at hs; cases hs
  | some b =>
    rw [hw] at hs
    cases b with
    | false => exact ⟨0, hs⟩
    | true =>
      simp only at hs ⊢
      cases hvs : opds σ.fr i.xs with
      | none => rw [hvs] at hs; cases hs
      | some vs =>
        rw [hvs] at hs
        simp only at hs ⊢
        cases he : sem (run F C) (bxOf σ.fr i.ex) (tkOf σ.tk i.ex) (i.dst.getD 0) i.k vs with
        | none => rw [he] at hs; cases hs
        | some e =>
          rw [he] at hs
          obtain ⟨n, hn⟩ := sem_fin he
          exact ⟨n, by rw [hn]; exact hs⟩
theorem stepL_fin : ∀ {is : List LIns} {σ σ' : St}, stepL (run F C) is σ = some σ' → ∃ n, stepL (evF F C n) is σ = some σ'
  | [], _, _, hs => ⟨0, hs⟩
  | i :: is, σ, σ', hs => by
    simp only [stepL] at hs ⊢
    split at hs
    · rename_i σ1 h1
      obtain ⟨n, hn⟩ := stepI_fin h1
      obtain ⟨m, hm⟩ := stepL_fin hs
      refine ⟨max n m, ?_⟩
      rw [stepI_le (evF_le (Nat.le_max_left n m)) hn]
      exact stepL_le (evF_le (Nat.le_max_right n m)) hm
    · cases hs
theorem iter_fin {g : St → Option (Ex × St)} {f : Nat → St → Option (Ex × St)} (hf : ∀ n m, n ≤ m → ∀ σ x, f n σ = some x → f m σ = some x) (h : ∀ σ x, g σ = some x → ∃ n, f n σ = some x) : ∀ {k : Nat} {σ : St} {x : Ex × St}, iter g k σ = some x → ∃ n, iter (f n) k σ = some x
  | 0, _, _, hs => by simp [iter] at hs
  | k + 1, σ, x, hs => by
    simp only [iter] at hs ⊢
    split at hs
    · rename_i σ1 h1
      obtain ⟨n, hn⟩ := h _ _ h1
      obtain ⟨m, hm⟩ := iter_fin hf h hs
      refine ⟨max n m, ?_⟩
      rw [hf n _ (Nat.le_max_left n m) _ _ hn]
      exact iter_le (hf m _ (Nat.le_max_right n m)) (Nat.le_refl _) hm
    · rename_i hne
      obtain ⟨n, hn⟩ := h _ _ hs
      refine ⟨n, ?_⟩
      rw [hn]
      split
      · rename_i σ1 h1
        injection h1 with h1
        subst h1
        exact (hne _ hs).elim
      · rfl
theorem roundE_fin {gA gB : St → Option (Ex × St)} {fA fB : Nat → St → Option (Ex × St)} (mA : ∀ n m, n ≤ m → ∀ σ x, fA n σ = some x → fA m σ = some x) (mB : ∀ n m, n ≤ m → ∀ σ x, fB n σ = some x → fB m σ = some x)
    (hA : ∀ σ x, gA σ = some x → ∃ n, fA n σ = some x) (hB : ∀ σ x, gB σ = some x → ∃ n, fB n σ = some x) {ps wr : List Nat} {σ : St} {as : List V} {x : Ex × St} (h : roundE gA gB ps wr σ as = some x) : ∃ n, roundE (fA n) (fB n) ps wr σ as = some x := by
  unfold roundE at h
  split at h
  · rename_i hl
    split at h
    · rename_i σ1 h1
      split at h
      · rename_i ex σ2 h2
        obtain ⟨n, hn⟩ := hA _ _ h1
        obtain ⟨m, hm⟩ := hB _ _ h2
        refine ⟨max n m, ?_⟩
        unfold roundE
        rw [if_pos hl, mA n _ (Nat.le_max_left n m) _ _ hn]
        simp only
        rw [mB m _ (Nat.le_max_right n m) _ _ hm]
        exact h
      · cases h
    · cases h
  · cases h
theorem foldR_fin {g : St → List V → Option (Ex × St)} {f : Nat → St → List V → Option (Ex × St)} (hf : ∀ n m, n ≤ m → ∀ σ as x, f n σ as = some x → f m σ as = some x) (h : ∀ σ as x, g σ as = some x → ∃ n, f n σ as = some x) :
    ∀ {t : List (List V)} {k : Nat} {σ : St} {r : Option (Nat × Ex) × St}, foldR g k σ t = some r → ∃ n, foldR (f n) k σ t = some r
  | [], _, _, _, hs => ⟨0, hs⟩
  | x :: t, k, σ, r, hs => by
    simp only [foldR] at hs ⊢
    split at hs
    · rename_i σ1 h1
      obtain ⟨n, hn⟩ := h _ _ _ h1
      obtain ⟨m, hm⟩ := foldR_fin hf h hs
      refine ⟨max n m, ?_⟩
      rw [hf n _ (Nat.le_max_left n m) _ _ _ hn]
      exact foldR_le (hf m _ (Nat.le_max_right n m)) hm
    · rename_i ex σ1 hne h1
      obtain ⟨n, hn⟩ := h _ _ _ h1
      refine ⟨n, ?_⟩
      rw [hn]
      cases ex with
      | normal => exact (hne rfl).elim
      | exit id => exact hs
      | ret => exact hs
    · cases hs
theorem rngE_fin {g : St → List V → Option (Ex × St)} {f : Nat → St → List V → Option (Ex × St)} {it : Nat → Option V} {jt : Nat → Nat → Option V} (hf : ∀ n m, n ≤ m → ∀ σ as x, f n σ as = some x → f m σ as = some x) (h : ∀ σ as x, g σ as = some x → ∃ n, f n σ as = some x)
    (hj : ∀ n m, n ≤ m → ∀ a R, jt n a = some R → jt m a = some R) (hi : ∀ a R, it a = some R → ∃ n, jt n a = some R) {σ : St} {x : Ex × St} (hs : rngE g it σ = some x) : ∃ n, rngE (f n) (jt n) σ = some x := by
  have hit : ∀ a T, itemsOf (it a) = some T → ∃ n, itemsOf (jt n a) = some T := fun a T hT => by
    cases hR : it a with
    | none => rw [hR] at hT; cases hT
    | some R =>
      rw [hR] at hT
      obtain ⟨n, hn⟩ := hi a R hR
      exact ⟨n, by rw [hn]; exact hT⟩
  unfold rngE at hs
  split at hs
  · cases hs
  · rename_i items h1
    obtain ⟨n1, k1⟩ := hit _ _ h1
    split at hs
    · rename_i σ1 h2
      obtain ⟨n2, k2⟩ := foldR_fin hf h h2
      refine ⟨max n1 n2, ?_⟩
      unfold rngE
      rw [itemsOf_le (hj n1 _ (Nat.le_max_left n1 n2) 0) k1]
      simp only
      rw [foldR_le (hf n2 _ (Nat.le_max_right n1 n2)) k2]
      exact hs
    · rename_i k e σ1 h2
      obtain ⟨n2, k2⟩ := foldR_fin hf h h2
      split at hs
      · cases hs
      · rename_i items' h3
        obtain ⟨n3, k3⟩ := hit _ _ h3
        split at hs
        · rename_i k' ex σ2 h4
          obtain ⟨n4, k4⟩ := foldR_fin hf h h4
          refine ⟨max (max n1 n2) (max n3 n4), ?_⟩
          unfold rngE
          rw [itemsOf_le (hj n1 _ (by omega) 0) k1]
          simp only
          rw [foldR_le (hf n2 _ (by omega)) k2]
          simp only
          rw [itemsOf_le (hj n3 _ (by omega) (k + 1)) k3]
          simp only
          rw [foldR_le (hf n4 _ (by omega)) k4]
          exact hs
        · cases hs
    · cases hs
theorem evC_fin {N : Nat} : ∀ (lc : LCode) {σ : St} {x : Ex × St}, evC (run F C) N lc σ = some x → ∃ n, evC (evF F C n) N lc σ = some x := by
  intro lc
  induction lc with
  | skip => intro σ x hs; exact ⟨0, hs⟩
  | exit id => intro σ x hs; exact ⟨0, hs⟩
  | ret => intro σ x hs; exact ⟨0, hs⟩
  | bad => intro σ x hs; exact ⟨0, hs⟩
  | reg lp ds pp ops kn kp =>
    intro σ x hs
    simp only [evC] at hs ⊢
    split at hs
    · rename_i σ1 h1
      obtain ⟨n, hn⟩ := stepL_fin h1
      exact ⟨n, by rw [hn]; exact hs⟩
    · cases hs
  | seq a b iha ihb =>
    intro σ x hs
    simp only [evC] at hs ⊢
    split at hs
    · rename_i σ1 h1
      obtain ⟨n, hn⟩ := iha h1
      obtain ⟨m, hm⟩ := ihb hs
      refine ⟨max n m, ?_⟩
      rw [evC_le (evF_le (Nat.le_max_left n m)) (Nat.le_refl N) _ hn]
      exact evC_le (evF_le (Nat.le_max_right n m)) (Nat.le_refl N) _ hm
    · rename_i hne
      obtain ⟨n, hn⟩ := iha hs
      refine ⟨n, ?_⟩
      rw [hn]
      split
      · rename_i σ1 h1
        injection h1 with h1
        subst h1
        exact (hne _ hs).elim
      · rfl
  | cond cc a b iha ihb =>
    intro σ x hs
    simp only [evC] at hs ⊢
    split at hs
    · rename_i t ht
      cases t with
      | true => simp only [if_true] at hs ⊢; exact iha hs
      | false => simp only [Bool.false_eq_true, if_false] at hs ⊢; exact ihb hs
    · cases hs
  | block id a ih =>
    intro σ x hs
    simp only [evC] at hs ⊢
    split at hs
    · rename_i j σ1 h1
      obtain ⟨n, hn⟩ := ih h1
      exact ⟨n, by rw [hn]; exact hs⟩
    · rename_i hne
      obtain ⟨n, hn⟩ := ih hs
      refine ⟨n, ?_⟩
      rw [hn]
      split
      · rename_i j σ1 h1
        injection h1 with h1
        subst h1
        exact (hne _ _ hs).elim
      · rfl
  | loop a ih =>
    intro σ x hs
    simp only [evC] at hs ⊢
    exact iter_fin (f := fun n => evC (evF F C n) N a) (fun n m hnm σ x h => evC_le (evF_le hnm) (Nat.le_refl N) a h) (fun σ x h => ih h) hs
  | rng g ps wr a b iha ihb =>
    intro σ x hs
    have key : ∀ {f : Nat} {mkA : Nat → List V} {τ : St}, rngE (roundE (evC (run F C) N a) (evC (run F C) N b) ps wr) (fun a => run F C f (mkA a)) τ = some x → ∃ n, rngE (roundE (evC (evF F C n) N a) (evC (evF F C n) N b) ps wr) (fun a => evF F C n f (mkA a)) τ = some x := by
      intro f mkA τ hs
      refine rngE_fin (it := fun a => run F C f (mkA a)) (jt := fun n a => evF F C n f (mkA a)) (f := fun n => roundE (evC (evF F C n) N a) (evC (evF F C n) N b) ps wr) (fun n m hnm σ as x h => ?_) (fun σ as x h => ?_) (fun n m hnm a R h => evF_le hnm _ _ R h) (fun a R h => of_run h) hs
      · exact roundE_le (fun _ _ h => evC_le (evF_le hnm) (Nat.le_refl N) a h) (fun _ _ h => evC_le (evF_le hnm) (Nat.le_refl N) b h) h
      · exact roundE_fin (fA := fun n => evC (evF F C n) N a) (fB := fun n => evC (evF F C n) N b) (fun n m hnm σ x h => evC_le (evF_le hnm) (Nat.le_refl N) a h) (fun n m hnm σ x h => evC_le (evF_le hnm) (Nat.le_refl N) b h) (fun _ _ h => iha h) (fun _ _ h => ihb h) h
    simp only [evC] at hs ⊢
    split at hs
    · split at hs
      · split at hs
        · rename_i hc
          simp only [if_pos hc]
          exact key (mkA := fun a => .fn (.y a) [] :: _) hs
        · cases hs
      · cases hs
    · split at hs
      · split at hs
        · rename_i hc
          simp only [if_pos hc]
          exact key (mkA := fun a => _ ++ [.fn (.y a) []]) hs
        · cases hs
      · cases hs
    · cases hs
/-- A body's equation: the calls in it may be told by theirs. -/
theorem run_of_body {f N : Nat} {lf : LFun} {as : List V} {r : V} (hF : F f = none) (hC : C f = some lf) (h : evBody (run F C) N lf as = some r) : run F C f as = some r := by
  have key : ∃ n, evBody (evF F C n) N lf as = some r := by
    unfold evBody at h ⊢
    split at h
    · rename_i hl
      split at h
      · rename_i σ h1
        obtain ⟨n, hn⟩ := evC_fin _ h1
        exact ⟨n, by rw [if_pos hl, hn]; exact h⟩
      · rename_i σ h1
        obtain ⟨n, hn⟩ := evC_fin _ h1
        exact ⟨n, by rw [if_pos hl, hn]; exact h⟩
      · cases h
    · cases h
  obtain ⟨n, hn⟩ := key
  refine run_of (n := max n N + 1) ?_
  rw [evF, hF]
  simp only [hC]
  exact evBody_le (evF_le (Nat.le_max_left n N)) (Nat.le_max_right n N) hn
theorem run_told {f : Nat} {g : List V → Option V} {as : List V} (hF : F f = some g) : run F C f as = g as := by
  cases hg : g as with
  | some r => exact run_of (n := 1) (by rw [evF, hF]; exact hg)
  | none =>
    cases hr : run F C f as with
    | none => rfl
    | some r =>
      obtain ⟨n, hn⟩ := of_run hr
      cases n with
      | zero => simp [evF] at hn
      | succ n =>
        rw [evF, hF] at hn
        simp only at hn
        rw [hg] at hn
        cases hn
/-- The tables are those of the program. -/
structure TabOk (P : Program) (F : Nat → Option (List V → Option V)) (C : Nat → Option LFun) : Prop where
  mixed : P.follows .mixedOrders = true
  told : ∀ f g as r, F f = some g → g as = some r → Enters P f ∧ CallOk P f as r
  code : ∀ f lf, C f = some lf → ∃ fn kp, P.funcs[f]? = some fn ∧ fn.name ≠ "runtime.NumGoroutine" ∧ funC P kp fn = some lf
theorem evF_sound {P : Program} (h : TabOk P F C) : ∀ (n : Nat), CallsOk P (evF F C n)
  | 0, f, as, r, hr => by simp [evF] at hr
  | n + 1, f, as, r, hr => by
    rw [evF] at hr
    split at hr
    · rename_i g hg
      exact h.told f g as r hg hr
    · split at hr
      · rename_i lf hlf
        obtain ⟨fn, kp, h1, h2, h3⟩ := h.code f lf hlf
        exact fun_sound h.mixed (evF_sound h n) h1 h2 h3 hr
      · cases hr
theorem run_sound {P : Program} (h : TabOk P F C) : CallsOk P (run F C) := fun f as r hr =>
  let ⟨n, hn⟩ := of_run hr
  evF_sound h n f as r hn
end
end Go.Lo

/- Arguments that read as data are logical values. -/
namespace Go.Lo
inductive Ty where
  | bool
  | int (k : IntKind)
  | st (fs : List Ty)
  | arr (n : Nat) (e : Ty)
  | sl (e : Ty)
  deriving Inhabited
mutual
def Ty.cells : Ty → Nat
  | .bool => 1
  | .int _ => 1
  | .st fs => cellsL fs
  | .arr n e => n * e.cells
  | .sl _ => 1
def cellsL : List Ty → Nat
  | [] => 0
  | t :: ts => t.cells + cellsL ts
end
mutual
/-- Cells of the type. -/
def HasC : Ty → List V → Prop
  | .bool, cs => ∃ b, cs = [.bool b]
  | .int k, cs => ∃ n, cs = [.int k n] ∧ (Lit.int k n).wf = true
  | .st fs, cs => HasCs fs cs
  | .arr n e, cs => ∃ es : List (List V), es.length = n ∧ cs = es.flatten ∧ ∀ x ∈ es, HasC e x
  | .sl e, cs => cs = [.nil] ∨ ∃ es, cs = [.sl none e.cells es] ∧ es.length ≤ maxLen ∧ ∀ x ∈ es, HasC e x
def HasCs : List Ty → List V → Prop
  | [], cs => cs = []
  | t :: ts, cs => ∃ a b, cs = a ++ b ∧ HasC t a ∧ HasCs ts b
end
def tysC (f : TypeId → Option Ty) : List Field → Nat → Option (List Ty)
  | [], _ => some []
  | x :: xs, o => match f x.type with
    | some t => if x.offset = o then (match tysC f xs (o + t.cells) with
      | some ts => some (t :: ts)
      | none => none) else none
    | none => none
def tyC (P : Program) : Nat → TypeId → Option Ty
  | 0, _ => none
  | d + 1, t =>
    let r : Option Ty := match P.underlying t with
      | some .bool => some .bool
      | some (.int k) => some (.int k)
      | some (.struct fs) => match tysC (tyC P d) fs.toList 0 with
        | some ts => some (.st ts)
        | none => none
      | some (.array n e) => match tyC P d e with
        | some ty => some (.arr n ty)
        | none => none
      | some (.slice e) => match tyC P d e with
        | some ty => if ty.cells ≠ 0 then some (.sl ty) else none
        | none => none
      | _ => none
    match r with
    | some ty => if P.cellsOf t = ty.cells then some ty else none
    | none => none
def allFrz (W : World) : Own where
  o b := if b < W.heap.size then .frz else .out
  lim b := blkSize W b
  cur _ := none
  tsz _ := 0
theorem base_allFrz (W : World) : Base (allFrz W) W := ⟨fun b => by simp only [allFrz]; split <;> simp, fun b h => by
  simp only [allFrz] at h
  split at h
  · assumption
  · exact absurd rfl h⟩
theorem tyC_cells {P : Program} {d : Nat} {t : TypeId} {ty : Ty} (h : tyC P d t = some ty) : P.cellsOf t = ty.cells := by
  cases d with
  | zero => simp [tyC] at h
  | succ d =>
    unfold tyC at h
    simp only at h
    split at h
    · split at h
      · simp only [Option.some.injEq] at h; subst h; assumption
      · cases h
    · cases h
theorem choose_list {α : Type} {p : Nat → α → Prop} : ∀ (n : Nat), (∀ i, i < n → ∃ x, p i x) → ∃ l : List α, l.length = n ∧ ∀ i x, l[i]? = some x → p i x
  | 0, _ => ⟨[], rfl, fun i x h => by simp at h⟩
  | n + 1, h => by
    obtain ⟨l, h1, h2⟩ := choose_list n (fun i hi => h i (by omega))
    obtain ⟨x, hx⟩ := h n (by omega)
    refine ⟨l ++ [x], by simp [h1], fun i y hy => ?_⟩
    by_cases hi : i < l.length
    · rw [List.getElem?_append_left hi] at hy; exact h2 i y hy
    · rw [List.getElem?_append_right (by omega)] at hy
      have : i - l.length = 0 := by
        have := (List.getElem?_eq_some_iff.1 hy).1
        simp at this; omega
      rw [this] at hy
      simp only [List.getElem?_cons_zero, Option.some.injEq] at hy
      subst hy
      rw [show i = n by omega]; exact hx
/-- Plain cells. -/
def PlainL (vs : List V) : Prop := ∀ v ∈ vs, v.pure = true ∧ v.cellOk = true ∧ v.pm = true
section
variable {H : Type} {enc : TypeId × Value → H} {P : Program} {W : World} {held : Bool}
theorem cells_get {a : Addr} : ∀ {n : Nat} {cs : List Value}, W.cells? 0 a n = some cs → cs.length = n ∧ ∀ j, j < n → W.cell? (a.add j) = cs[j]? := by
  intro n cs h
  unfold World.cells? at h
  simp only [Nat.zero_le, if_true] at h
  have key : ∀ (l : List Nat) (cs : List Value), l.mapM (fun i => W.cell? (a.add i)) = some cs → cs.length = l.length ∧ ∀ (j i : Nat), l[j]? = some i → W.cell? (a.add i) = cs[j]? := by
    intro l
    induction l with
    | nil => intro cs h; simp at h; subst h; exact ⟨rfl, fun j i h => by simp at h⟩
    | cons k l ih =>
      intro cs h
      rw [List.mapM_cons] at h
      simp only [bind, Option.bind_eq_some_iff, pure, Option.some.injEq] at h
      obtain ⟨x, hx, ys, hy, rfl⟩ := h
      obtain ⟨h1, h2⟩ := ih ys hy
      refine ⟨by simp [h1], fun j i hj => ?_⟩
      cases j with
      | zero => simp only [List.getElem?_cons_zero, Option.some.injEq] at hj; subst hj; simpa using hx
      | succ j => simp only [List.getElem?_cons_succ] at hj ⊢; exact h2 j i hj
  obtain ⟨h1, h2⟩ := key _ _ h
  simp only [List.length_range] at h1
  exact ⟨h1, fun j hj => h2 j j (by rw [List.getElem?_range hj])⟩
theorem cell_spot {a : Addr} {x : Value} (h : W.cell? a = some x) : a.spot = none ∧ a.off < blkSize W a.block ∧ a.block < W.heap.size := by
  unfold World.cell? at h
  split at h
  · rename_i c t fz hc
    split at h
    · cases h
    · rename_i hs
      refine ⟨by cases hsp : a.spot <;> simp_all, ?_, (Array.getElem?_eq_some_iff.1 hc).1⟩
      unfold blkSize
      rw [hc]
      exact (Array.getElem?_eq_some_iff.1 h).1
  · cases h
theorem mapM_all {α β : Type} {f : α → Option β} : ∀ {l : List α} {ys : List β}, l.mapM f = some ys → ∀ a ∈ l, ∃ y, f a = some y
  | [], _, _, a, ha => by cases ha
  | b :: l, ys, h, a, ha => by
    rw [List.mapM_cons] at h
    simp only [bind, Option.bind_eq_some_iff, pure, Option.some.injEq] at h
    obtain ⟨y, hy, zs, hz, rfl⟩ := h
    rcases List.mem_cons.1 ha with rfl | ha
    · exact ⟨y, hy⟩
    · exact mapM_all hz a ha
theorem trod_arr {n : Nat} {t e : TypeId} {m : Nat} {cs : List Value} {x : DataW H × List MemPlace} (hu : P.underlying t = some (.array m e)) (h : DataW.trod enc P W 0 (fun _ => true) held (n + 1) t cs = some x) :
    cs.length = P.cellsOf t ∧ ∀ i, i < m → ∃ y, DataW.trod enc P W 0 (fun _ => true) held n e ((cs.drop (i * P.cellsOf e)).take (P.cellsOf e)) = some y := by
  unfold DataW.trod at h
  rw [hu] at h
  simp only at h
  split at h
  · rename_i hl
    refine ⟨hl, fun i hi => ?_⟩
    rw [Option.map_eq_some_iff] at h
    obtain ⟨ys, hy, _⟩ := h
    exact mapM_all hy i (List.mem_range.2 hi)
  · cases h
theorem plain_append {a b : List V} (ha : PlainL a) (hb : PlainL b) : PlainL (a ++ b) := fun v hv => by
  rcases List.mem_append.1 hv with h | h
  · exact ha v h
  · exact hb v h
theorem trod_cells : ∀ (n d : Nat) (t : TypeId) (ty : Ty) (cs : List Value) (x : DataW H × List MemPlace), tyC P d t = some ty → DataW.trod enc P W 0 (fun _ => true) held n t cs = some x →
    ∃ vs, DenL (allFrz W) W vs cs ∧ HasC ty vs ∧ PlainL vs
  | 0, _, _, _, _, _, _, h => by simp [DataW.trod] at h
  | n + 1, 0, _, _, _, _, hty, _ => by simp [tyC] at hty
  | n + 1, d + 1, t, ty, cs, x, hty, h => by
    have hce := tyC_cells hty
    unfold tyC at hty
    simp only at hty
    cases hu : P.underlying t with
    | none => simp [hu] at hty
    | some k =>
      cases k <;> simp only [hu, reduceCtorEq] at hty
      case bool =>
        split at hty
        · simp only [Option.some.injEq] at hty; subst hty
          obtain ⟨b, rfl, _⟩ := DataW.trod_bool hu h
          exact ⟨[.bool b], DenL.cons (by simp [Den]) DenL.nil, ⟨b, rfl⟩, fun v hv => by rw [List.mem_singleton] at hv; subst hv; exact ⟨rfl, rfl, rfl⟩⟩
        · cases hty
      case int q =>
        split at hty
        · simp only [Option.some.injEq] at hty; subst hty
          obtain ⟨m, rfl, _, hw⟩ := DataW.trod_int hu h
          exact ⟨[.int q m], DenL.cons (by simp [Den]) DenL.nil, ⟨m, rfl, hw⟩, fun v hv => by rw [List.mem_singleton] at hv; subst hv; exact ⟨rfl, rfl, rfl⟩⟩
        · cases hty
      case struct fs =>
        split at hty
        · rename_i ty' hr
          split at hty
          · simp only [Option.some.injEq] at hty; subst hty
            split at hr
            · rename_i ts hts
              simp only [Option.some.injEq] at hr; subst hr
              obtain ⟨xs, n', hn, hx, hlen, hxl, hall⟩ := DataW.trod_struct hu h
              have hn' : n' = n := by omega
              subst hn'
              have hall' : ∀ f ∈ fs.toList, ∃ y, DataW.trod enc P W 0 (fun _ => true) held n' f.type ((cs.drop f.offset).take (P.cellsOf f.type)) = some y := fun f hf => by
                obtain ⟨i, hi⟩ := List.getElem?_of_mem hf
                rw [Array.getElem?_toList] at hi
                have hlt : i < xs.length := by rw [hxl]; exact (Array.getElem?_eq_some_iff.1 hi).1
                exact ⟨xs[i], by rw [hall i f hi, List.getElem?_eq_getElem hlt]⟩
              have go : ∀ (l : List Field) (o : Nat) (ts : List Ty), tysC (tyC P d) l o = some ts → (∀ f ∈ l, ∃ y, DataW.trod enc P W 0 (fun _ => true) held n' f.type ((cs.drop f.offset).take (P.cellsOf f.type)) = some y) →
                  ∃ vs, DenL (allFrz W) W vs ((cs.drop o).take (cellsL ts)) ∧ HasCs ts vs ∧ PlainL vs := by
                intro l
                induction l with
                | nil =>
                  intro o ts h1 _
                  simp only [tysC, Option.some.injEq] at h1; subst h1
                  exact ⟨[], by simp [cellsL, DenL], rfl, fun v hv => by cases hv⟩
                | cons f l ih =>
                  intro o ts h1 h2
                  simp only [tysC] at h1
                  split at h1
                  · rename_i ty1 hty1
                    split at h1
                    · rename_i hof
                      split at h1
                      · rename_i ts' hts'
                        simp only [Option.some.injEq] at h1; subst h1
                        obtain ⟨y, hy⟩ := h2 f (by simp)
                        obtain ⟨v1, a1, a2, a3⟩ := trod_cells n' d f.type ty1 _ y hty1 hy
                        obtain ⟨v2, b1, b2, b3⟩ := ih _ _ hts' (fun g hg => h2 g (by simp [hg]))
                        refine ⟨v1 ++ v2, ?_, ⟨v1, v2, rfl, a2, b2⟩, plain_append a3 b3⟩
                        rw [cellsL, List.take_add]
                        rw [hof, tyC_cells hty1] at a1
                        rw [← List.drop_drop] at b1
                        exact a1.append b1
                      · cases h1
                    · cases h1
                  · cases h1
              obtain ⟨vs, g1, g2, g3⟩ := go fs.toList 0 ts hts hall'
              refine ⟨vs, ?_, g2, g3⟩
              rw [List.drop_zero, List.take_of_length_le (by rw [hlen, hce]; exact Nat.le_refl _)] at g1
              exact g1
            · cases hr
          · cases hty
        · cases hty
      case array m e =>
        split at hty
        · rename_i ty' hr
          split at hty
          · simp only [Option.some.injEq] at hty; subst hty
            split at hr
            · rename_i te hte
              simp only [Option.some.injEq] at hr; subst hr
              obtain ⟨hlen, hall⟩ := trod_arr hu h
              have hcs := tyC_cells hte
              obtain ⟨es, h1, h2⟩ := choose_list (p := fun i vs => DenL (allFrz W) W vs ((cs.drop (i * P.cellsOf e)).take (P.cellsOf e)) ∧ HasC te vs ∧ PlainL vs) m (fun i hi => by
                obtain ⟨y, hy⟩ := hall i hi
                exact trod_cells n d e te _ y hte hy)
              have key : ∀ (l : List (List V)) (k : Nat), (∀ i vs, l[i]? = some vs → DenL (allFrz W) W vs ((cs.drop ((k + i) * P.cellsOf e)).take (P.cellsOf e))) → DenL (allFrz W) W l.flatten ((cs.drop (k * P.cellsOf e)).take (l.length * P.cellsOf e)) := by
                intro l
                induction l with
                | nil => intro k _; simp [DenL]
                | cons v l ih =>
                  intro k hk
                  rw [List.flatten_cons, List.length_cons, Nat.succ_mul, Nat.add_comm, List.take_add, List.drop_drop]
                  refine DenL.append (hk 0 v rfl) ?_
                  have := ih (k + 1) (fun i vs hi => by
                    have := hk (i + 1) vs (by simpa using hi)
                    rwa [show k + (i + 1) = k + 1 + i by omega] at this)
                  rwa [Nat.succ_mul] at this
              have hmem : ∀ vs ∈ es, HasC te vs ∧ PlainL vs := fun vs hv => by
                obtain ⟨i, hi⟩ := List.getElem?_of_mem hv
                exact (h2 i vs hi).2
              refine ⟨es.flatten, ?_, ⟨es, h1, rfl, fun v hv => (hmem v hv).1⟩, fun v hv => ?_⟩
              · have := key es 0 (fun i vs hi => by rw [Nat.zero_add]; exact (h2 i vs hi).1)
                rw [Nat.zero_mul, List.drop_zero, h1, List.take_of_length_le (by rw [hlen, hce, Ty.cells, hcs]; exact Nat.le_refl _)] at this
                exact this
              · obtain ⟨l, hl, hvl⟩ := List.mem_flatten.1 hv
                exact (hmem l hl).2 v hvl
            · cases hr
          · cases hty
        · cases hty
      case slice e =>
        split at hty
        · rename_i ty' hr
          split at hty
          · simp only [Option.some.injEq] at hty; subst hty
            split at hr
            · rename_i te hte
              split at hr
              · rename_i hnz
                simp only [Option.some.injEq] at hr; subst hr
                have hcs := tyC_cells hte
                rcases DataW.trod_slice hu h with ⟨rfl, _⟩ | ⟨a, len, cap, elems, rest, n', hn, rfl, hx, _, hlc, hmx, hel, hget, hspare, _⟩
                · exact ⟨[.nil], DenL.cons (by simp [Den]) DenL.nil, .inl rfl, fun v hv => by rw [List.mem_singleton] at hv; subst hv; exact ⟨rfl, rfl, rfl⟩⟩
                · have hn' : n' = n := by omega
                  subst hn'
                  have hplain : ∀ es : List (List V), PlainL [V.sl none te.cells es] := fun es v hv => by rw [List.mem_singleton] at hv; subst hv; exact ⟨rfl, rfl, rfl⟩
                  by_cases hcap : cap = 0
                  · have : len = 0 := by omega
                    subst this; subst hcap
                    refine ⟨[.sl none te.cells []], DenL.cons ?_ DenL.nil, .inr ⟨[], rfl, Nat.zero_le _, fun x hx => by cases hx⟩, hplain []⟩
                    simp only [Den]
                    exact .inl ⟨trivial, _, rfl⟩
                  · -- some cell is there: the address is plain
                    have hcell : ∃ y, W.cell? a = some y := by
                      by_cases hl : len = 0
                      · have := (hspare rfl).2 0 (by omega)
                        have hr0 : ∃ z, rest[0]? = some z := ⟨_, List.getElem?_eq_getElem (by rw [(hspare rfl).1]; omega)⟩
                        obtain ⟨z, hz⟩ := hr0
                        rw [hz, hl] at this
                        rw [Option.bind_eq_some_iff] at this
                        obtain ⟨c0, hc0, _⟩ := this
                        obtain ⟨g1, g2⟩ := cells_get hc0
                        have := g2 0 (by omega)
                        rw [List.getElem?_eq_getElem (by omega)] at this
                        simp only [Nat.add_zero, Nat.zero_mul, Addr.add, if_true] at this
                        exact ⟨_, this⟩
                      · have := hget 0 (by omega)
                        have hr0 : ∃ z, elems[0]? = some z := ⟨_, List.getElem?_eq_getElem (by omega)⟩
                        obtain ⟨z, hz⟩ := hr0
                        rw [hz] at this
                        rw [Option.bind_eq_some_iff] at this
                        obtain ⟨c0, hc0, _⟩ := this
                        obtain ⟨g1, g2⟩ := cells_get hc0
                        have := g2 0 (by omega)
                        rw [List.getElem?_eq_getElem (by omega)] at this
                        simp only [Nat.zero_mul, Addr.add, if_true] at this
                        exact ⟨_, this⟩
                    obtain ⟨y0, hy0⟩ := hcell
                    obtain ⟨hsp, _, hbs⟩ := cell_spot hy0
                    obtain ⟨b, off, sp⟩ := a
                    simp only at hsp hbs
                    subst hsp
                    obtain ⟨es, h1, h2⟩ := choose_list (p := fun i vs => DenC (allFrz W) W vs b (off + i * P.cellsOf e) ∧ HasC te vs ∧ PlainL vs ∧ vs.length = P.cellsOf e) len (fun i hi => by
                      have := hget i hi
                      have hr0 : ∃ z, elems[i]? = some z := ⟨_, List.getElem?_eq_getElem (by omega)⟩
                      obtain ⟨z, hz⟩ := hr0
                      rw [hz, Option.bind_eq_some_iff] at this
                      obtain ⟨c0, hc0, hc1⟩ := this
                      obtain ⟨g1, g2⟩ := cells_get hc0
                      obtain ⟨vs, a1, a2, a3⟩ := trod_cells n' d e te c0 z hte hc1
                      have hvl : vs.length = P.cellsOf e := by rw [← a1.length, g1]
                      refine ⟨vs, rowC a1 (fun v hv => ⟨(a3 v hv).1, (a3 v hv).2.1⟩) (fun j y hj => ?_), a2, a3, hvl⟩
                      have hjl : j < P.cellsOf e := by
                        have := (List.getElem?_eq_some_iff.1 hj).1
                        omega
                      have := g2 j hjl
                      rw [hj, addr_add, addr_add] at this
                      obtain ⟨_, q2, _⟩ := cell_spot this
                      exact ⟨q2, this⟩)
                    have hmem : ∀ vs ∈ es, HasC te vs := fun vs hv => by
                      obtain ⟨i, hi⟩ := List.getElem?_of_mem hv
                      exact (h2 i vs hi).2.1
                    refine ⟨[.sl none te.cells es], DenL.cons ?_ DenL.nil, .inr ⟨es, rfl, by rw [h1]; omega, hmem⟩, hplain es⟩
                    simp only [Den]
                    refine .inr ⟨b, off, cap - len, ?_, .inl (by simp only [allFrz, if_pos hbs]), ?_⟩
                    · rw [h1]; congr 1; omega
                    · have key : ∀ (l : List (List V)) (k : Nat), (∀ i vs, l[i]? = some vs → DenC (allFrz W) W vs b (off + (k + i) * P.cellsOf e) ∧ HasC te vs ∧ PlainL vs ∧ vs.length = P.cellsOf e) → DenE (allFrz W) W l te.cells b (off + k * P.cellsOf e) := by
                        intro l
                        induction l with
                        | nil => intro k _; trivial
                        | cons v l ih =>
                          intro k hk
                          obtain ⟨q1, q2, q3, q4⟩ := hk 0 v rfl
                          simp only [DenE]
                          refine ⟨by rw [q4, hcs], List.all_eq_true.2 fun u hu => (q3 u hu).2.2, q1, ?_⟩
                          have := ih (k + 1) (fun i vs hi => by
                            have := hk (i + 1) vs (by simpa using hi)
                            rwa [show k + (i + 1) = k + 1 + i by omega] at this)
                          rw [Nat.succ_mul, hcs, ← Nat.add_assoc] at this
                          rw [hcs]
                          exact this
                      have := key es 0 (fun i vs hi => by rw [Nat.zero_add]; exact h2 i vs hi)
                      rwa [Nat.zero_mul, Nat.add_zero] at this
              · cases hr
            · cases hr
          · cases hty
        · cases hty
end
end Go.Lo

/- From the logical machine's word to a row. -/
namespace Go.Lo
open Go.RowKit (Below)

/-- A value of the type. -/
def HasV : Ty → V → Prop
  | .st fs, v => ∃ cs, v = .agg cs ∧ HasCs fs cs
  | .arr n e, v => ∃ cs, v = .agg cs ∧ HasC (.arr n e) cs
  | .bool, v => HasC .bool [v]
  | .int k, v => HasC (.int k) [v]
  | .sl e, v => HasC (.sl e) [v]
def HasVs : List Ty → List V → Prop
  | [], vs => vs = []
  | t :: ts, vs => ∃ v us, vs = v :: us ∧ HasV t v ∧ HasVs ts us
theorem plain_pureL : ∀ {vs : List V}, PlainL vs → pureL vs = true
  | [], _ => rfl
  | v :: vs, h => by
    simp only [pureL, (h v (by simp)).1, if_true]
    exact plain_pureL fun u hu => h u (by simp [hu])
section
variable {H : Type} {enc : TypeId × Value → H} {P : Program} {W : World} {held : Bool}
theorem val_of_data {r : Reach} {base d : Nat} {t : TypeId} {ty : Ty} {x : Value} {dd : DataW H} {p : List MemPlace} (hok : Value.okWide P W r base t x) (hty : tyC P d t = some ty) (h : DataW.Trod enc P W 0 (fun _ => true) held t x dd p) :
    ∃ v, Den (allFrz W) W v x ∧ HasV ty v ∧ v.pure = true := by
  obtain ⟨fuel, hf⟩ := h
  obtain ⟨vs, h1, h2, h3⟩ := trod_cells fuel d t ty _ _ hty hf
  have one : (∀ cs, x ≠ .agg cs) → ∃ v, vs = [v] ∧ Den (allFrz W) W v x ∧ v.pure = true := by
    intro hne
    have hc : x.cells.toList = [x] := by cases x <;> first | rfl | (exact absurd rfl (hne _))
    rw [hc] at h1
    cases vs with
    | nil => simp [DenL] at h1
    | cons v vs =>
      simp only [DenL] at h1
      obtain ⟨y, ys, e, g1, g2⟩ := h1
      injection e with e1 e2
      subst e1; subst e2
      cases vs with
      | nil => exact ⟨v, rfl, g1, (h3 v (by simp)).1⟩
      | cons u us => simp [DenL] at g2
  have agg : (∃ cs, x = .agg cs) → Den (allFrz W) W (.agg vs) x ∧ (V.agg vs).pure = true := by
    rintro ⟨cs, rfl⟩
    refine ⟨?_, by simp only [V.pure]; exact plain_pureL h3⟩
    simp only [Den]
    exact ⟨cs.toList, by simp, by simpa [Value.cells] using h1⟩
  unfold Value.okWide at hok
  have hty' := hty
  cases d with
  | zero => simp [tyC] at hty
  | succ d =>
    unfold tyC at hty
    simp only at hty
    cases hu : P.underlying t with
    | none => simp [hu] at hty
    | some k =>
      cases k <;> simp only [hu, reduceCtorEq] at hty hok
      case bool =>
        split at hty
        · simp only [Option.some.injEq] at hty; subst hty
          obtain ⟨v, rfl, g1, g2⟩ := one (fun cs e => by subst e; simp [Cell.okWide, Cell.ok, hu] at hok)
          exact ⟨v, g1, h2, g2⟩
        · cases hty
      case int q =>
        split at hty
        · simp only [Option.some.injEq] at hty; subst hty
          obtain ⟨v, rfl, g1, g2⟩ := one (fun cs e => by subst e; simp [Cell.okWide, Cell.ok, hu] at hok)
          exact ⟨v, g1, h2, g2⟩
        · cases hty
      case slice e =>
        obtain ⟨v, rfl, g1, g2⟩ := one (fun cs e => by subst e; simp [Cell.okWide, Cell.ok, hu] at hok)
        refine ⟨v, g1, ?_, g2⟩
        split at hty
        · rename_i ty' hr
          split at hty
          · simp only [Option.some.injEq] at hty; subst hty
            split at hr
            · split at hr
              · simp only [Option.some.injEq] at hr; subst hr; exact h2
              · cases hr
            · cases hr
          · cases hty
        · cases hty
      case struct fs =>
        obtain ⟨cs, hx, _⟩ := hok
        obtain ⟨g1, g2⟩ := agg ⟨cs, hx⟩
        refine ⟨_, g1, ?_, g2⟩
        split at hty
        · rename_i ty' hr
          split at hty
          · simp only [Option.some.injEq] at hty; subst hty
            split at hr
            · simp only [Option.some.injEq] at hr; subst hr; exact ⟨vs, rfl, h2⟩
            · cases hr
          · cases hty
        · cases hty
      case array m e =>
        obtain ⟨cs, hx, _⟩ := hok
        obtain ⟨g1, g2⟩ := agg ⟨cs, hx⟩
        refine ⟨_, g1, ?_, g2⟩
        split at hty
        · rename_i ty' hr
          split at hty
          · simp only [Option.some.injEq] at hty; subst hty
            split at hr
            · simp only [Option.some.injEq] at hr; subst hr; exact ⟨vs, rfl, h2⟩
            · cases hr
          · cases hty
        · cases hty
theorem vals_of_data {r : Reach} {base d : Nat} : ∀ {ts : List TypeId} {tys : List Ty} {xs : List Value} {ds : List (DataW H)} {p : List MemPlace}, ts.mapM (tyC P d) = some tys → (∀ (j : Nat) t v, ts[j]? = some t → xs[j]? = some v → Value.okWide P W r base t v) →
    DataW.TrodAll enc P W 0 (fun _ => true) held ts xs ds p → ∃ vs, DenL (allFrz W) W vs xs ∧ HasVs tys vs ∧ pureL vs = true
  | [], tys, xs, ds, p, h1, _, h3 => by
    simp at h1; subst h1
    cases xs <;> cases ds <;> simp [DataW.TrodAll] at h3
    exact ⟨[], DenL.nil, rfl, rfl⟩
  | t :: ts, tys, xs, ds, p, h1, h2, h3 => by
    rw [List.mapM_cons] at h1
    simp only [bind, Option.bind_eq_some_iff, pure, Option.some.injEq] at h1
    obtain ⟨ty, hty, tys', htys, rfl⟩ := h1
    cases xs with
    | nil => cases ds <;> simp [DataW.TrodAll] at h3
    | cons x xs =>
      cases ds with
      | nil => simp [DataW.TrodAll] at h3
      | cons dd ds =>
        obtain ⟨p1, p2, g1, g2, _⟩ := h3
        obtain ⟨v, a1, a2, a3⟩ := val_of_data (h2 0 t x rfl rfl) hty g1
        obtain ⟨vs, b1, b2, b3⟩ := vals_of_data htys (fun j t v hj hv => h2 (j + 1) t v (by simpa using hj) (by simpa using hv)) g2
        exact ⟨v :: vs, DenL.cons a1 b1, ⟨v, vs, rfl, a2, b2⟩, by simp only [pureL, a3, if_true]; exact b3⟩
theorem args_stay {W' : World} (hl : laidOutB P = true) (hb : Below W.heap.size W W') : ∀ {ts : List TypeId} {xs : List Value} {ds : List (DataW H)} {p : List MemPlace}, (∀ t ∈ ts, P.readableRec t = true ∧ t < P.types.size) → (∀ x ∈ p, x.block < W.heap.size) →
    DataW.TrodAll enc P W 0 (fun _ => true) true ts xs ds p → DataW.TrodAll enc P W' 0 (fun b => decide (b < W.heap.size)) true ts xs ds p
  | [], xs, ds, p, _, _, h => by
    cases xs <;> cases ds <;> simp [DataW.TrodAll] at h ⊢
    exact h
  | t :: ts, xs, ds, p, ht, hp, h => by
    cases xs with
    | nil => cases ds <;> simp [DataW.TrodAll] at h
    | cons x xs =>
      cases ds with
      | nil => simp [DataW.TrodAll] at h
      | cons dd ds =>
        obtain ⟨p1, p2, g1, g2, rfl⟩ := h
        obtain ⟨h1, h2⟩ := ht t (by simp)
        exact ⟨p1, p2, Below.trod hl h1 h2 g1 hb (fun x hx => hp x (by simp [hx])), args_stay hl hb (fun t ht' => ht t (by simp [ht'])) (fun x hx => hp x (by simp [hx])) g2, rfl⟩
end
/-- The contract of a law: whatever the input, true; and the input reads as it did. -/
theorem law_contract {H : Type} {enc : TypeId × Value → H} {P : Program} (hl : laidOutB P = true) {f : Nat} {fn : Func} {s : ChangeSpec} (hvars : s.vars = []) {tb : TypeId} (hres : fn.resultTypes = #[tb]) (htb : P.underlying tb = some .bool) {d : Nat} {tys : List Ty} (htys : fn.params.toList.mapM (tyC P d) = some tys)
    (hread : ∀ t ∈ fn.params.toList, P.readableRec t = true ∧ t < P.types.size) (hspec : ∀ ds : List (DataW H), ds.length = fn.params.size → (s.fn H ds).results = [.lit (.bool true)] ∧ (s.fn H ds).args = ds ∧ (s.fn H ds).vars = [])
    (hrun : ∀ vs, HasVs tys vs → CallOk P f vs (.bool true)) :
    ∀ (W : World) (base : Nat) (args : Array Value) (ds gs : List (DataW H)) (before : List MemPlace), (∀ (j : Nat) t v, fn.params[j]? = some t → args[j]? = some v → Value.okWide P W .any base t v) → DataW.Whole enc P fn.params.toList s.vars false W args.toList ds gs before →
      Calls P f args W fun e W' => ∃ v, e = .returned v ∧ s.post enc P fn false true false false W args v W' := by
  intro W base args ds gs before hval hW
  have hW' := hW
  have hlt := hW.lt
  obtain ⟨p, q, hA, hV, rfl, _, _⟩ := hW
  rw [hvars] at hV
  obtain ⟨rfl, rfl⟩ := ChangeShapes.trodVars_none hV
  simp only [List.append_nil] at hlt
  obtain ⟨vs, h1, h2, h3⟩ := vals_of_data htys (fun j t v hj hv => hval j t v (by simpa using hj) (by simpa using hv)) hA
  have hc := (hrun vs h2).1 h3 (allFrz W) W args.toList (base_allFrz W) h1
  rw [Array.toArray_toList] at hc
  refine hc.mono fun e W1 ⟨x, Ω1, he, hb, hd, _⟩ => ⟨x, he, ?_⟩
  simp only [Den] at hd
  subst hd
  have hdl : ds.length = fn.params.size := by
    have key : ∀ (ts : List TypeId) (xs : List Value) (ds : List (DataW H)) (p : List MemPlace), DataW.TrodAll enc P W 0 (fun _ => true) true ts xs ds p → ds.length = ts.length := by
      intro ts
      induction ts with
      | nil => intro xs ds p h; cases xs <;> cases ds <;> simp [DataW.TrodAll] at h ⊢
      | cons t ts ih =>
        intro xs ds p h
        cases xs with
        | nil => cases ds <;> simp [DataW.TrodAll] at h
        | cons x xs =>
          cases ds with
          | nil => simp [DataW.TrodAll] at h
          | cons d ds =>
            obtain ⟨p1, p2, _, g2, _⟩ := h
            simp [ih _ _ _ g2]
    have := key _ _ _ _ hA
    simpa using this
  obtain ⟨k1, k2, k3⟩ := hspec ds hdl
  refine ⟨ds, [], _, [], p, [], hW', ?_, ?_, ?_, hb.frame _, fun h => by cases h⟩
  · rw [List.append_nil, k1, hres]
    exact ChangeShapes.trodAll_mk1 (RowKit.shut_bool htb true)
  · rw [List.append_nil, k2]
    exact args_stay hl hb hread hlt hA
  · rw [List.append_nil, k3, hvars]
    rfl
end Go.Lo

/- The plain machine: slices bear their tokens themselves, and nil is an empty slice; no table of arrays. -/
namespace Go.Lo

/-! ### Tokens: a number below a million says which array; above it stand marks -/
def tb (u : Nat) : Nat := u % 1000000
/-- It may be written. -/
def rwT (u : Nat) : Bool := decide (u / 1000000 % 2 = 0)
/-- It may be nil as long as it is empty. -/
def mbT (u : Nat) : Bool := decide (2 ≤ u / 1000000 % 4)
/-- Nobody may write it any more, for sure. -/
def roX (u : Nat) : Bool := decide (u / 1000000 % 2 = 1 ∧ u / 1000000 < 4)
def roT (u : Nat) : Nat := if rwT u = true then u + 1000000 else if 4000000 ≤ u then u - 4000000 else u
def ruT (u : Nat) : Nat := if rwT u = true then u + 5000000 else u
def unT (u : Nat) : Nat := if roX u = true then u + 4000000 else u

/-! ### All tokens of a value are turned -/
mutual
def V.mp (g : Nat → Nat → List (List V) → V) (h : Nat → Nat → Nat → Nat → List V → V) (r : Nat → Nat → V) : V → V
  | .agg cs => .agg (mpL g h r cs)
  | .tup cs => .tup (mpL g h r cs)
  | .box cs => .box (mpL g h r cs)
  | .fn f cs => .fn f (mpL g h r cs)
  | .sl (some u) sz es => g u sz es
  | .ref s off => r s off
  | .eref u n i off cs => h u n i off cs
  | v => v
def mpL (g : Nat → Nat → List (List V) → V) (h : Nat → Nat → Nat → Nat → List V → V) (r : Nat → Nat → V) : List V → List V
  | [] => []
  | v :: vs => v.mp g h r :: mpL g h r vs
end
def mpF (g : Nat → Nat → List (List V) → V) (h : Nat → Nat → Nat → Nat → List V → V) (r : Nat → Nat → V) : List (Nat × V) → List (Nat × V)
  | [] => []
  | (k, v) :: t => (k, v.mp g h r) :: mpF g h r t
/-- The array t is somebody else's now. -/
def killT (t : Nat) : List (Nat × V) → List (Nat × V) :=
  mpF (fun u sz es => if tb u = t then .dead else .sl (some u) sz es) (fun u n i off cs => if tb u = t then .dead else .eref u n i off cs) .ref
/-- What lies in the slot d is made anew. -/
def killG (d : Nat) (fr : List (Nat × V)) : List (Nat × V) :=
  mpF (fun u sz es => if tb u / 100 = d then .dead else .sl (some u) sz es) (fun u n i off cs => if tb u / 100 = d then .dead else .eref u n i off cs) (fun s off => if s = d then .dead else .ref s off) (dropL [d] fr)
/-- The arrays of these tokens are written no more; of one that may be nil this is not sure. -/
def exB : List Nat → List Nat
  | [] => []
  | p :: ps => if mbT p = true then exB ps else tb p :: exB ps
def roU (ps : List Nat) (u : Nat) : Nat := if memN (tb u) (exB ps) = true then roT u else if memN (tb u) (ps.map tb) = true then ruT u else u
/-- An empty one that may be nil is nil: it has no array that could be marked. -/
def keepN (f : Nat → Nat) (u : Nat) (es : List (List V)) : Nat := if mbT u = true then (match es with
  | [] => u
  | _ :: _ => f u) else f u
def roF (ps : List Nat) (fr : List (Nat × V)) : List (Nat × V) :=
  match ps with
  | [] => fr
  | p :: ps => mpF (fun u sz es => .sl (some (keepN (roU (p :: ps)) u es)) sz es) (fun u n i off cs => .eref (roU (p :: ps) u) n i off cs) .ref fr
def roA : List (Nat × V) → List (Nat × V) :=
  mpF (fun u sz es => .sl (some (keepN roT u es)) sz es) (fun u n i off cs => .eref (roT u) n i off cs) .ref
def ruA : List (Nat × V) → List (Nat × V) :=
  mpF (fun u sz es => .sl (some (keepN ruT u es)) sz es) (fun u n i off cs => .eref (ruT u) n i off cs) .ref
def estT (t n i : Nat) (e : List V) : List (Nat × V) → List (Nat × V) :=
  mpF (fun u sz es => if tb u = t then (if es.length = n then .sl (some u) sz (es.set i e) else .dead) else .sl (some u) sz es) (fun u n i off cs => if tb u = t then .dead else .eref u n i off cs) .ref
def prepG (ds : List Nat) (fr : List (Nat × V)) : List (Nat × V) :=
  mpF (fun u sz es => if memN (tb u / 100) ds = true then .sl none sz es else .sl (some u) sz es) (fun u n i off cs => if memN (tb u / 100) ds = true then .dead else .eref u n i off cs) (fun s off => if memN s ds = true then .dead else .ref s off) (dropL ds fr)
def prep2 (lp : Bool) (ds : List Nat) (σ : St) : St :=
  match lp, ds with
  | true, d :: l => { σ with fr := prepG (d :: l) σ.fr }
  | _, _ => σ

/-! ### Operations -/
inductive Eff2 where
  | val (v : V)
  | mk (v : V) (t : Nat) (ps : List Nat)
  | mkg (v : V) (d : Nat)
  | app (v : V) (t : Nat)
  | prot (v : V) (ps : List Nat)
  | yld (a : Nat) (as : List V) (ps : List Nat)
  | sto (s : Nat) (cs : List V)
  | est (t n i : Nat) (e : List V)
  | res (v : V) (d : Nat) (m : Nat)
def valO2 : Option V → Option Eff2
  | some v => some (.val v)
  | none => none
def binV2 (ty : Nat) (op : BinOp) : V → V → Option V
  | .sl (some u) _ es, .nil => if ty = 2 ∧ (mbT u = false ∨ es ≠ []) then nilCmp op false else none
  | x, y => binV ty op x y
def callE2 (call : Nat → List V → Option V) (bx : Nat → Option (List V)) (d : Nat) (dr al mk : Bool) (f : Nat) (vs : List V) : Option Eff2 :=
  match frzL (bxF bx 4) vs with
  | some as => (match call f as with
    | some r => if r.pureR = true then (if mk = true then (if distinctN (r.tks.map fun x => tb x.1) = true ∧ (r.tks.all fun x => decide (tb x.1 < 100)) = true ∧ d < 9999 then
        (if al = true then some (.res (r.rn d) d 1) else if r.al = true then (if dr = true then none else some (.res (r.rn d) d 2)) else some (.res (r.rn d) d 0)) else none) else
        (if r.tks.isEmpty = true ∧ r.al = false then some (.val r) else none)) else none
    | none => none)
  | none => none
/-- The elements of what is appended. -/
def elsOf (sz : Nat) : V → Option (List (List V))
  | .nil => some []
  | .sl _ sz' ys => if sz = sz' then some ys else none
  | _ => none
def sem2 (call : Nat → List V → Option V) (bx : Nat → Option (List V)) (ex : List Nat) (d : Nat) (k : K) (vs : List V) : Option Eff2 :=
  match k with
  | .mv => match vs with
    | [v] => some (.val v)
    | _ => none
  | .pick => match vs with
    | [.bool c, a, b] => some (.val (if c = true then a else b))
    | _ => none
  | .box => match vs with
    | [v] => if v.cells.all V.cellOk = true then some (.val (.box v.cells)) else none
    | _ => none
  | .alloc zs => match vs with
    | [] => some (.val (.box zs))
    | _ => none
  | .build zs pl => match fill pl vs zs with
    | some cs => some (.val (.agg cs))
    | none => none
  | .bsl sz z len ix => match fillE sz ix vs (List.replicate len z) with
    | some (es, ps) => if ps.all (fun u => !memN (tb u / 100) ex) = true ∧ d < 9999 then some (.mk (.sl (some (d * 100)) sz es) (d * 100) ps) else none
    | none => none
  | .load n => match vs with
    | [v] => valO2 (loadV bx n v)
    | _ => none
  | .store n root => match vs with
    | [.ref s off, v] => if v.cells.length = n ∧ v.cells.all V.cellOk = true ∧ (root = none ∨ root = some s) then (match bx s with
      | some cs => (match splice cs off v.cells with | some cs' => some (.sto s cs') | none => none)
      | none => none) else none
    | [.eref u m i off cs, v] => (match root with
      | some _ => none
      | none => (match v.frzE with
        | some (v', []) => if rwT u = true ∧ memN (tb u / 100) ex = false ∧ v'.cells.length = n ∧ v'.cells.all V.pm = true then (match splice cs off v'.cells with
          | some cs' => some (.est (tb u) m i cs')
          | none => none) else none
        | _ => none))
    | _ => none
  | .bin ty op => match vs with
    | [x, y] => valO2 (binV2 ty op x y)
    | _ => none
  | .eqs ne sh => match vs with
    | [.agg cs, .agg ds] => (match eqSh sh cs ds with
      | some r => some (.val (.bool (ne != r)))
      | none => none)
    | _ => none
  | .un op => match vs with
    | [x] => valO2 (unV op x)
    | _ => none
  | .conv k => match vs with
    | [.int _ n] => some (.val (.int k (k.wrap n)))
    | _ => none
  | .mkf f => some (.val (.fn (.f f) vs))
  | .mkm f => some (.val (.fn (.m f) vs))
  | .fa off => match vs with
    | [.ref s o] => some (.val (.ref s (o + off)))
    | [.cref cs] => some (.val (.cref (cs.drop off)))
    | [.eref t n i o cs] => some (.val (.eref t n i (o + off) cs))
    | _ => none
  | .fld off n => match vs with
    | [.agg cs] => valO2 (partV cs off n)
    | _ => none
  | .ixs sz => match vs with
    | [.sl none sz' es, .int _ i] => if sz = sz' ∧ 0 ≤ i then (match es[i.toNat]? with
      | some cs => some (.val (.cref cs)) | none => none) else none
    | [.sl (some u) sz' es, .int _ i] => if sz = sz' ∧ 0 ≤ i then (match es[i.toNat]? with
      | some cs => some (.val (.eref u es.length i.toNat 0 cs)) | none => none) else none
    | _ => none
  | .ixa len sz => match vs with
    | [.ref s o, .int _ i] => if 0 ≤ i ∧ i < len then some (.val (.ref s (o + i.toNat * sz))) else none
    | [.cref cs, .int _ i] => if 0 ≤ i ∧ i < len then some (.val (.cref (cs.drop (i.toNat * sz)))) else none
    | [.eref t n j o cs, .int _ i] => if 0 ≤ i ∧ i < len then some (.val (.eref t n j (o + i.toNat * sz) cs)) else none
    | _ => none
  | .idx len sz n => match vs with
    | [.agg cs, .int _ i] => if 0 ≤ i ∧ i < len then valO2 (partV cs (i.toNat * sz) n) else none
    | _ => none
  | .mks sz bytes z => match vs with
    | [.int _ l, .int _ c] => if 0 ≤ l ∧ l ≤ c ∧ c * bytes ≤ 140737488355328 ∧ d < 9999 then
      some (.mk (.sl (some (d * 100)) sz (List.replicate l.toNat z)) (d * 100) []) else none
    | _ => none
  | .sls sz0 lo hi mx => match vs with
    | .sl none sz es :: vs => if sz0 = sz then (match bounds es.length es.length lo hi mx vs with
      | some (l, h) => some (.val (.sl none sz ((es.take h).drop l)))
      | none => none) else none
    | .sl (some u) sz es :: vs => if sz0 = sz ∧ memN (tb u / 100) ex = false then (match bounds es.length es.length lo hi mx vs with
      | some (l, h) => some (.prot (.sl none sz ((es.take h).drop l)) [u])
      | none => none) else none
    | .nil :: vs => (match bounds 0 0 lo hi mx vs with
      | some _ => some (.val .nil)
      | none => none)
    | _ => none
  | .ext i => match vs with
    | [.tup cs] => valO2 cs[i]?
    | _ => none
  | .call dr al mk => match vs with
    | .fn (.f f) caps :: vs => callE2 call bx d dr al mk f (vs ++ caps)
    | .fn (.m f) caps :: vs => callE2 call bx d dr al mk f (caps ++ vs)
    | .fn (.y a) [] :: vs => if dr = true then none else (match frzEL vs with
      | some (as, ps) => if ps.all (fun u => !memN (tb u / 100) ex) = true ∧ (as.all fun v => v.cells.all V.pm) = true then some (.yld a as ps) else none
      | none => none)
    | _ => none
  | .len => match vs with
    | [.sl _ _ es] => some (.val (.int .i64 es.length))
    | [.nil] => some (.val (.int .i64 0))
    | _ => none
  | .cap => match vs with
    | [.nil] => some (.val (.int .i64 0))
    | _ => none
  | .append dr sz bytes => match vs with
    | [.nil, y] => (match elsOf sz y with
      | some ys => if ys.length * bytes ≤ 140737488355328 ∧ d < 9999 then (if dr = true then some (.mk (.sl (some (2000000 + d * 100)) sz ys) (d * 100) []) else some (.mkg (.sl (some (2000000 + d * 100)) sz ys) d)) else none
      | none => none)
    | [.sl (some u) sz1 xs, y] => if sz = sz1 ∧ memN (tb u / 100) ex = false then (match elsOf sz y with
      | some ys => if (xs.length + ys.length) * bytes ≤ 140737488355328 then
        (if mbT u = true then (if tb u = d * 100 then (if dr = true then some (.app (.sl (some (unT u)) sz1 (xs ++ ys)) (d * 100)) else some (.mkg (.sl (some (unT u)) sz1 (xs ++ ys)) d)) else none)
          else some (.app (.sl (some u) sz1 (xs ++ ys)) (tb u))) else none
      | none => none) else none
    | _ => none
  | .appz sz bytes z => match vs with
    | [.nil, .int _ n] => if 0 ≤ n ∧ n * bytes ≤ 140737488355328 ∧ d < 9999 then some (.mkg (.sl (some (2000000 + d * 100)) sz (List.replicate n.toNat z)) d) else none
    | _ => none
  | .trunc sz => match vs with
    | [.sl (some u) sz' es, .int _ h] => if rwT u = true ∧ memN (tb u / 100) ex = false ∧ (mbT u = false ∨ 0 < h) ∧ sz = sz' ∧ 0 ≤ h ∧ h ≤ es.length then some (.app (.sl (some u) sz' (es.take h.toNat)) (tb u)) else none
    | _ => none
  | .max => match intsOf vs with
    | some (k, n :: ns) => some (.val (.int k (maxL n ns)))
    | _ => none
  | .min => match intsOf vs with
    | some (k, n :: ns) => some (.val (.int k (minL n ns)))
    | _ => none
  | .nilc => match vs with
    | [.ref s o] => some (.val (.ref s o))
    | [.cref cs] => some (.val (.cref cs))
    | [.eref t n i o cs] => some (.val (.eref t n i o cs))
    | [.fn f cs] => some (.val (.fn f cs))
    | _ => none
  | .sla _ _ _ _ _ => none
  | .bad => none
def apply2 (σ : St) (dst : Option Nat) : Eff2 → St
  | .val v => { σ with fr := putO σ.fr dst v }
  | .mk v t ps => { σ with fr := putO (killT t (roF ps σ.fr)) dst v }
  | .mkg v d => { σ with fr := putO (killG d σ.fr) dst v }
  | .app v t => { σ with fr := putO (killT t σ.fr) dst v }
  | .prot v ps => { σ with fr := putO (roF ps σ.fr) dst v }
  | .yld a as ps => { σ with fr := putO (roF ps σ.fr) dst (.bool (goesOn a σ.tr)), tr := σ.tr.map (· ++ [as]) }
  | .sto s cs => { σ with fr := putO (put σ.fr s (.box cs)) dst .und }
  | .est t n i e => { σ with fr := putO (estT t n i e σ.fr) dst .und }
  | .res v d m => { σ with fr := putO (killG d (if m = 0 then σ.fr else if m = 1 then roA σ.fr else ruA σ.fr)) dst v }
def stepI2 (call : Nat → List V → Option V) (i : LIns) (σ : St) : Option St :=
  match wanted σ.fr i.guard with
  | some true => match opds σ.fr i.xs with
    | some vs => (match sem2 call (bxOf σ.fr i.ex) i.ex (i.dst.getD 0) i.k vs with
      | some e => some (apply2 σ i.dst e)
      | none => none)
    | none => none
  | some false => some { σ with fr := putO σ.fr i.dst .und }
  | none => none
def stepL2 (call : Nat → List V → Option V) : List LIns → St → Option St
  | [], σ => some σ
  | i :: is, σ => match stepI2 call i σ with
    | some σ' => stepL2 call is σ'
    | none => none
def evC2 (call : Nat → List V → Option V) (N : Nat) : LCode → St → Option (Ex × St)
  | .skip, σ => some (.normal, σ)
  | .reg lp _ pp ops kn kp, σ => match stepL2 call ops (prep2 lp pp σ) with
    | some σ' => some (.normal, { σ' with fr := keepL kn kp σ'.fr })
    | none => none
  | .seq a b, σ => match evC2 call N a σ with
    | some (.normal, σ') => evC2 call N b σ'
    | r => r
  | .cond c a b, σ => match opd σ.fr c with
    | some (.bool t) => if t = true then evC2 call N a σ else evC2 call N b σ
    | _ => none
  | .block id a, σ => match evC2 call N a σ with
    | some (.exit j, σ') => if j = id then some (.normal, σ') else some (.exit j, σ')
    | r => r
  | .loop a, σ => iter (evC2 call N a) N σ
  | .rng g ps wr asg body, σ => match σ.tr, opd σ.fr g with
    | none, some (.fn (.f f) caps) => (match frzEL caps with
      | some (cs, ts) => if (cs.all fun v => v.cells.all V.pm) = true then
          rngE (roundE (evC2 call N asg) (evC2 call N body) ps wr) (fun a => call f (.fn (.y a) [] :: cs)) { σ with fr := dropL wr (roF ts σ.fr) } else none
      | none => none)
    | none, some (.fn (.m f) caps) => (match frzEL caps with
      | some (cs, ts) => if (cs.all fun v => v.cells.all V.pm) = true then
          rngE (roundE (evC2 call N asg) (evC2 call N body) ps wr) (fun a => call f (cs ++ [.fn (.y a) []])) { σ with fr := dropL wr (roF ts σ.fr) } else none
      | none => none)
    | _, _ => none
  | .exit id, σ => some (.exit id, σ)
  | .ret, σ => some (.ret, σ)
  | .bad, _ => none

/-! ### Functions -/
mutual
/-- A result: its arrays are numbered by their places. -/
def V.fin2 : V → Nat × List Nat → Option (V × Nat × List Nat)
  | .bool b, us => some (.bool b, us)
  | .int k n, us => some (.int k n, us)
  | .nil, (c, us) => some (.nil, c + 1, us)
  | .sl none sz es, (c, us) => some (.sl none sz es, c + 1, us)
  | .sl (some u) sz es, (c, us) => if memN (tb u) us = true then none else
    if rwT u = true ∧ c < 1000000 then some (.sl (some (if mbT u = true then 2000000 + c else c)) sz es, c + 1, tb u :: us) else
    if roX u = true then some (.sl none sz es, c + 1, us) else none
  | .agg cs, us => match finL2 cs us with
    | some (cs', us') => some (.agg cs', us')
    | none => none
  | _, _ => none
def finL2 : List V → Nat × List Nat → Option (List V × Nat × List Nat)
  | [], us => some ([], us)
  | v :: vs, us => match v.fin2 us with
    | some (v', us') => (match finL2 vs us' with
      | some (vs', us'') => some (v' :: vs', us'')
      | none => none)
    | none => none
end
def result2 (res : List RV) (σ : St) : Option V :=
  match rvs σ.fr res with
  | some vs => (match finL2 vs (0, []) with
    | some (vs', _) => some (one vs')
    | none => none)
  | none => none
def finish2 (it : Bool) (res : List RV) (σ : St) : Option V :=
  if it = true then (if res.isEmpty = true then (match σ.tr with
    | some l => some (.tup (tupsL l))
    | none => none) else none) else result2 res σ
/-- No argument is unknown. -/
def liveL : List V → Bool
  | [] => true
  | .dead :: _ => false
  | _ :: vs => liveL vs
def evBody2 (call : Nat → List V → Option V) (N : Nat) (lf : LFun) (args : List V) : Option V :=
  if args.length = lf.np ∧ liveL args = true then
    match evC2 call N lf.body { fr := params 0 args ++ deadL lf.sl, tk := [], tr := if ranged args = true then some [] else none } with
    | some (.normal, σ) => finish2 (ranged args) lf.res σ
    | some (.ret, σ) => finish2 (ranged args) lf.res σ
    | _ => none
  else none
/-! ### The code of the logical machine: constants that stand for nil are nil -/
mutual
def V.unV : V → V
  | .sl _ _ [] => .nil
  | .agg cs => .agg (unVL cs)
  | v => v
def unVL : List V → List V
  | [] => []
  | v :: vs => v.unV :: unVL vs
end
mutual
def V.okV : V → Bool
  | .und => true
  | .dead => true
  | .bool _ => true
  | .int _ _ => true
  | .nil => true
  | .sl none _ [] => true
  | .sl (some u) _ [] => mbT u
  | .agg cs => okVL cs
  | .fn _ [] => true
  | _ => false
def okVL : List V → Bool
  | [] => true
  | v :: vs => v.okV && okVL vs
end
def unO : Opd → Opd
  | .c v => .c v.unV
  | o => o
def okO : Opd → Bool
  | .c v => v.okV
  | _ => true
def unK : K → K
  | .alloc zs => .alloc (unVL zs)
  | .build zs pl => .build (unVL zs) pl
  | .bsl sz z len ix => .bsl sz (unVL z) len ix
  | .mks sz b z => .mks sz b (unVL z)
  | .appz sz b z => .appz sz b (unVL z)
  | k => k
def okK : K → Bool
  | .alloc zs => okVL zs
  | .build zs _ => okVL zs
  | .bsl _ z _ _ => okVL z
  | .mks _ _ z => okVL z
  | .appz _ _ z => okVL z
  | _ => true
def unI (i : LIns) : LIns := { dst := i.dst, k := unK i.k, xs := i.xs.map unO, guard := i.guard, ex := i.ex }
def okI (i : LIns) : Bool := okK i.k && i.xs.all okO
def unC : LCode → LCode
  | .reg lp ds pp ops kn kp => .reg lp ds pp (ops.map unI) kn kp
  | .seq a b => .seq (unC a) (unC b)
  | .cond c a b => .cond (unO c) (unC a) (unC b)
  | .block id a => .block id (unC a)
  | .loop a => .loop (unC a)
  | .rng g ps wr a b => .rng (unO g) ps wr (unC a) (unC b)
  | c => c
def okC : LCode → Bool
  | .reg _ _ _ ops _ _ => ops.all okI
  | .seq a b => okC a && okC b
  | .cond c a b => okO c && okC a && okC b
  | .block _ a => okC a
  | .loop a => okC a
  | .rng g _ _ a b => okO g && okC a && okC b
  | _ => true
def unF (f : LFun) : LFun := { np := f.np, nt := f.nt, sl := f.sl, body := unC f.body, res := f.res }
def evF2 (F : Nat → Option (List V → Option V)) (C : Nat → Option LFun) : Nat → Nat → List V → Option V
  | 0, _, _ => none
  | n + 1, f, args => match F f with
    | some g => g args
    | none => match C f with
      | some lf => evBody2 (evF2 F C n) n lf args
      | none => none
end Go.Lo

/- What a value of the plain machine says of one of the logical machine. -/
namespace Go.Lo

abbrev TkF := Nat → Option (Nat × Bool)
def noT : TkF := fun _ => none
/-- The array of a token: so many elements; the marks are right. -/
def TokR (tk : TkF) (u n : Nat) : Prop := ∃ w, tk (tb u) = some (n, w) ∧ (rwT u = true → w = true) ∧ (roX u = true → w = false) ∧ (mbT u = true → n ≠ 0)

mutual
def Rel : V → TkF → V → Prop
  | .und, _, v => v = .und
  | .dead, _, _ => True
  | .bool b, _, v => v = .bool b
  | .int k n, _, v => v = .int k n
  | .agg cs, tk, v => ∃ ds, v = .agg ds ∧ RelL cs tk ds
  | .tup cs, tk, v => ∃ ds, v = .tup ds ∧ RelL cs tk ds
  | .nil, _, v => v = .nil
  | .sl none sz es, _, v => (es = [] ∧ v = .nil) ∨ ∃ es', v = .sl none sz es' ∧ RelE es es'
  | .sl (some u) sz es, tk, v => (mbT u = true ∧ es = [] ∧ v = .nil) ∨ ∃ es', v = .sl (some (tb u)) sz es' ∧ RelE es es' ∧ TokR tk u es.length
  | .fn f cs, tk, v => ∃ ds, v = .fn f ds ∧ RelL cs tk ds
  | .ref s o, _, v => v = .ref s o
  | .cref cs, _, v => ∃ ds, v = .cref ds ∧ RelL cs noT ds
  | .eref u n i o cs, tk, v => ∃ ds, v = .eref (tb u) n i o ds ∧ RelL cs noT ds ∧ TokR tk u n
  | .box cs, tk, v => ∃ ds, v = .box ds ∧ RelL cs tk ds
def RelL : List V → TkF → List V → Prop
  | [], _, ds => ds = []
  | c :: cs, tk, ds => ∃ d r, ds = d :: r ∧ Rel c tk d ∧ RelL cs tk r
def RelE : List (List V) → List (List V) → Prop
  | [], ds => ds = []
  | c :: cs, ds => ∃ d r, ds = d :: r ∧ RelL c noT d ∧ RelE cs r
end

section
variable {tk tk' : TkF}
/-! ### Lists -/
theorem RelL.length : ∀ {cs ds : List V}, RelL cs tk ds → ds.length = cs.length
  | [], _, h => by simp only [RelL] at h; subst h; rfl
  | c :: cs, _, h => by
    simp only [RelL] at h
    obtain ⟨d, r, rfl, _, h⟩ := h
    simp [RelL.length h]
theorem RelE.length : ∀ {cs ds : List (List V)}, RelE cs ds → ds.length = cs.length
  | [], _, h => by simp only [RelE] at h; subst h; rfl
  | c :: cs, _, h => by
    simp only [RelE] at h
    obtain ⟨d, r, rfl, _, h⟩ := h
    simp [RelE.length h]
theorem RelL.nil : RelL [] tk [] := by simp [RelL]
theorem RelL.cons {c d : V} {cs ds : List V} (h : Rel c tk d) (k : RelL cs tk ds) : RelL (c :: cs) tk (d :: ds) := by
  simp only [RelL]; exact ⟨d, ds, rfl, h, k⟩
theorem RelE.nil : RelE [] [] := by simp [RelE]
theorem RelE.cons {c d : List V} {cs ds : List (List V)} (h : RelL c noT d) (k : RelE cs ds) : RelE (c :: cs) (d :: ds) := by
  simp only [RelE]; exact ⟨d, ds, rfl, h, k⟩
theorem RelL.one {c d : V} (h : Rel c tk d) : RelL [c] tk [d] := RelL.cons h RelL.nil
theorem RelL.append : ∀ {cs ds cs' ds' : List V}, RelL cs tk ds → RelL cs' tk ds' → RelL (cs ++ cs') tk (ds ++ ds')
  | [], _, _, _, h, k => by simp only [RelL] at h; subst h; exact k
  | c :: cs, _, _, _, h, k => by
    simp only [RelL] at h
    obtain ⟨d, r, rfl, h1, h⟩ := h
    exact RelL.cons h1 (h.append k)
theorem RelE.append : ∀ {cs ds cs' ds' : List (List V)}, RelE cs ds → RelE cs' ds' → RelE (cs ++ cs') (ds ++ ds')
  | [], _, _, _, h, k => by simp only [RelE] at h; subst h; exact k
  | c :: cs, _, _, _, h, k => by
    simp only [RelE] at h
    obtain ⟨d, r, rfl, h1, h⟩ := h
    exact RelE.cons h1 (h.append k)
theorem RelL.drop : ∀ {cs ds : List V}, RelL cs tk ds → ∀ n, RelL (cs.drop n) tk (ds.drop n)
  | [], _, h, n => by simp only [RelL] at h; subst h; simpa using RelL.nil
  | c :: cs, _, h, 0 => h
  | c :: cs, _, h, n + 1 => by
    simp only [RelL] at h
    obtain ⟨d, r, rfl, _, h⟩ := h
    exact h.drop n
theorem RelL.take : ∀ {cs ds : List V}, RelL cs tk ds → ∀ n, RelL (cs.take n) tk (ds.take n)
  | [], _, h, n => by simp only [RelL] at h; subst h; simpa using RelL.nil
  | c :: cs, _, h, 0 => by simpa using RelL.nil
  | c :: cs, _, h, n + 1 => by
    simp only [RelL] at h
    obtain ⟨d, r, rfl, h1, h⟩ := h
    exact RelL.cons h1 (h.take n)
theorem RelE.drop : ∀ {cs ds : List (List V)}, RelE cs ds → ∀ n, RelE (cs.drop n) (ds.drop n)
  | [], _, h, n => by simp only [RelE] at h; subst h; simpa using RelE.nil
  | c :: cs, _, h, 0 => h
  | c :: cs, _, h, n + 1 => by
    simp only [RelE] at h
    obtain ⟨d, r, rfl, _, h⟩ := h
    exact h.drop n
theorem RelE.take : ∀ {cs ds : List (List V)}, RelE cs ds → ∀ n, RelE (cs.take n) (ds.take n)
  | [], _, h, n => by simp only [RelE] at h; subst h; simpa using RelE.nil
  | c :: cs, _, h, 0 => by simpa using RelE.nil
  | c :: cs, _, h, n + 1 => by
    simp only [RelE] at h
    obtain ⟨d, r, rfl, h1, h⟩ := h
    exact RelE.cons h1 (h.take n)
theorem RelL.get : ∀ {cs ds : List V}, RelL cs tk ds → ∀ {i : Nat} {c : V}, cs[i]? = some c → ∃ d, ds[i]? = some d ∧ Rel c tk d
  | [], _, _, _, _, hi => by simp at hi
  | c :: cs, _, h, i, x, hi => by
    simp only [RelL] at h
    obtain ⟨d, r, rfl, h1, h⟩ := h
    cases i with
    | zero => simp at hi; subst hi; exact ⟨d, rfl, h1⟩
    | succ i => simpa using h.get (by simpa using hi)
theorem RelE.get : ∀ {cs ds : List (List V)}, RelE cs ds → ∀ {i : Nat} {c : List V}, cs[i]? = some c → ∃ d, ds[i]? = some d ∧ RelL c noT d
  | [], _, _, _, _, hi => by simp at hi
  | c :: cs, _, h, i, x, hi => by
    simp only [RelE] at h
    obtain ⟨d, r, rfl, h1, h⟩ := h
    cases i with
    | zero => simp at hi; subst hi; exact ⟨d, rfl, h1⟩
    | succ i => simpa using h.get (by simpa using hi)
theorem RelE.set : ∀ {cs ds : List (List V)}, RelE cs ds → ∀ (i : Nat) {e f : List V}, RelL e noT f → RelE (cs.set i e) (ds.set i f)
  | [], _, h, _, _, _, _ => by simp only [RelE] at h; subst h; simpa using RelE.nil
  | c :: cs, _, h, i, e, f, he => by
    simp only [RelE] at h
    obtain ⟨d, r, rfl, h1, h⟩ := h
    cases i with
    | zero => exact RelE.cons he h
    | succ i => exact RelE.cons h1 (h.set i he)
theorem RelE.replicate {z z' : List V} (h : RelL z noT z') : ∀ n, RelE (List.replicate n z) (List.replicate n z')
  | 0 => by simpa using RelE.nil
  | n + 1 => by simp only [List.replicate_succ]; exact RelE.cons h (RelE.replicate h n)
theorem RelE.nil_left {ds : List (List V)} (h : RelE [] ds) : ds = [] := by simpa [RelE] using h
theorem RelE.nil_right {cs : List (List V)} (h : RelE cs []) : cs = [] := by
  have := h.length
  simpa using this.symm
/-! ### Tokens alone are turned -/
theorem TokR.mono {u n : Nat} (h : TokR tk u n) (k : ∀ t x, tk t = some x → tk' t = some x) : TokR tk' u n := by
  obtain ⟨w, h1, h2⟩ := h
  exact ⟨w, k _ _ h1, h2⟩
theorem no_tok {u n : Nat} (h : TokR noT u n) : False := by
  obtain ⟨w, h, _⟩ := h
  cases h
/-- What turns values of the logical machine, part by part. -/
structure Hom (φ : V → V) : Prop where
  und : φ .und = .und
  bool : ∀ b, φ (.bool b) = .bool b
  int : ∀ k n, φ (.int k n) = .int k n
  nil : φ .nil = .nil
  sl : ∀ sz es, φ (.sl none sz es) = .sl none sz es
  cref : ∀ cs, φ (.cref cs) = .cref cs
  agg : ∀ cs, φ (.agg cs) = .agg (cs.map φ)
  tup : ∀ cs, φ (.tup cs) = .tup (cs.map φ)
  box : ∀ cs, φ (.box cs) = .box (cs.map φ)
  fn : ∀ f cs, φ (.fn f cs) = .fn f (cs.map φ)
theorem Hom.id : Hom fun v => v := ⟨rfl, fun _ => rfl, fun _ _ => rfl, rfl, fun _ _ => rfl, fun _ => rfl, fun _ => by simp, fun _ => by simp, fun _ => by simp, fun _ _ => by simp⟩
theorem prepL_map (ds : List Nat) : ∀ cs, prepL ds cs = cs.map (V.prep ds)
  | [] => rfl
  | c :: cs => by simp only [prepL, List.map_cons, prepL_map ds cs]
theorem Hom.prep (ds : List Nat) : Hom (V.prep ds) := ⟨rfl, fun _ => rfl, fun _ _ => rfl, rfl, fun _ _ => rfl, fun _ => rfl, fun _ => by simp only [V.prep, prepL_map], fun _ => by simp only [V.prep, prepL_map], fun _ => by simp only [V.prep, prepL_map], fun _ _ => by simp only [V.prep, prepL_map]⟩
theorem killL_map (t : Nat) : ∀ cs, killL t cs = cs.map (V.kill t)
  | [] => rfl
  | c :: cs => by simp only [killL, List.map_cons, killL_map t cs]
theorem Hom.kill (t : Nat) : Hom (V.kill t) := ⟨rfl, fun _ => rfl, fun _ _ => rfl, rfl, fun _ _ => rfl, fun _ => rfl, fun _ => by simp only [V.kill, killL_map], fun _ => by simp only [V.kill, killL_map], fun _ => by simp only [V.kill, killL_map], fun _ _ => by simp only [V.kill, killL_map]⟩
theorem estL_map (t n i : Nat) (e : List V) : ∀ cs, estL t n i e cs = cs.map (V.est t n i e)
  | [] => rfl
  | c :: cs => by simp only [estL, List.map_cons, estL_map t n i e cs]
theorem Hom.est (t n i : Nat) (e : List V) : Hom (V.est t n i e) := ⟨rfl, fun _ => rfl, fun _ _ => rfl, rfl, fun _ _ => rfl, fun _ => rfl, fun _ => by simp only [V.est, estL_map], fun _ => by simp only [V.est, estL_map], fun _ => by simp only [V.est, estL_map], fun _ _ => by simp only [V.est, estL_map]⟩
mutual
theorem Rel.mp {φ : V → V} (hφ : Hom φ) {g : Nat → Nat → List (List V) → V} {h : Nat → Nat → Nat → Nat → List V → V} {r : Nat → Nat → V}
    (hg : ∀ u sz es v, Rel (.sl (some u) sz es) tk v → Rel (g u sz es) tk' (φ v)) (hh : ∀ u n i o cs v, Rel (.eref u n i o cs) tk v → Rel (h u n i o cs) tk' (φ v)) (hr : ∀ s o, Rel (r s o) tk' (φ (.ref s o))) : ∀ (w v : V), Rel w tk v → Rel (w.mp g h r) tk' (φ v)
  | .und, v, hv => by simp only [Rel] at hv; subst hv; simp only [V.mp, Rel, hφ.und]
  | .dead, v, hv => by simp only [V.mp, Rel]
  | .bool b, v, hv => by simp only [Rel] at hv; subst hv; simp only [V.mp, Rel, hφ.bool]
  | .int k n, v, hv => by simp only [Rel] at hv; subst hv; simp only [V.mp, Rel, hφ.int]
  | .nil, v, hv => by simp only [Rel] at hv; subst hv; simp only [V.mp, Rel, hφ.nil]
  | .sl none sz es, v, hv => by
    simp only [Rel] at hv
    simp only [V.mp, Rel]
    rcases hv with ⟨h1, rfl⟩ | ⟨es', rfl, h1⟩
    · exact .inl ⟨h1, hφ.nil⟩
    · exact .inr ⟨es', hφ.sl _ _, h1⟩
  | .sl (some u) sz es, v, hv => by simp only [V.mp]; exact hg u sz es v hv
  | .ref s o, v, hv => by simp only [Rel] at hv; subst hv; simp only [V.mp]; exact hr s o
  | .cref cs, v, hv => by
    simp only [Rel] at hv
    obtain ⟨ds, rfl, h1⟩ := hv
    simp only [V.mp, Rel]
    exact ⟨ds, hφ.cref _, h1⟩
  | .eref u n i o cs, v, hv => by simp only [V.mp]; exact hh u n i o cs v hv
  | .agg cs, v, hv => by
    simp only [Rel] at hv
    obtain ⟨ds, rfl, h1⟩ := hv
    simp only [V.mp, Rel]
    exact ⟨_, hφ.agg _, RelL.mp hφ hg hh hr cs ds h1⟩
  | .tup cs, v, hv => by
    simp only [Rel] at hv
    obtain ⟨ds, rfl, h1⟩ := hv
    simp only [V.mp, Rel]
    exact ⟨_, hφ.tup _, RelL.mp hφ hg hh hr cs ds h1⟩
  | .box cs, v, hv => by
    simp only [Rel] at hv
    obtain ⟨ds, rfl, h1⟩ := hv
    simp only [V.mp, Rel]
    exact ⟨_, hφ.box _, RelL.mp hφ hg hh hr cs ds h1⟩
  | .fn f cs, v, hv => by
    simp only [Rel] at hv
    obtain ⟨ds, rfl, h1⟩ := hv
    simp only [V.mp, Rel]
    exact ⟨_, hφ.fn _ _, RelL.mp hφ hg hh hr cs ds h1⟩
theorem RelL.mp {φ : V → V} (hφ : Hom φ) {g : Nat → Nat → List (List V) → V} {h : Nat → Nat → Nat → Nat → List V → V} {r : Nat → Nat → V}
    (hg : ∀ u sz es v, Rel (.sl (some u) sz es) tk v → Rel (g u sz es) tk' (φ v)) (hh : ∀ u n i o cs v, Rel (.eref u n i o cs) tk v → Rel (h u n i o cs) tk' (φ v)) (hr : ∀ s o, Rel (r s o) tk' (φ (.ref s o))) : ∀ (ws vs : List V), RelL ws tk vs → RelL (mpL g h r ws) tk' (vs.map φ)
  | [], vs, hv => by simp only [RelL] at hv; subst hv; simpa [mpL] using RelL.nil
  | w :: ws, vs, hv => by
    simp only [RelL] at hv
    obtain ⟨d, q, rfl, h1, h2⟩ := hv
    simp only [mpL, List.map_cons]
    exact RelL.cons (Rel.mp hφ hg hh hr w d h1) (RelL.mp hφ hg hh hr ws q h2)
end
mutual
theorem mp_id : ∀ v : V, v.mp (fun u sz es => .sl (some u) sz es) (fun u n i o cs => .eref u n i o cs) .ref = v
  | .agg cs => by simp only [V.mp, mpL_id cs]
  | .tup cs => by simp only [V.mp, mpL_id cs]
  | .box cs => by simp only [V.mp, mpL_id cs]
  | .fn f cs => by simp only [V.mp, mpL_id cs]
  | .sl (some u) sz es => rfl
  | .sl none _ _ => rfl
  | .ref _ _ => rfl
  | .eref _ _ _ _ _ => rfl
  | .und => rfl
  | .dead => rfl
  | .bool _ => rfl
  | .int _ _ => rfl
  | .nil => rfl
  | .cref _ => rfl
theorem mpL_id : ∀ vs : List V, mpL (fun u sz es => .sl (some u) sz es) (fun u n i o cs => .eref u n i o cs) .ref vs = vs
  | [] => rfl
  | v :: vs => by simp only [mpL, mp_id v, mpL_id vs]
end
theorem Rel.mono {w v : V} (h : Rel w tk v) (k : ∀ t x, tk t = some x → tk' t = some x) : Rel w tk' v := by
  have := Rel.mp (tk := tk) (tk' := tk') Hom.id (g := fun u sz es => .sl (some u) sz es) (h := fun u n i o cs => .eref u n i o cs) (r := .ref) (fun u sz es v hv => by
    simp only [Rel] at hv ⊢
    rcases hv with hv | ⟨es', h1, h2, h3⟩
    · exact .inl hv
    · exact .inr ⟨es', h1, h2, h3.mono k⟩) (fun u n i o cs v hv => by
    simp only [Rel] at hv ⊢
    obtain ⟨ds, h1, h2, h3⟩ := hv
    exact ⟨ds, h1, h2, h3.mono k⟩) (fun s o => by simp only [Rel]) w v h
  rwa [mp_id] at this
theorem RelL.mono {ws vs : List V} (h : RelL ws tk vs) (k : ∀ t x, tk t = some x → tk' t = some x) : RelL ws tk' vs := by
  induction ws generalizing vs with
  | nil => simpa [RelL] using h
  | cons w ws ih =>
    simp only [RelL] at h
    obtain ⟨d, q, rfl, h1, h2⟩ := h
    exact RelL.cons (h1.mono k) (ih h2)
theorem RelL.wk {ws vs : List V} (h : RelL ws noT vs) : RelL ws tk vs := h.mono fun _ _ h => by cases h
theorem Rel.wk {w v : V} (h : Rel w noT v) : Rel w tk v := h.mono fun _ _ h => by cases h
/-! ### Parts -/
theorem Rel.cells {w v : V} (h : Rel w tk v) (hd : w.cells.all V.cellOk = true) : RelL w.cells tk v.cells := by
  cases w with
  | agg cs => simp only [Rel] at h; obtain ⟨ds, rfl, h1⟩ := h; exact h1
  | und => simp [V.cells, V.cellOk] at hd
  | dead => simp [V.cells, V.cellOk] at hd
  | box cs => simp [V.cells, V.cellOk] at hd
  | tup cs => simp [V.cells, V.cellOk] at hd
  | bool b => simp only [Rel] at h; subst h; exact RelL.one (by simp only [Rel])
  | int k n => simp only [Rel] at h; subst h; exact RelL.one (by simp only [Rel])
  | nil => simp only [Rel] at h; subst h; exact RelL.one (by simp only [Rel])
  | ref s o => simp only [Rel] at h; subst h; exact RelL.one (by simp only [Rel])
  | sl t sz es =>
    have : v.cells = [v] := by
      cases t with
      | none => simp only [Rel] at h; rcases h with ⟨_, rfl⟩ | ⟨_, rfl, _⟩ <;> rfl
      | some u => simp only [Rel] at h; rcases h with ⟨_, _, rfl⟩ | ⟨_, rfl, _⟩ <;> rfl
    rw [this]; exact RelL.one h
  | fn f cs =>
    have : v.cells = [v] := by simp only [Rel] at h; obtain ⟨_, rfl, _⟩ := h; rfl
    rw [this]; exact RelL.one h
  | cref cs =>
    have : v.cells = [v] := by simp only [Rel] at h; obtain ⟨_, rfl, _⟩ := h; rfl
    rw [this]; exact RelL.one h
  | eref t n i o cs =>
    have : v.cells = [v] := by simp only [Rel] at h; obtain ⟨_, rfl, _⟩ := h; rfl
    rw [this]; exact RelL.one h
theorem Rel.cellOk {w v : V} (h : Rel w tk v) (hd : w.cellOk = true) : v.cellOk = true := by
  cases w with
  | sl t sz es =>
    cases t with
    | none => simp only [Rel] at h; rcases h with ⟨_, rfl⟩ | ⟨_, rfl, _⟩ <;> rfl
    | some u => simp only [Rel] at h; rcases h with ⟨_, _, rfl⟩ | ⟨_, rfl, _⟩ <;> rfl
  | bool b => simp only [Rel] at h; subst h; rfl
  | int k n => simp only [Rel] at h; subst h; rfl
  | nil => simp only [Rel] at h; subst h; rfl
  | ref s o => simp only [Rel] at h; subst h; rfl
  | fn f cs => simp only [Rel] at h; obtain ⟨_, rfl, _⟩ := h; rfl
  | cref cs => simp only [Rel] at h; obtain ⟨_, rfl, _⟩ := h; rfl
  | eref t n i o cs => simp only [Rel] at h; obtain ⟨_, rfl, _⟩ := h; rfl
  | _ => simp [V.cellOk] at hd
theorem RelL.cellOk : ∀ {cs ds : List V}, RelL cs tk ds → cs.all V.cellOk = true → ds.all V.cellOk = true
  | [], _, h, _ => by simp only [RelL] at h; subst h; rfl
  | c :: cs, _, h, k => by
    simp only [RelL] at h
    obtain ⟨d, r, rfl, h1, h2⟩ := h
    simp only [List.all_cons, Bool.and_eq_true] at k ⊢
    exact ⟨h1.cellOk k.1, h2.cellOk k.2⟩
/-- What may lie in an array leads to no array of the frame. -/
theorem Rel.pm {w v : V} (h : Rel w tk v) (hd : w.pm = true) : v.pm = true ∧ Rel w noT v := by
  cases w with
  | sl t sz es =>
    cases t with
    | none => simp only [Rel] at h ⊢; refine ⟨?_, h⟩; rcases h with ⟨_, rfl⟩ | ⟨_, rfl, _⟩ <;> rfl
    | some u => simp [V.pm] at hd
  | bool b => simp only [Rel] at h ⊢; subst h; exact ⟨rfl, rfl⟩
  | int k n => simp only [Rel] at h ⊢; subst h; exact ⟨rfl, rfl⟩
  | nil => simp only [Rel] at h ⊢; subst h; exact ⟨rfl, rfl⟩
  | fn f cs =>
    cases f <;> cases cs <;> simp [V.pm] at hd
    simp only [Rel] at h ⊢
    obtain ⟨_, rfl, h⟩ := h
    simp only [RelL] at h; subst h
    exact ⟨rfl, _, rfl, RelL.nil⟩
  | _ => simp [V.pm] at hd
theorem RelL.pm : ∀ {cs ds : List V}, RelL cs tk ds → cs.all V.pm = true → ds.all V.pm = true ∧ RelL cs noT ds
  | [], _, h, _ => by simp only [RelL] at h; subst h; exact ⟨rfl, RelL.nil⟩
  | c :: cs, _, h, k => by
    simp only [RelL] at h
    obtain ⟨d, r, rfl, h1, h2⟩ := h
    simp only [List.all_cons, Bool.and_eq_true] at k ⊢
    obtain ⟨a1, a2⟩ := h1.pm k.1
    obtain ⟨b1, b2⟩ := h2.pm k.2
    exact ⟨⟨a1, b1⟩, RelL.cons a2 b2⟩
theorem pm_cellOk {v : V} (h : v.pm = true) : v.cellOk = true := by
  cases v <;> first | rfl | (simp [V.pm] at h)
theorem all_pm_cellOk {vs : List V} (h : vs.all V.pm = true) : vs.all V.cellOk = true := by
  rw [List.all_eq_true] at h ⊢
  exact fun v hv => pm_cellOk (h v hv)
theorem partV_rel {cs ds : List V} (h : RelL cs tk ds) {off : Nat} {n : Option Nat} {w : V} (hw : partV cs off n = some w) : ∃ v, partV ds off n = some v ∧ Rel w tk v := by
  cases n with
  | none => exact h.get hw
  | some n =>
    simp only [partV] at hw ⊢
    split at hw
    · rename_i hl
      injection hw with hw; subst hw
      rw [if_pos (by rw [h.length]; exact hl)]
      refine ⟨_, rfl, ?_⟩
      simp only [Rel]
      exact ⟨_, rfl, (h.drop off).take n⟩
    · cases hw
theorem splice_rel {cs ds new new' cs' : List V} (h : RelL cs tk ds) (hn : RelL new tk new') {off : Nat} (hs : splice cs off new = some cs') : ∃ ds', splice ds off new' = some ds' ∧ RelL cs' tk ds' := by
  unfold splice at hs ⊢
  split at hs
  · rename_i hl
    injection hs with hs; subst hs
    rw [if_pos (by rw [h.length, hn.length]; exact hl)]
    refine ⟨_, rfl, ?_⟩
    rw [hn.length]
    exact ((h.take off).append hn).append (h.drop _)
  · cases hs
theorem fill_rel : ∀ {pl : List (Nat × Nat)} {ws vs cs ds cs' : List V}, RelL ws tk vs → RelL cs tk ds → fill pl ws cs = some cs' → ∃ ds', fill pl vs ds = some ds' ∧ RelL cs' tk ds'
  | [], [], vs, cs, ds, cs', h, k, hf => by
    simp only [RelL] at h; subst h
    simp only [fill, Option.some.injEq] at hf ⊢
    subst hf
    exact ⟨ds, rfl, k⟩
  | [], w :: ws, vs, cs, ds, cs', h, k, hf => by simp [fill] at hf
  | (off, n) :: pl, [], vs, cs, ds, cs', h, k, hf => by simp [fill] at hf
  | (off, n) :: pl, w :: ws, vs, cs, ds, cs', h, k, hf => by
    simp only [RelL] at h
    obtain ⟨v, r, rfl, h1, h2⟩ := h
    simp only [fill] at hf ⊢
    split at hf
    · rename_i hc
      have hcl := h1.cells hc.2
      rw [if_pos ⟨by rw [hcl.length]; exact hc.1, hcl.cellOk hc.2⟩]
      split at hf
      · rename_i c1 hs
        obtain ⟨d1, e1, e2⟩ := splice_rel k hcl hs
        rw [e1]
        exact fill_rel h2 e2 hf
      · cases hf
    · cases hf
theorem popI_ints {c : Bool} {df i : Int} {vs r : List V} (h : popI c df vs = some (i, r)) : vs = r ∨ ∃ k, vs = .int k i :: r := by
  unfold popI at h
  split at h
  · split at h
    · simp only [Option.some.injEq, Prod.mk.injEq] at h
      obtain ⟨rfl, rfl⟩ := h
      exact .inr ⟨_, rfl⟩
    · cases h
  · simp only [Option.some.injEq, Prod.mk.injEq] at h
    exact .inl h.2
theorem bounds_eq {len n : Nat} {lo hi mx : Bool} {vs : List V} : bounds len n lo hi mx vs = (match popI lo 0 vs with
    | none => none
    | some (l, vs) => match popI hi len vs with
      | none => none
      | some (h, vs) => match popI mx n vs with
        | some (m, []) => if 0 ≤ l ∧ l ≤ h ∧ h ≤ m ∧ m ≤ n then some (l.toNat, h.toNat) else none
        | _ => none) := rfl
theorem bounds_ints {len n : Nat} {lo hi mx : Bool} {ws : List V} {x : Nat × Nat} (h : bounds len n lo hi mx ws = some x) : ∀ w ∈ ws, ∃ k i, w = .int k i := by
  rw [bounds_eq] at h
  split at h
  · cases h
  · rename_i l v1 h1
    split at h
    · cases h
    · rename_i hh v2 h2
      split at h
      · rename_i m h3
        intro w hw
        rcases popI_ints h1 with rfl | ⟨k1, rfl⟩ <;> rcases popI_ints h2 with rfl | ⟨k2, rfl⟩ <;> rcases popI_ints h3 with rfl | ⟨k3, rfl⟩ <;> simp at hw <;>
          first | (subst hw; exact ⟨_, _, rfl⟩) | (rcases hw with rfl | rfl | rfl <;> exact ⟨_, _, rfl⟩) | (rcases hw with rfl | rfl <;> exact ⟨_, _, rfl⟩)
      · cases h
theorem ints_rel : ∀ {ws vs : List V}, RelL ws tk vs → (∀ w ∈ ws, ∃ k i, w = .int k i) → vs = ws
  | [], vs, h, _ => by simpa [RelL] using h
  | w :: ws, vs, h, k => by
    obtain ⟨q, i, rfl⟩ := k w (by simp)
    simp only [RelL, Rel] at h
    obtain ⟨d, r, rfl, rfl, h⟩ := h
    rw [ints_rel h fun w hw => k w (by simp [hw])]
theorem bounds_rel {len n : Nat} {lo hi mx : Bool} {ws vs : List V} {x : Nat × Nat} (h : RelL ws tk vs) (hb : bounds len n lo hi mx ws = some x) : bounds len n lo hi mx vs = some x := by
  rw [ints_rel h (bounds_ints hb)]; exact hb
theorem intsOf_rel : ∀ {ws vs : List V} {x : IntKind × List Int}, RelL ws tk vs → intsOf ws = some x → vs = ws
  | [], vs, x, h, hi => by simp [intsOf] at hi
  | [.int k n], vs, x, h, hi => by
    simp only [RelL, Rel] at h
    obtain ⟨d, r, rfl, rfl, rfl⟩ := h
    rfl
  | .int k n :: v :: ws, vs, x, h, hi => by
    simp only [intsOf] at hi
    rw [RelL] at h
    obtain ⟨d, r, rfl, h1, h⟩ := h
    simp only [Rel] at h1; subst h1
    split at hi
    · rename_i k' ns h2
      rw [intsOf_rel h h2]
    · cases hi
  | .und :: _, vs, x, h, hi => by simp [intsOf] at hi
  | .dead :: _, vs, x, h, hi => by simp [intsOf] at hi
  | .bool _ :: _, vs, x, h, hi => by simp [intsOf] at hi
  | .agg _ :: _, vs, x, h, hi => by simp [intsOf] at hi
  | .tup _ :: _, vs, x, h, hi => by simp [intsOf] at hi
  | .nil :: _, vs, x, h, hi => by simp [intsOf] at hi
  | .sl _ _ _ :: _, vs, x, h, hi => by simp [intsOf] at hi
  | .fn _ _ :: _, vs, x, h, hi => by simp [intsOf] at hi
  | .ref _ _ :: _, vs, x, h, hi => by simp [intsOf] at hi
  | .cref _ :: _, vs, x, h, hi => by simp [intsOf] at hi
  | .eref _ _ _ _ _ :: _, vs, x, h, hi => by simp [intsOf] at hi
  | .box _ :: _, vs, x, h, hi => by simp [intsOf] at hi
theorem eqSh_flat : ∀ {sh : List (Option IntKind)} {cs ds : List V} {r : Bool}, eqSh sh cs ds = some r → cs.all V.flat = true ∧ ds.all V.flat = true
  | [], cs, ds, r, h => by cases cs <;> cases ds <;> simp [eqSh] at h ⊢
  | s :: sh, [], ds, r, h => by cases s <;> simp [eqSh] at h
  | s :: sh, c :: cs, [], r, h => by cases s <;> cases c <;> simp [eqSh] at h
  | none :: sh, c :: cs, d :: ds, r, h => by
    cases c <;> (try (simp [eqSh] at h; done)) <;> cases d <;> (try (simp [eqSh] at h; done))
    simp only [eqSh] at h
    split at h
    · rename_i q hq
      obtain ⟨h1, h2⟩ := eqSh_flat hq
      simp [V.flat, h1, h2]
    · cases h
  | some k :: sh, c :: cs, d :: ds, r, h => by
    cases c <;> (try (simp [eqSh] at h; done)) <;> cases d <;> (try (simp [eqSh] at h; done))
    simp only [eqSh] at h
    split at h
    · split at h
      · rename_i q hq
        obtain ⟨h1, h2⟩ := eqSh_flat hq
        simp [V.flat, h1, h2]
      · cases h
    · cases h
theorem flat_rel : ∀ {ws vs : List V}, RelL ws tk vs → ws.all V.flat = true → vs = ws
  | [], vs, h, _ => by simpa [RelL] using h
  | w :: ws, vs, h, k => by
    simp only [RelL] at h
    obtain ⟨d, r, rfl, h1, h⟩ := h
    simp only [List.all_cons, Bool.and_eq_true] at k
    rw [flat_rel h k.2]
    cases w <;> simp [V.flat] at k <;> simp only [Rel] at h1 <;> rw [h1]
theorem eqSh_rel {sh : List (Option IntKind)} {cs cs' ds ds' : List V} {r : Bool} (h : RelL cs tk cs') (k : RelL ds tk ds') (he : eqSh sh cs ds = some r) : eqSh sh cs' ds' = some r := by
  obtain ⟨h1, h2⟩ := eqSh_flat he
  rw [flat_rel h h1, flat_rel k h2]; exact he
end
end Go.Lo

/- Values that are handed on: frozen, given back. -/
namespace Go.Lo
section
variable {tk tk' : TkF}
/-! ### Marks -/
theorem tb_lt (u : Nat) : tb u < 1000000 := Nat.mod_lt _ (by decide)
theorem tb_roT (u : Nat) : tb (roT u) = tb u := by unfold roT tb; split <;> (try split) <;> omega
theorem tb_ruT (u : Nat) : tb (ruT u) = tb u := by unfold ruT tb; split <;> omega
theorem tb_unT (u : Nat) : tb (unT u) = tb u := by unfold unT tb; split <;> omega
theorem rw_roT (u : Nat) : rwT (roT u) = false := by
  unfold roT
  split
  · rename_i h; simp only [rwT, decide_eq_true_eq] at h; simp only [rwT, decide_eq_false_iff_not]; omega
  · rename_i h
    simp only [rwT, decide_eq_true_eq] at h
    split <;> simp only [rwT, decide_eq_false_iff_not] <;> omega
theorem rw_ruT (u : Nat) : rwT (ruT u) = false := by
  unfold ruT
  split
  · rename_i h; simp only [rwT, decide_eq_true_eq] at h; simp only [rwT, decide_eq_false_iff_not]; omega
  · rename_i h; simpa using h
theorem mb_roT (u : Nat) : mbT (roT u) = mbT u := by
  unfold roT
  split
  · rename_i h; simp only [rwT, decide_eq_true_eq] at h; simp only [mbT, decide_eq_decide]; omega
  · split <;> simp only [mbT, decide_eq_decide]
    omega
theorem mb_ruT (u : Nat) : mbT (ruT u) = mbT u := by
  unfold ruT
  split
  · rename_i h; simp only [rwT, decide_eq_true_eq] at h; simp only [mbT, decide_eq_decide]; omega
  · rfl
theorem mb_unT (u : Nat) : mbT (unT u) = mbT u := by
  unfold unT
  split
  · simp only [mbT, decide_eq_decide]; omega
  · rfl
theorem rw_unT {u : Nat} (h : rwT (unT u) = true) : rwT u = true := by
  unfold unT at h
  split at h
  · rename_i k; simp only [roX, decide_eq_true_eq] at k; simp only [rwT, decide_eq_true_eq] at h ⊢; omega
  · exact h
theorem ro_unT (u : Nat) : roX (unT u) = false := by
  unfold unT
  split
  · rename_i k; simp only [roX, decide_eq_true_eq] at k; simp only [roX, decide_eq_false_iff_not]; omega
  · rename_i k; simpa using k
theorem ro_ruT {u : Nat} (h : roX (ruT u) = true) : roX u = true := by
  unfold ruT at h
  split at h
  · rename_i k; simp only [rwT, decide_eq_true_eq] at k; simp only [roX, decide_eq_true_eq] at h ⊢; omega
  · exact h
theorem not_rw_ro {u : Nat} (h : rwT u = true) : roX u = false := by
  simp only [rwT, decide_eq_true_eq] at h; simp only [roX, decide_eq_false_iff_not]; omega

/-! ### Frozen -/
/-- What is read of boxes. -/
def RdR (r2 r1 : Nat → Option (List V)) : Prop := ∀ s cs, r2 s = some cs → ∃ ds, r1 s = some ds ∧ RelL cs noT ds
mutual
theorem frz_rel {r2 r1 : Nat → Option (List V)} (hr : RdR r2 r1) : ∀ (w v w' : V), Rel w tk v → w.frz r2 = some w' → ∃ v', v.frz r1 = some v' ∧ Rel w' noT v'
  | .bool b, v, w', h, hf => by
    simp only [Rel] at h; subst h
    simp only [V.frz, Option.some.injEq] at hf; subst hf
    exact ⟨_, rfl, by simp only [Rel]⟩
  | .int k n, v, w', h, hf => by
    simp only [Rel] at h; subst h
    simp only [V.frz, Option.some.injEq] at hf; subst hf
    exact ⟨_, rfl, by simp only [Rel]⟩
  | .nil, v, w', h, hf => by
    simp only [Rel] at h; subst h
    simp only [V.frz, Option.some.injEq] at hf; subst hf
    exact ⟨_, rfl, by simp only [Rel]⟩
  | .sl t sz es, v, w', h, hf => by
    simp only [V.frz, Option.some.injEq] at hf; subst hf
    have key : (es = [] ∧ v = .nil) ∨ ∃ t' es', v = .sl t' sz es' ∧ RelE es es' := by
      cases t with
      | none =>
        simp only [Rel] at h
        rcases h with h | ⟨es', h1, h2⟩
        · exact .inl h
        · exact .inr ⟨_, es', h1, h2⟩
      | some u =>
        simp only [Rel] at h
        rcases h with h | ⟨es', h1, h2, _⟩
        · exact .inl h.2
        · exact .inr ⟨_, es', h1, h2⟩
    rcases key with ⟨h1, rfl⟩ | ⟨t', es', rfl, h2⟩
    · exact ⟨.nil, rfl, by simp only [Rel]; exact .inl ⟨h1, trivial⟩⟩
    · exact ⟨.sl none sz es', rfl, by simp only [Rel]; exact .inr ⟨es', rfl, h2⟩⟩
  | .fn (.f f) cs, v, w', h, hf => by
    simp only [Rel] at h
    obtain ⟨ds, rfl, h⟩ := h
    simp only [V.frz] at hf ⊢
    split at hf
    · rename_i cs' h1
      simp only [Option.some.injEq] at hf; subst hf
      obtain ⟨ds', g1, g2⟩ := frzL_rel hr cs ds cs' h h1
      rw [g1]
      exact ⟨_, rfl, by simp only [Rel]; exact ⟨ds', rfl, g2⟩⟩
    · cases hf
  | .fn (.m f) cs, v, w', h, hf => by
    simp only [Rel] at h
    obtain ⟨ds, rfl, h⟩ := h
    simp only [V.frz] at hf ⊢
    split at hf
    · rename_i cs' h1
      simp only [Option.some.injEq] at hf; subst hf
      obtain ⟨ds', g1, g2⟩ := frzL_rel hr cs ds cs' h h1
      rw [g1]
      exact ⟨_, rfl, by simp only [Rel]; exact ⟨ds', rfl, g2⟩⟩
    · cases hf
  | .fn (.y _) cs, v, w', h, hf => by simp [V.frz] at hf
  | .agg cs, v, w', h, hf => by
    simp only [Rel] at h
    obtain ⟨ds, rfl, h⟩ := h
    simp only [V.frz] at hf ⊢
    split at hf
    · rename_i cs' h1
      simp only [Option.some.injEq] at hf; subst hf
      obtain ⟨ds', g1, g2⟩ := frzL_rel hr cs ds cs' h h1
      rw [g1]
      exact ⟨_, rfl, by simp only [Rel]; exact ⟨ds', rfl, g2⟩⟩
    · cases hf
  | .ref s off, v, w', h, hf => by
    simp only [Rel] at h; subst h
    simp only [V.frz] at hf ⊢
    split at hf
    · rename_i cs h1
      simp only [Option.some.injEq] at hf; subst hf
      obtain ⟨ds, g1, g2⟩ := hr s cs h1
      rw [g1]
      exact ⟨_, rfl, by simp only [Rel]; exact ⟨_, rfl, g2.drop off⟩⟩
    · cases hf
  | .cref cs, v, w', h, hf => by
    simp only [Rel] at h
    obtain ⟨ds, rfl, h⟩ := h
    simp only [V.frz, Option.some.injEq] at hf ⊢; subst hf
    exact ⟨_, rfl, by simp only [Rel]; exact ⟨_, rfl, h⟩⟩
  | .und, v, w', h, hf => by simp [V.frz] at hf
  | .dead, v, w', h, hf => by simp [V.frz] at hf
  | .tup _, v, w', h, hf => by simp [V.frz] at hf
  | .eref _ _ _ _ _, v, w', h, hf => by simp [V.frz] at hf
  | .box _, v, w', h, hf => by simp [V.frz] at hf
theorem frzL_rel {r2 r1 : Nat → Option (List V)} (hr : RdR r2 r1) : ∀ (ws vs ws' : List V), RelL ws tk vs → frzL r2 ws = some ws' → ∃ vs', frzL r1 vs = some vs' ∧ RelL ws' noT vs'
  | [], vs, ws', h, hf => by
    simp only [RelL] at h; subst h
    simp only [frzL, Option.some.injEq] at hf; subst hf
    exact ⟨[], rfl, RelL.nil⟩
  | w :: ws, vs, ws', h, hf => by
    simp only [RelL] at h
    obtain ⟨d, r, rfl, h1, h2⟩ := h
    simp only [frzL] at hf ⊢
    split at hf
    · rename_i w1 ws1 e1 e2
      simp only [Option.some.injEq] at hf; subst hf
      obtain ⟨v1, g1, g2⟩ := frz_rel hr w d w1 h1 e1
      obtain ⟨vs1, g3, g4⟩ := frzL_rel hr ws r ws1 h2 e2
      rw [g1, g3]
      exact ⟨_, rfl, RelL.cons g2 g4⟩
    · cases hf
end
theorem bxF_rel {b2 b1 : Nat → Option (List V)} (hb : ∀ s cs, b2 s = some cs → ∃ ds, b1 s = some ds ∧ RelL cs tk ds) : ∀ n, RdR (bxF b2 n) (bxF b1 n)
  | 0, s, cs, h => by simp [bxF] at h
  | n + 1, s, cs, h => by
    simp only [bxF] at h ⊢
    split at h
    · rename_i c1 h1
      obtain ⟨d1, g1, g2⟩ := hb s c1 h1
      rw [g1]
      exact frzL_rel (bxF_rel hb n) c1 d1 cs g2 h
    · cases h
/-! ### Elements -/
/-- The tokens that are listed: those of the logical machine are among them, and none that is sure is left out. -/
structure Toks (tk : TkF) (us ts : List Nat) : Prop where
  sub : ∀ t ∈ ts, t ∈ us.map tb
  all : ∀ t ∈ exB us, t ∈ ts
  has : ∀ t ∈ ts, (tk t).isSome = true
theorem Toks.nil : Toks tk [] [] := ⟨fun _ h => (by cases h), fun _ h => (by simp [exB] at h), fun _ h => (by cases h)⟩
theorem exB_append : ∀ (a b : List Nat), exB (a ++ b) = exB a ++ exB b
  | [], b => rfl
  | p :: a, b => by simp only [List.cons_append, exB, exB_append a b]; split <;> rfl
theorem Toks.append {us ts us' ts' : List Nat} (h : Toks tk us ts) (k : Toks tk us' ts') : Toks tk (us ++ us') (ts ++ ts') := by
  refine ⟨fun t ht => ?_, fun t ht => ?_, fun t ht => ?_⟩
  · rw [List.map_append, List.mem_append]
    rcases List.mem_append.1 ht with ht | ht
    · exact .inl (h.sub t ht)
    · exact .inr (k.sub t ht)
  · rw [exB_append] at ht
    rw [List.mem_append]
    rcases List.mem_append.1 ht with ht | ht
    · exact .inl (h.all t ht)
    · exact .inr (k.all t ht)
  · rcases List.mem_append.1 ht with ht | ht
    · exact h.has t ht
    · exact k.has t ht
mutual
theorem frzE_rel : ∀ (w v w' : V) (us : List Nat), Rel w tk v → w.frzE = some (w', us) → ∃ v' ts, v.frzE = some (v', ts) ∧ Rel w' noT v' ∧ Toks tk us ts
  | .bool b, v, w', us, h, hf => by
    simp only [Rel] at h; subst h
    simp only [V.frzE, Option.some.injEq, Prod.mk.injEq] at hf
    obtain ⟨rfl, rfl⟩ := hf
    exact ⟨_, _, rfl, by simp only [Rel], Toks.nil⟩
  | .int k n, v, w', us, h, hf => by
    simp only [Rel] at h; subst h
    simp only [V.frzE, Option.some.injEq, Prod.mk.injEq] at hf
    obtain ⟨rfl, rfl⟩ := hf
    exact ⟨_, _, rfl, by simp only [Rel], Toks.nil⟩
  | .nil, v, w', us, h, hf => by
    simp only [Rel] at h; subst h
    simp only [V.frzE, Option.some.injEq, Prod.mk.injEq] at hf
    obtain ⟨rfl, rfl⟩ := hf
    exact ⟨_, _, rfl, by simp only [Rel], Toks.nil⟩
  | .sl none sz es, v, w', us, h, hf => by
    simp only [V.frzE, Option.some.injEq, Prod.mk.injEq] at hf
    obtain ⟨rfl, rfl⟩ := hf
    simp only [Rel] at h
    rcases h with ⟨h1, rfl⟩ | ⟨es', rfl, h2⟩
    · exact ⟨.nil, [], rfl, by simp only [Rel]; exact .inl ⟨h1, trivial⟩, Toks.nil⟩
    · exact ⟨_, [], rfl, by simp only [Rel]; exact .inr ⟨es', rfl, h2⟩, Toks.nil⟩
  | .sl (some u) sz es, v, w', us, h, hf => by
    simp only [V.frzE, Option.some.injEq, Prod.mk.injEq] at hf
    obtain ⟨rfl, rfl⟩ := hf
    simp only [Rel] at h
    rcases h with ⟨h0, h1, rfl⟩ | ⟨es', rfl, h2, h3⟩
    · refine ⟨.nil, [], rfl, by simp only [Rel]; exact .inl ⟨h1, trivial⟩, fun _ h => (by cases h), fun t ht => ?_, fun _ h => (by cases h)⟩
      simp [exB, h0] at ht
    · refine ⟨.sl none sz es', [tb u], rfl, by simp only [Rel]; exact .inr ⟨es', rfl, h2⟩, fun t ht => by simpa using ht, fun t ht => ?_, fun t ht => ?_⟩
      · simp only [exB] at ht
        split at ht
        · simp at ht
        · simpa using ht
      · obtain ⟨w, h4, _⟩ := h3
        rw [List.mem_singleton] at ht; subst ht
        rw [h4]; rfl
  | .agg cs, v, w', us, h, hf => by
    simp only [Rel] at h
    obtain ⟨ds, rfl, h⟩ := h
    simp only [V.frzE] at hf ⊢
    split at hf
    · rename_i cs' us' h1
      simp only [Option.some.injEq, Prod.mk.injEq] at hf
      obtain ⟨rfl, rfl⟩ := hf
      obtain ⟨ds', ts, g1, g2, g3⟩ := frzEL_rel cs ds cs' us' h h1
      rw [g1]
      exact ⟨_, _, rfl, by simp only [Rel]; exact ⟨ds', rfl, g2⟩, g3⟩
    · cases hf
  | .und, v, w', us, h, hf => by simp [V.frzE] at hf
  | .dead, v, w', us, h, hf => by simp [V.frzE] at hf
  | .tup _, v, w', us, h, hf => by simp [V.frzE] at hf
  | .fn _ _, v, w', us, h, hf => by simp [V.frzE] at hf
  | .ref _ _, v, w', us, h, hf => by simp [V.frzE] at hf
  | .cref _, v, w', us, h, hf => by simp [V.frzE] at hf
  | .eref _ _ _ _ _, v, w', us, h, hf => by simp [V.frzE] at hf
  | .box _, v, w', us, h, hf => by simp [V.frzE] at hf
theorem frzEL_rel : ∀ (ws vs ws' : List V) (us : List Nat), RelL ws tk vs → frzEL ws = some (ws', us) → ∃ vs' ts, frzEL vs = some (vs', ts) ∧ RelL ws' noT vs' ∧ Toks tk us ts
  | [], vs, ws', us, h, hf => by
    simp only [RelL] at h; subst h
    simp only [frzEL, Option.some.injEq, Prod.mk.injEq] at hf
    obtain ⟨rfl, rfl⟩ := hf
    exact ⟨[], [], rfl, RelL.nil, Toks.nil⟩
  | w :: ws, vs, ws', us, h, hf => by
    simp only [RelL] at h
    obtain ⟨d, r, rfl, h1, h2⟩ := h
    simp only [frzEL] at hf ⊢
    split at hf
    · rename_i w1 t1 ws1 t2 e1 e2
      simp only [Option.some.injEq, Prod.mk.injEq] at hf
      obtain ⟨rfl, rfl⟩ := hf
      obtain ⟨v1, s1, g1, g2, g3⟩ := frzE_rel w d w1 t1 h1 e1
      obtain ⟨vs1, s2, g4, g5, g6⟩ := frzEL_rel ws r ws1 t2 h2 e2
      rw [g1, g4]
      exact ⟨_, _, rfl, RelL.cons g2 g5, g3.append g6⟩
    · cases hf
end
theorem fillE_rel {sz : Nat} : ∀ {ix : List Nat} {ws vs : List V} {es ds es' : List (List V)} {us : List Nat}, RelL ws tk vs → RelE es ds → fillE sz ix ws es = some (es', us) → ∃ ds' ts, fillE sz ix vs ds = some (ds', ts) ∧ RelE es' ds' ∧ Toks tk us ts
  | [], [], vs, es, ds, es', us, h, k, hf => by
    simp only [RelL] at h; subst h
    simp only [fillE, Option.some.injEq, Prod.mk.injEq] at hf
    obtain ⟨rfl, rfl⟩ := hf
    exact ⟨ds, [], rfl, k, Toks.nil⟩
  | [], _ :: _, _, _, _, _, _, _, _, hf => by simp [fillE] at hf
  | _ :: _, [], _, _, _, _, _, _, _, hf => by simp [fillE] at hf
  | i :: ix, w :: ws, vs, es, ds, es', us, h, k, hf => by
    simp only [RelL] at h
    obtain ⟨v, r, rfl, h1, h2⟩ := h
    simp only [fillE] at hf ⊢
    split at hf
    · rename_i w1 u1 e1
      obtain ⟨v1, t1, g1, g2, g3⟩ := frzE_rel w v w1 u1 h1 e1
      rw [g1]
      simp only
      split at hf
      · rename_i hc
        have hcl := g2.cells (all_pm_cellOk hc.2.1)
        obtain ⟨q1, q2⟩ := hcl.pm hc.2.1
        rw [if_pos ⟨by rw [hcl.length]; exact hc.1, q1, by rw [k.length]; exact hc.2.2⟩]
        split at hf
        · rename_i es2 u2 e2
          simp only [Option.some.injEq, Prod.mk.injEq] at hf
          obtain ⟨rfl, rfl⟩ := hf
          obtain ⟨d2, t2, g4, g5, g6⟩ := fillE_rel h2 (k.set i hcl) e2
          rw [g4]
          exact ⟨_, _, rfl, g5, g3.append g6⟩
        · cases hf
      · cases hf
    · cases hf
/-! ### Results -/
mutual
theorem pureR_rel : ∀ (w v : V), Rel w tk v → w.pureR = true → v.pureR = true
  | .bool b, v, h, _ => by simp only [Rel] at h; subst h; rfl
  | .int k n, v, h, _ => by simp only [Rel] at h; subst h; rfl
  | .nil, v, h, _ => by simp only [Rel] at h; subst h; rfl
  | .sl none sz es, v, h, _ => by simp only [Rel] at h; rcases h with ⟨_, rfl⟩ | ⟨_, rfl, _⟩ <;> rfl
  | .sl (some u) sz es, v, h, _ => by simp only [Rel] at h; rcases h with ⟨_, _, rfl⟩ | ⟨_, rfl, _⟩ <;> rfl
  | .agg cs, v, h, k => by
    simp only [Rel] at h; obtain ⟨ds, rfl, h⟩ := h
    simp only [V.pureR] at k ⊢
    exact pureRL_rel cs ds h k
  | .tup cs, v, h, k => by
    simp only [Rel] at h; obtain ⟨ds, rfl, h⟩ := h
    simp only [V.pureR] at k ⊢
    exact pureRL_rel cs ds h k
  | .und, v, h, k => by simp [V.pureR] at k
  | .dead, v, h, k => by simp [V.pureR] at k
  | .fn _ _, v, h, k => by simp [V.pureR] at k
  | .ref _ _, v, h, k => by simp [V.pureR] at k
  | .cref _, v, h, k => by simp [V.pureR] at k
  | .eref _ _ _ _ _, v, h, k => by simp [V.pureR] at k
  | .box _, v, h, k => by simp [V.pureR] at k
theorem pureRL_rel : ∀ (ws vs : List V), RelL ws tk vs → pureRL ws = true → pureRL vs = true
  | [], vs, h, _ => by simp only [RelL] at h; subst h; rfl
  | w :: ws, vs, h, k => by
    simp only [RelL] at h
    obtain ⟨d, r, rfl, h1, h2⟩ := h
    simp only [pureRL] at k ⊢
    split at k
    · rename_i hw
      rw [pureR_rel w d h1 hw, if_pos rfl]
      exact pureRL_rel ws r h2 k
    · cases k
end
theorem flat_eq {ws vs : List V} (h : RelL ws noT vs) : ws.all V.flat = true → vs.all V.flat = true := fun k => by rw [flat_rel h k]; exact k
theorem flatE_rel : ∀ {es ds : List (List V)}, RelE es ds → flatE es = true → flatE ds = true
  | [], _, h, _ => by simp only [RelE] at h; subst h; rfl
  | e :: es, _, h, k => by
    simp only [RelE] at h
    obtain ⟨d, r, rfl, h1, h2⟩ := h
    simp only [flatE, List.all_cons, Bool.and_eq_true] at k ⊢
    exact ⟨flat_eq h1 k.1, flatE_rel h2 k.2⟩
mutual
theorem al_rel : ∀ (w v : V), Rel w tk v → w.pureR = true → w.al = false → v.al = false
  | .bool b, v, h, _, _ => by simp only [Rel] at h; subst h; rfl
  | .int k n, v, h, _, _ => by simp only [Rel] at h; subst h; rfl
  | .nil, v, h, _, _ => by simp only [Rel] at h; subst h; rfl
  | .sl none sz es, v, h, _, k => by simp [V.al] at k
  | .sl (some u) sz es, v, h, _, k => by
    simp only [Rel] at h
    rcases h with ⟨_, _, rfl⟩ | ⟨es', rfl, h1, _⟩
    · rfl
    · simp only [V.al, Bool.not_eq_false'] at k ⊢
      exact flatE_rel h1 k
  | .agg cs, v, h, p, k => by
    simp only [Rel] at h; obtain ⟨ds, rfl, h⟩ := h
    simp only [V.al, V.pureR] at k p ⊢
    exact alL_rel cs ds h p k
  | .tup cs, v, h, p, k => by
    simp only [Rel] at h; obtain ⟨ds, rfl, h⟩ := h
    simp only [V.al, V.pureR] at k p ⊢
    exact alL_rel cs ds h p k
  | .und, v, h, p, k => by simp [V.pureR] at p
  | .dead, v, h, p, k => by simp [V.pureR] at p
  | .fn _ _, v, h, p, k => by simp [V.pureR] at p
  | .ref _ _, v, h, p, k => by simp [V.pureR] at p
  | .cref _, v, h, p, k => by simp [V.pureR] at p
  | .eref _ _ _ _ _, v, h, p, k => by simp [V.pureR] at p
  | .box _, v, h, p, k => by simp [V.pureR] at p
theorem alL_rel : ∀ (ws vs : List V), RelL ws tk vs → pureRL ws = true → alL ws = false → alL vs = false
  | [], vs, h, _, _ => by simp only [RelL] at h; subst h; rfl
  | w :: ws, vs, h, p, k => by
    simp only [RelL] at h
    obtain ⟨d, r, rfl, h1, h2⟩ := h
    simp only [alL, pureRL] at k p ⊢
    split at p
    · rename_i hw
      split at k
      · cases k
      · rename_i hk
        rw [al_rel w d h1 hw (by simpa using hk), if_neg (by simp)]
        exact alL_rel ws r h2 p k
    · cases p
end
mutual
/-- The arrays of the one are among those of the other. -/
theorem tks_rel : ∀ (w v : V), Rel w tk v → w.pureR = true → List.Sublist v.tks (w.tks.map fun x => (tb x.1, x.2))
  | .bool b, v, h, _ => by simp only [Rel] at h; subst h; exact List.Sublist.refl _
  | .int k n, v, h, _ => by simp only [Rel] at h; subst h; exact List.Sublist.refl _
  | .nil, v, h, _ => by simp only [Rel] at h; subst h; exact List.Sublist.refl _
  | .sl none sz es, v, h, _ => by simp only [Rel] at h; rcases h with ⟨_, rfl⟩ | ⟨_, rfl, _⟩ <;> exact List.Sublist.refl _
  | .sl (some u) sz es, v, h, _ => by
    simp only [Rel] at h
    rcases h with ⟨_, _, rfl⟩ | ⟨es', rfl, h1, _⟩
    · exact List.nil_sublist _
    · simp only [V.tks, List.map_cons, List.map_nil, h1.length]
      exact List.Sublist.refl _
  | .agg cs, v, h, p => by
    simp only [Rel] at h; obtain ⟨ds, rfl, h⟩ := h
    simp only [V.tks, V.pureR] at p ⊢
    exact tksL_rel cs ds h p
  | .tup cs, v, h, p => by
    simp only [Rel] at h; obtain ⟨ds, rfl, h⟩ := h
    simp only [V.tks, V.pureR] at p ⊢
    exact tksL_rel cs ds h p
  | .und, v, h, p => by simp [V.pureR] at p
  | .dead, v, h, p => by simp [V.pureR] at p
  | .fn _ _, v, h, p => by simp [V.pureR] at p
  | .ref _ _, v, h, p => by simp [V.pureR] at p
  | .cref _, v, h, p => by simp [V.pureR] at p
  | .eref _ _ _ _ _, v, h, p => by simp [V.pureR] at p
  | .box _, v, h, p => by simp [V.pureR] at p
theorem tksL_rel : ∀ (ws vs : List V), RelL ws tk vs → pureRL ws = true → List.Sublist (tksL vs) ((tksL ws).map fun x => (tb x.1, x.2))
  | [], vs, h, _ => by simp only [RelL] at h; subst h; exact List.Sublist.refl _
  | w :: ws, vs, h, p => by
    simp only [RelL] at h
    obtain ⟨d, r, rfl, h1, h2⟩ := h
    simp only [pureRL] at p
    split at p
    · rename_i hw
      simp only [tksL, List.map_append]
      exact (tks_rel w d h1 hw).append (tksL_rel ws r h2 p)
    · cases p
end
theorem tb_add {d u : Nat} (hu : tb u < 100) (hd : d < 9999) : tb (d * 100 + u) = d * 100 + tb u ∧ (d * 100 + u) / 1000000 = u / 1000000 := by
  unfold tb at hu ⊢; omega
mutual
theorem rn_rel {d : Nat} (hd : d < 9999) : ∀ (w v : V), (∀ x ∈ w.tks, tb x.1 < 100) → (∀ k n w, tk k = some (n, w) → k < 100 → tk' (d * 100 + k) = some (n, w)) → Rel w tk v → w.pureR = true → Rel (w.rn d) tk' (v.rn d)
  | .bool b, v, _, _, h, _ => by simp only [Rel] at h; subst h; simp only [V.rn, Rel]
  | .int k n, v, _, _, h, _ => by simp only [Rel] at h; subst h; simp only [V.rn, Rel]
  | .nil, v, _, _, h, _ => by simp only [Rel] at h; subst h; simp only [V.rn, Rel]
  | .sl none sz es, v, _, _, h, _ => by
    simp only [Rel] at h
    rcases h with ⟨h1, rfl⟩ | ⟨es', rfl, h1⟩
    · simp only [V.rn, Rel]; exact .inl ⟨h1, trivial⟩
    · simp only [V.rn, Rel]; exact .inr ⟨es', rfl, h1⟩
  | .sl (some u) sz es, v, hs, ht, h, _ => by
    have hu : tb u < 100 := hs (u, es.length) (by simp [V.tks])
    obtain ⟨k1, k2⟩ := tb_add hu hd
    simp only [Rel] at h
    rcases h with ⟨h0, h1, rfl⟩ | ⟨es', rfl, h1, w, g1, g2, g3, g4⟩
    · simp only [V.rn, Rel]
      exact .inl ⟨by simpa only [mbT, k2] using h0, h1, trivial⟩
    · simp only [V.rn, Rel]
      refine .inr ⟨es', by rw [k1], h1, w, ?_, fun x => g2 (by simpa only [rwT, k2] using x), fun x => g3 (by simpa only [roX, k2] using x), fun x => g4 (by simpa only [mbT, k2] using x)⟩
      rw [k1]; exact ht _ _ _ g1 hu
  | .agg cs, v, hs, ht, h, p => by
    simp only [Rel] at h; obtain ⟨ds, rfl, h⟩ := h
    simp only [V.rn, Rel]
    exact ⟨_, rfl, rnL_rel hd cs ds (by simpa [V.tks] using hs) ht h (by simpa only [V.pureR] using p)⟩
  | .tup cs, v, hs, ht, h, p => by
    simp only [Rel] at h; obtain ⟨ds, rfl, h⟩ := h
    simp only [V.rn, Rel]
    exact ⟨_, rfl, rnL_rel hd cs ds (by simpa [V.tks] using hs) ht h (by simpa only [V.pureR] using p)⟩
  | .und, v, _, _, h, p => by simp [V.pureR] at p
  | .dead, v, _, _, h, p => by simp [V.pureR] at p
  | .fn _ _, v, _, _, h, p => by simp [V.pureR] at p
  | .ref _ _, v, _, _, h, p => by simp [V.pureR] at p
  | .cref _, v, _, _, h, p => by simp [V.pureR] at p
  | .eref _ _ _ _ _, v, _, _, h, p => by simp [V.pureR] at p
  | .box _, v, _, _, h, p => by simp [V.pureR] at p
theorem rnL_rel {d : Nat} (hd : d < 9999) : ∀ (ws vs : List V), (∀ x ∈ tksL ws, tb x.1 < 100) → (∀ k n w, tk k = some (n, w) → k < 100 → tk' (d * 100 + k) = some (n, w)) → RelL ws tk vs → pureRL ws = true → RelL (rnL d ws) tk' (rnL d vs)
  | [], vs, _, _, h, _ => by simp only [RelL] at h; subst h; exact RelL.nil
  | w :: ws, vs, hs, ht, h, p => by
    simp only [RelL] at h
    obtain ⟨e, r, rfl, h1, h2⟩ := h
    simp only [pureRL] at p
    split at p
    · rename_i hw
      simp only [rnL]
      exact RelL.cons (rn_rel hd w e (fun x hx => hs x (by simp [tksL, hx])) ht h1 hw) (rnL_rel hd ws r (fun x hx => hs x (by simp [tksL, hx])) ht h2 p)
    · cases p
end
mutual
theorem rn_tksE (d : Nat) : ∀ v : V, (v.rn d).tks = v.tks.map fun x => (d * 100 + x.1, x.2)
  | .agg cs => by simp only [V.rn, V.tks, rnL_tksE d cs]
  | .tup cs => by simp only [V.rn, V.tks, rnL_tksE d cs]
  | .sl (some k) _ _ => by simp [V.rn, V.tks]
  | .sl none _ _ => rfl
  | .bool _ => rfl
  | .int _ _ => rfl
  | .nil => rfl
  | .und => rfl
  | .dead => rfl
  | .fn _ _ => rfl
  | .ref _ _ => rfl
  | .cref _ => rfl
  | .eref _ _ _ _ _ => rfl
  | .box _ => rfl
theorem rnL_tksE (d : Nat) : ∀ vs : List V, tksL (rnL d vs) = (tksL vs).map fun x => (d * 100 + x.1, x.2)
  | [] => rfl
  | v :: vs => by simp only [rnL, tksL, rn_tksE d v, rnL_tksE d vs, List.map_append]
end
end
end Go.Lo

/- Frames of the plain machine. -/
namespace Go.Lo
section
variable {tk tk' : TkF} {fr2 fr fr' : List (Nat × V)}

def RelFr (fr2 fr : List (Nat × V)) (tk : TkF) : Prop := ∀ s w, get fr2 s = some w → w = .dead ∨ ∃ v, get fr s = some v ∧ Rel w tk v
def RelTr : Option (List (List V)) → Option (List (List V)) → Prop
  | none, none => True
  | some a, some b => RelE a b
  | _, _ => False
structure RelS (σ2 σ : St) : Prop where
  fr : RelFr σ2.fr σ.fr (get σ.tk)
  tr : RelTr σ2.tr σ.tr

/-! ### What lies in a slot -/
theorem get_mpF {g : Nat → Nat → List (List V) → V} {h : Nat → Nat → Nat → Nat → List V → V} {r : Nat → Nat → V} (s : Nat) : ∀ l : List (Nat × V), get (mpF g h r l) s = (get l s).map (V.mp g h r)
  | [] => rfl
  | (k, v) :: t => by
    simp only [mpF, get]
    split
    · rfl
    · exact get_mpF s t
theorem get_dropL_eq {α : Type} (ks : List Nat) (s : Nat) : ∀ l : List (Nat × α), get (dropL ks l) s = if memN s ks = true then none else get l s
  | [] => by simp [dropL, get]
  | (k, v) :: t => by
    have ih := get_dropL_eq ks s t
    simp only [dropL]
    split
    · rename_i hk
      rw [ih]
      simp only [get]
      split
      · rfl
      · rename_i hs
        rw [if_neg (fun e => by subst e; exact hs hk)]
    · rename_i hk
      simp only [get]
      split
      · rename_i e; subst e; rw [if_neg hk]
      · exact ih
theorem get_keepL_eq {α : Type} (n : Nat) (ks : List Nat) (s : Nat) : ∀ l : List (Nat × α), get (keepL n ks l) s = if s < n ∨ memN s ks = true then get l s else none
  | [] => by simp [keepL, get]
  | (k, v) :: t => by
    have ih := get_keepL_eq n ks s t
    simp only [keepL]
    split
    · rename_i hk
      simp only [get]
      split
      · rename_i e; subst e; rw [if_pos (.inl hk)]
      · exact ih
    · split
      · rename_i hk
        simp only [get]
        split
        · rename_i e; subst e; rw [if_pos (.inr hk)]
        · exact ih
      · rename_i h1 h2
        rw [ih]
        simp only [get]
        split
        · rename_i hs
          rw [if_neg (fun e => by subst e; exact hs.elim h1 h2)]
        · rfl
theorem get_prepF_eq (ds : List Nat) (s : Nat) : ∀ l : List (Nat × V), get (prepF ds l) s = if memN s ds = true then none else (get l s).map (V.prep ds)
  | [] => by simp [prepF, get]
  | (k, v) :: t => by
    have ih := get_prepF_eq ds s t
    simp only [prepF]
    split
    · rename_i hk
      rw [ih]
      simp only [get]
      split
      · rfl
      · rename_i hs
        rw [if_neg (fun e => by subst e; exact hs hk)]
    · rename_i hk
      simp only [get]
      split
      · rename_i e; subst e; rw [if_neg hk]; rfl
      · exact ih
theorem get_killF_eq (t s : Nat) : ∀ l : List (Nat × V), get (killF t l) s = (get l s).map (V.kill t)
  | [] => rfl
  | (k, v) :: l => by
    simp only [killF, get]
    split
    · rfl
    · exact get_killF_eq t s l
theorem get_estF_eq (t n i : Nat) (e : List V) (s : Nat) : ∀ l : List (Nat × V), get (estF t n i e l) s = (get l s).map (V.est t n i e)
  | [] => rfl
  | (k, v) :: l => by
    simp only [estF, get]
    split
    · rfl
    · exact get_estF_eq t n i e s l
theorem get_prepT_eq (ds : List Nat) (s : Nat) : ∀ l : List (Nat × Nat × Bool), get (prepT ds l) s = if memN (s / 100) ds = true then none else get l s
  | [] => by simp [prepT, get]
  | (k, v) :: t => by
    have ih := get_prepT_eq ds s t
    simp only [prepT]
    split
    · rename_i hk
      rw [ih]
      simp only [get]
      split
      · rfl
      · rename_i hs
        rw [if_neg (fun e => by subst e; exact hs hk)]
    · rename_i hk
      simp only [get]
      split
      · rename_i e; subst e; rw [if_neg hk]
      · exact ih
theorem RelFr.put (h : RelFr fr2 fr tk) {w v : V} (hw : Rel w tk v) (s : Nat) : RelFr (put fr2 s w) (put fr s v) tk := by
  intro s' w' hs
  rw [get_put] at hs ⊢
  split at hs
  · rename_i e
    rw [if_pos e]
    injection hs with hs; subst hs
    exact .inr ⟨v, rfl, hw⟩
  · rename_i e
    rw [if_neg e]
    exact h s' w' hs
theorem RelFr.putO (h : RelFr fr2 fr tk) {w v : V} (hw : Rel w tk v) (dst : Option Nat) : RelFr (putO fr2 dst w) (putO fr dst v) tk := by
  cases dst with
  | none => exact h
  | some d => exact h.put hw d
theorem RelFr.keep (h : RelFr fr2 fr tk) (n : Nat) (ks : List Nat) : RelFr (keepL n ks fr2) (keepL n ks fr) tk := by
  intro s w hs
  rw [get_keepL_eq] at hs ⊢
  split at hs
  · rename_i e; rw [if_pos e]; exact h s w hs
  · cases hs
theorem RelFr.drop (h : RelFr fr2 fr tk) (ks : List Nat) : RelFr (dropL ks fr2) (dropL ks fr) tk := by
  intro s w hs
  rw [get_dropL_eq] at hs ⊢
  split at hs
  · cases hs
  · rename_i e; rw [if_neg e]; exact h s w hs
theorem RelFr.dropLeft (h : RelFr fr2 fr tk) (ks : List Nat) : RelFr (dropL ks fr2) fr tk := by
  intro s w hs
  rw [get_dropL_eq] at hs
  split at hs
  · cases hs
  · exact h s w hs
theorem RelFr.mp (k : RelFr fr2 fr tk) {φ : V → V} (hφ : Hom φ) {g : Nat → Nat → List (List V) → V} {h : Nat → Nat → Nat → Nat → List V → V} {r : Nat → Nat → V}
    (hg : ∀ u sz es v, Rel (.sl (some u) sz es) tk v → Rel (g u sz es) tk' (φ v)) (hh : ∀ u n i o cs v, Rel (.eref u n i o cs) tk v → Rel (h u n i o cs) tk' (φ v)) (hr : ∀ s o, Rel (r s o) tk' (φ (.ref s o)))
    (hf : ∀ s v, (get fr2 s).isSome = true → get fr s = some v → get fr' s = some (φ v)) : RelFr (mpF g h r fr2) fr' tk' := by
  intro s w hs
  rw [get_mpF] at hs
  cases hw : get fr2 s with
  | none => rw [hw] at hs; cases hs
  | some w0 =>
    rw [hw] at hs
    simp only [Option.map_some, Option.some.injEq] at hs
    subst hs
    rcases k s w0 hw with rfl | ⟨v, h1, h2⟩
    · exact .inl rfl
    · exact .inr ⟨φ v, hf s v (by rw [hw]; rfl) h1, Rel.mp hφ hg hh hr w0 v h2⟩
/-! ### Turned frames -/
theorem TokR.same {u n : Nat} (h : TokR tk u n) (k : tk' (tb u) = tk (tb u)) : TokR tk' u n := by
  obtain ⟨w, h1, h2⟩ := h
  exact ⟨w, by rw [k, h1], h2⟩
theorem killT_rel (k : RelFr fr2 fr tk) {t : Nat} (ht : ∀ s, s ≠ t → tk' s = tk s) : RelFr (killT t fr2) fr tk' := by
  refine k.mp (tk' := tk') Hom.id (fun u sz es v h => ?_) (fun u n i o cs v h => ?_) (fun s o => by simp only [Rel]) fun s v _ h => h
  · split
    · simp only [Rel]
    · rename_i hu
      simp only [Rel] at h ⊢
      rcases h with h | ⟨es', h1, h2, h3⟩
      · exact .inl h
      · exact .inr ⟨es', h1, h2, h3.same (ht _ hu)⟩
  · split
    · simp only [Rel]
    · rename_i hu
      simp only [Rel] at h ⊢
      obtain ⟨ds, h1, h2, h3⟩ := h
      exact ⟨ds, h1, h2, h3.same (ht _ hu)⟩
theorem killT_kill (k : RelFr fr2 fr tk) {t : Nat} (ht : ∀ s, s ≠ t → tk' s = tk s) : RelFr (killT t fr2) (killF t fr) tk' := by
  refine k.mp (tk' := tk') (Hom.kill t) (fun u sz es v h => ?_) (fun u n i o cs v h => ?_) (fun s o => by simp only [Rel, V.kill]) fun s v _ h => by rw [get_killF_eq, h]; rfl
  · split
    · simp only [Rel]
    · rename_i hu
      simp only [Rel] at h ⊢
      rcases h with ⟨h0, h1, rfl⟩ | ⟨es', rfl, h2, h3⟩
      · exact .inl ⟨h0, h1, rfl⟩
      · exact .inr ⟨es', by simp only [V.kill, if_neg hu], h2, h3.same (ht _ hu)⟩
  · split
    · simp only [Rel]
    · rename_i hu
      simp only [Rel] at h ⊢
      obtain ⟨ds, rfl, h2, h3⟩ := h
      exact ⟨ds, by simp only [V.kill, if_neg hu], h2, h3.same (ht _ hu)⟩
theorem killG_rel (k : RelFr fr2 fr tk) {d : Nat} (ht : ∀ s, s / 100 ≠ d → tk' s = tk s) : RelFr (killG d fr2) fr tk' := by
  refine (k.dropLeft [d]).mp (tk' := tk') Hom.id (fun u sz es v h => ?_) (fun u n i o cs v h => ?_) (fun s o => ?_) fun s v _ h => h
  · split
    · simp only [Rel]
    · rename_i hu
      simp only [Rel] at h ⊢
      rcases h with h | ⟨es', h1, h2, h3⟩
      · exact .inl h
      · exact .inr ⟨es', h1, h2, h3.same (ht _ hu)⟩
  · split
    · simp only [Rel]
    · rename_i hu
      simp only [Rel] at h ⊢
      obtain ⟨ds, h1, h2, h3⟩ := h
      exact ⟨ds, h1, h2, h3.same (ht _ hu)⟩
  · split <;> simp only [Rel]
theorem memN_one {s d : Nat} : memN s [d] = true ↔ s = d := by rw [memN_iff, List.mem_singleton]
theorem killG_prep (k : RelFr fr2 fr tk) {d : Nat} (ht : ∀ s, s / 100 ≠ d → tk' s = tk s) : RelFr (killG d fr2) (prepF [d] fr) tk' := by
  refine (k.dropLeft [d]).mp (tk' := tk') (Hom.prep [d]) (fun u sz es v h => ?_) (fun u n i o cs v h => ?_) (fun s o => ?_) fun s v hs h => ?_
  · split
    · simp only [Rel]
    · rename_i hu
      have hu' : ¬ memN (tb u / 100) [d] = true := fun e => hu (memN_one.1 e)
      simp only [Rel] at h ⊢
      rcases h with ⟨h0, h1, rfl⟩ | ⟨es', rfl, h2, h3⟩
      · exact .inl ⟨h0, h1, rfl⟩
      · exact .inr ⟨es', by simp only [V.prep, if_neg hu'], h2, h3.same (ht _ hu)⟩
  · split
    · simp only [Rel]
    · rename_i hu
      have hu' : ¬ memN (tb u / 100) [d] = true := fun e => hu (memN_one.1 e)
      simp only [Rel] at h ⊢
      obtain ⟨ds, rfl, h2, h3⟩ := h
      exact ⟨ds, by simp only [V.prep, if_neg hu'], h2, h3.same (ht _ hu)⟩
  · split
    · simp only [Rel]
    · rename_i hs
      simp only [V.prep, if_neg (fun e => hs (memN_one.1 e)), Rel]
  · rw [get_dropL_eq] at hs
    split at hs
    · cases hs
    · rename_i hm; rw [get_prepF_eq, if_neg hm, h]; rfl
theorem TokR.roT {u n : Nat} (h : TokR tk u n) (k : ∀ x w, tk (tb u) = some (x, w) → tk' (tb u) = some (x, false)) : TokR tk' (roT u) n := by
  obtain ⟨w, h1, _, _, h4⟩ := h
  refine ⟨false, by rw [tb_roT]; exact k _ _ h1, fun x => ?_, fun _ => rfl, fun x => h4 (by rw [mb_roT] at x; exact x)⟩
  rw [rw_roT] at x; cases x
theorem TokR.ruT {u n : Nat} (h : TokR tk u n) (k : ∀ x w, tk (tb u) = some (x, w) → tk' (tb u) = some (x, false) ∨ tk' (tb u) = some (x, w)) : TokR tk' (ruT u) n := by
  obtain ⟨w, h1, _, h3, h4⟩ := h
  have h4' : mbT (Lo.ruT u) = true → n ≠ 0 := fun x => h4 (by rw [mb_ruT] at x; exact x)
  rcases k _ _ h1 with k | k
  · refine ⟨false, by rw [tb_ruT]; exact k, fun x => ?_, fun _ => rfl, h4'⟩
    rw [rw_ruT] at x; cases x
  · refine ⟨w, by rw [tb_ruT]; exact k, fun x => ?_, fun x => h3 (ro_ruT x), h4'⟩
    rw [rw_ruT] at x; cases x
theorem memN_false {s : Nat} {l : List Nat} : memN s l ≠ true ↔ s ∉ l := by rw [ne_eq, memN_iff]
theorem exB_mem : ∀ {us : List Nat} {t : Nat}, t ∈ exB us → t ∈ us.map tb
  | [], _, h => by simp [exB] at h
  | u :: us, t, h => by
    simp only [exB] at h
    simp only [List.map_cons, List.mem_cons]
    split at h
    · exact .inr (exB_mem h)
    · rcases List.mem_cons.1 h with h | h
      · exact .inl h
      · exact .inr (exB_mem h)
theorem TokR.roU {us ts : List Nat} {l : List (Nat × Nat × Bool)} (hT : Toks (get l) us ts) {u n : Nat} (h : TokR (get l) u n) : TokR (get (protT ts l)) (roU us u) n := by
  have key : ∀ t x w, get l t = some (x, w) → get (protT ts l) t = some (x, if memN t ts = true then false else w) := fun t x w h => by
    rw [get_protT, h]
    simp only [Option.map_some]
    split <;> rfl
  unfold Lo.roU
  split
  · rename_i hm
    refine h.roT fun x w hx => ?_
    rw [key _ _ _ hx, if_pos ((memN_iff _ _).2 (hT.all _ ((memN_iff _ _).1 hm)))]
  · split
    · refine h.ruT fun x w hx => ?_
      rw [key _ _ _ hx]
      split
      · exact .inl rfl
      · exact .inr rfl
    · rename_i hm
      refine h.same ?_
      obtain ⟨w, h1, _⟩ := h
      rw [key _ _ _ h1, if_neg (fun e => memN_false.1 hm (hT.sub _ ((memN_iff _ _).1 e))), h1]
theorem mb_roU (us : List Nat) (u : Nat) : mbT (roU us u) = mbT u := by
  unfold roU; split
  · exact mb_roT u
  · split
    · exact mb_ruT u
    · rfl
theorem tb_roU (us : List Nat) (u : Nat) : tb (roU us u) = tb u := by
  unfold roU; split
  · exact tb_roT u
  · split
    · exact tb_ruT u
    · rfl
theorem tb_keepN {f : Nat → Nat} (h : ∀ u, tb (f u) = tb u) (u : Nat) (es : List (List V)) : tb (keepN f u es) = tb u := by
  unfold keepN; split
  · cases es <;> simp [h]
  · exact h u
theorem mb_keepN {f : Nat → Nat} (h : ∀ u, mbT (f u) = mbT u) (u : Nat) (es : List (List V)) : mbT (keepN f u es) = mbT u := by
  unfold keepN; split
  · cases es <;> simp [h]
  · exact h u
/-- The marks alone are turned. -/
theorem marks_rel (k : RelFr fr2 fr tk) {f : Nat → Nat} (h1 : ∀ u, tb (f u) = tb u) (h2 : ∀ u, mbT (f u) = mbT u) (h3 : ∀ u n, TokR tk u n → TokR tk' (f u) n) :
    RelFr (mpF (fun u sz es => .sl (some (keepN f u es)) sz es) (fun u n i off cs => .eref (f u) n i off cs) .ref fr2) fr tk' := by
  refine k.mp (tk' := tk') Hom.id (fun u sz es v h => ?_) (fun u n i o cs v h => ?_) (fun s o => by simp only [Rel]) fun s v _ h => h
  · simp only [Rel] at h ⊢
    rcases h with ⟨h0, h⟩ | ⟨es', g1, g2, g3⟩
    · exact .inl ⟨by rw [mb_keepN h2]; exact h0, h⟩
    · refine .inr ⟨es', by rw [tb_keepN h1]; exact g1, g2, ?_⟩
      have : keepN f u es = f u := by
        unfold keepN
        split
        · rename_i hm
          obtain ⟨_, _, _, _, h4⟩ := g3
          cases es with
          | nil => exact absurd rfl (h4 hm)
          | cons _ _ => rfl
        · rfl
      rw [this]
      exact h3 _ _ g3
  · simp only [Rel] at h ⊢
    obtain ⟨ds, g1, g2, g3⟩ := h
    exact ⟨ds, by rw [h1]; exact g1, g2, h3 _ _ g3⟩
theorem roF_rel {l : List (Nat × Nat × Bool)} (k : RelFr fr2 fr (get l)) {us ts : List Nat} (hT : Toks (get l) us ts) : RelFr (roF us fr2) fr (get (protT ts l)) := by
  cases us with
  | nil =>
    have : ts = [] := by
      cases ts with
      | nil => rfl
      | cons t ts => exact absurd (hT.sub t (by simp)) (by simp)
    subst this
    have e : get (protT [] l) = get l := by
      funext t
      rw [get_protT]
      cases get l t <;> simp [memN]
    rw [e]; exact k
  | cons u us => exact marks_rel k (fun _ => tb_roU _ _) (fun _ => mb_roU _ _) fun _ _ h => h.roU hT
theorem roA_rel {l : List (Nat × Nat × Bool)} (k : RelFr fr2 fr (get l)) : RelFr (roA fr2) fr (get (protAll l)) :=
  marks_rel k tb_roT mb_roT fun _ _ h => h.roT fun x w hx => by rw [get_protAll, hx]; rfl
theorem ruA_rel {l : List (Nat × Nat × Bool)} (k : RelFr fr2 fr (get l)) (b : Bool) : RelFr (ruA fr2) fr (get (if b = true then protAll l else l)) := by
  refine marks_rel k tb_ruT mb_ruT fun u n h => h.ruT fun x w hx => ?_
  cases b with
  | true => left; rw [if_pos rfl, get_protAll, hx]; rfl
  | false => right; rw [if_neg (by simp)]; exact hx
theorem estT_rel (k : RelFr fr2 fr tk) (t n i : Nat) {e e' : List V} (he : RelL e noT e') : RelFr (estT t n i e fr2) (estF t n i e' fr) tk := by
  refine k.mp (tk' := tk) (Hom.est t n i e') (fun u sz es v h => ?_) (fun u n i o cs v h => ?_) (fun s o => by simp only [Rel, V.est]) fun s v _ h => by rw [get_estF_eq, h]; rfl
  · split
    · rename_i hu
      split
      · rename_i hn
        simp only [Rel] at h ⊢
        rcases h with ⟨h0, rfl, rfl⟩ | ⟨es', rfl, h2, h3⟩
        · exact .inl ⟨h0, by simp, rfl⟩
        · refine .inr ⟨es'.set i e', ?_, h2.set i he, by simpa using h3⟩
          simp only [V.est, if_pos hu, h2.length, if_pos hn]
      · simp only [Rel]
    · rename_i hu
      simp only [Rel] at h ⊢
      rcases h with ⟨h0, h1, rfl⟩ | ⟨es', rfl, h2, h3⟩
      · exact .inl ⟨h0, h1, rfl⟩
      · exact .inr ⟨es', by simp only [V.est, if_neg hu], h2, h3⟩
  · split
    · simp only [Rel]
    · rename_i hu
      simp only [Rel] at h ⊢
      obtain ⟨ds, rfl, h2, h3⟩ := h
      exact ⟨ds, by simp only [V.est, if_neg hu], h2, h3⟩
theorem prepG_rel {l : List (Nat × Nat × Bool)} (k : RelFr fr2 fr (get l)) (ds : List Nat) : RelFr (prepG ds fr2) (prepF ds fr) (get (prepT ds l)) := by
  have same : ∀ u, ¬ memN (tb u / 100) ds = true → get (prepT ds l) (tb u) = get l (tb u) := fun u hu => by rw [get_prepT_eq, if_neg hu]
  refine (k.dropLeft ds).mp (tk' := get (prepT ds l)) (Hom.prep ds) (fun u sz es v h => ?_) (fun u n i o cs v h => ?_) (fun s o => ?_) fun s v hs h => ?_
  · split
    · rename_i hu
      simp only [Rel] at h ⊢
      rcases h with ⟨h0, h1, rfl⟩ | ⟨es', rfl, h2, h3⟩
      · exact .inl ⟨h1, rfl⟩
      · exact .inr ⟨es', by simp only [V.prep, if_pos hu], h2⟩
    · rename_i hu
      simp only [Rel] at h ⊢
      rcases h with ⟨h0, h1, rfl⟩ | ⟨es', rfl, h2, h3⟩
      · exact .inl ⟨h0, h1, rfl⟩
      · exact .inr ⟨es', by simp only [V.prep, if_neg hu], h2, h3.same (same u hu)⟩
  · split
    · simp only [Rel]
    · rename_i hu
      simp only [Rel] at h ⊢
      obtain ⟨ds', rfl, h2, h3⟩ := h
      exact ⟨ds', by simp only [V.prep, if_neg hu], h2, h3.same (same u hu)⟩
  · split
    · simp only [Rel]
    · rename_i hs
      simp only [V.prep, if_neg hs, Rel]
  · rw [get_dropL_eq] at hs
    split at hs
    · cases hs
    · rename_i hm; rw [get_prepF_eq, if_neg hm, h]; rfl
theorem prep_rel {σ2 σ : St} (h : RelS σ2 σ) (lp : Bool) (ds : List Nat) : RelS (prep2 lp ds σ2) (prep lp ds σ) := by
  cases lp with
  | false => exact h
  | true =>
    cases ds with
    | nil => exact h
    | cons d ds => exact ⟨prepG_rel h.fr _, h.tr⟩
/-! ### Operands -/
mutual
theorem unV_rel : ∀ w : V, w.okV = true → Rel w noT w.unV
  | .und, _ => by simp only [V.unV, Rel]
  | .dead, _ => by simp only [Rel]
  | .bool _, _ => by simp only [V.unV, Rel]
  | .int _ _, _ => by simp only [V.unV, Rel]
  | .nil, _ => by simp only [V.unV, Rel]
  | .sl none sz [], _ => by simp only [V.unV, Rel]; exact .inl ⟨trivial, trivial⟩
  | .sl (some u) sz [], h => by
    simp only [V.okV] at h
    simp only [V.unV, Rel]; exact .inl ⟨h, trivial, trivial⟩
  | .sl none sz (_ :: _), h => by simp [V.okV] at h
  | .sl (some u) sz (_ :: _), h => by simp [V.okV] at h
  | .agg cs, h => by
    simp only [V.okV] at h
    simp only [V.unV, Rel]; exact ⟨_, rfl, unVL_rel cs h⟩
  | .fn f [], _ => by simp only [V.unV, Rel]; exact ⟨[], rfl, RelL.nil⟩
  | .fn f (_ :: _), h => by simp [V.okV] at h
  | .tup _, h => by simp [V.okV] at h
  | .ref _ _, h => by simp [V.okV] at h
  | .cref _, h => by simp [V.okV] at h
  | .eref _ _ _ _ _, h => by simp [V.okV] at h
  | .box _, h => by simp [V.okV] at h
theorem unVL_rel : ∀ ws : List V, okVL ws = true → RelL ws noT (unVL ws)
  | [], _ => RelL.nil
  | w :: ws, h => by
    simp only [okVL, Bool.and_eq_true] at h
    simp only [unVL]
    exact RelL.cons (unV_rel w h.1) (unVL_rel ws h.2)
end
theorem opd_rel (k : RelFr fr2 fr tk) {x : Opd} {w : V} (hx : okO x = true) (h : opd fr2 x = some w) : ∃ v, opd fr (unO x) = some v ∧ Rel w tk v := by
  cases x with
  | c c =>
    simp only [opd, Option.some.injEq] at h; subst h
    exact ⟨_, rfl, (unV_rel c hx).wk⟩
  | f n =>
    simp only [opd, Option.some.injEq] at h; subst h
    exact ⟨_, rfl, by simp only [Rel]; exact ⟨[], rfl, RelL.nil⟩⟩
  | t s =>
    simp only [opd] at h
    cases hw : get fr2 s with
    | none => rw [hw] at h; cases h
    | some w0 =>
      rw [hw] at h
      rcases k s w0 hw with rfl | ⟨v, h1, h2⟩
      · cases h
      · simp only [unO, opd, h1]
        cases w0 with
        | box cs =>
          simp only [Rel] at h2; obtain ⟨ds, rfl, _⟩ := h2
          simp only [Option.some.injEq] at h; subst h
          exact ⟨_, rfl, by simp only [Rel]⟩
        | dead => cases h
        | sl t sz es =>
          simp only [Option.some.injEq] at h; subst h
          cases t with
          | none =>
            have h3 := h2
            simp only [Rel] at h3
            rcases h3 with ⟨_, rfl⟩ | ⟨_, rfl, _⟩ <;> exact ⟨_, rfl, h2⟩
          | some u =>
            have h3 := h2
            simp only [Rel] at h3
            rcases h3 with ⟨_, _, rfl⟩ | ⟨_, rfl, _⟩ <;> exact ⟨_, rfl, h2⟩
        | und => simp only [Option.some.injEq] at h; subst h; simp only [Rel] at h2; subst h2; exact ⟨_, rfl, by simp only [Rel]⟩
        | bool b => simp only [Option.some.injEq] at h; subst h; simp only [Rel] at h2; subst h2; exact ⟨_, rfl, by simp only [Rel]⟩
        | int _ _ => simp only [Option.some.injEq] at h; subst h; simp only [Rel] at h2; subst h2; exact ⟨_, rfl, by simp only [Rel]⟩
        | nil => simp only [Option.some.injEq] at h; subst h; simp only [Rel] at h2; subst h2; exact ⟨_, rfl, by simp only [Rel]⟩
        | ref _ _ => simp only [Option.some.injEq] at h; subst h; simp only [Rel] at h2; subst h2; exact ⟨_, rfl, by simp only [Rel]⟩
        | agg cs => simp only [Option.some.injEq] at h; subst h; have h3 := h2; simp only [Rel] at h3; obtain ⟨ds, rfl, _⟩ := h3; exact ⟨_, rfl, h2⟩
        | tup cs => simp only [Option.some.injEq] at h; subst h; have h3 := h2; simp only [Rel] at h3; obtain ⟨ds, rfl, _⟩ := h3; exact ⟨_, rfl, h2⟩
        | fn f cs => simp only [Option.some.injEq] at h; subst h; have h3 := h2; simp only [Rel] at h3; obtain ⟨ds, rfl, _⟩ := h3; exact ⟨_, rfl, h2⟩
        | cref cs => simp only [Option.some.injEq] at h; subst h; have h3 := h2; simp only [Rel] at h3; obtain ⟨ds, rfl, _⟩ := h3; exact ⟨_, rfl, h2⟩
        | eref a b c d cs => simp only [Option.some.injEq] at h; subst h; have h3 := h2; simp only [Rel] at h3; obtain ⟨ds, rfl, _⟩ := h3; exact ⟨_, rfl, h2⟩
theorem opds_rel (k : RelFr fr2 fr tk) : ∀ {xs : List Opd} {ws : List V}, xs.all okO = true → opds fr2 xs = some ws → ∃ vs, opds fr (xs.map unO) = some vs ∧ RelL ws tk vs
  | [], ws, _, h => by
    simp only [opds, Option.some.injEq] at h; subst h
    exact ⟨[], rfl, RelL.nil⟩
  | x :: xs, ws, hx, h => by
    simp only [List.all_cons, Bool.and_eq_true] at hx
    simp only [opds, List.map_cons] at h ⊢
    split at h
    · rename_i w1 ws1 e1 e2
      simp only [Option.some.injEq] at h; subst h
      obtain ⟨v, g1, g2⟩ := opd_rel k hx.1 e1
      obtain ⟨vs, g3, g4⟩ := opds_rel k hx.2 e2
      rw [g1, g3]
      exact ⟨_, rfl, RelL.cons g2 g4⟩
    · cases h
theorem wanted_rel (k : RelFr fr2 fr tk) {g : Option (Nat × Bool)} {b : Bool} (h : wanted fr2 g = some b) : wanted fr g = some b := by
  cases g with
  | none => exact h
  | some p =>
    obtain ⟨s, c⟩ := p
    simp only [wanted] at h ⊢
    cases hw : get fr2 s with
    | none => rw [hw] at h; cases h
    | some w =>
      rw [hw] at h
      rcases k s w hw with rfl | ⟨v, h1, h2⟩
      · cases h
      · rw [h1]
        cases w <;> first | (cases h; done) | skip
        · simp only [Rel] at h2; subst h2; exact h
        · simp only [Rel] at h2; subst h2; exact h
theorem bxOf_rel (k : RelFr fr2 fr tk) {ex : List Nat} {s : Nat} {cs : List V} (h : bxOf fr2 ex s = some cs) : ∃ ds, bxOf fr ex s = some ds ∧ RelL cs tk ds := by
  unfold bxOf at h ⊢
  split at h
  · cases h
  · rename_i hm
    rw [if_neg hm]
    cases hw : get fr2 s with
    | none => rw [hw] at h; cases h
    | some w =>
      rw [hw] at h
      rcases k s w hw with rfl | ⟨v, h1, h2⟩
      · cases h
      · rw [h1]
        cases w <;> first | (cases h; done) | skip
        simp only [Option.some.injEq] at h; subst h
        simp only [Rel] at h2
        obtain ⟨ds, rfl, h2⟩ := h2
        exact ⟨ds, rfl, h2⟩
end
end Go.Lo
