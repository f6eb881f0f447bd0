/- Texts put together. -/
import Derived.Test.YtgmgjibmjdhkhaaPe
/- Words for the walks of the plain machine. -/
namespace Go.Lo
abbrev I (n : Int) : V := .int .i64 n
abbrev B (b : Bool) : V := .bool b
/-- A slice that nobody writes any more. -/
abbrev S (sz : Nat) (es : List (List V)) : V := .sl none sz es
/-- Integers as elements. -/
abbrev eI (xs : List Int) : List (List V) := xs.map fun x => [I x]
theorem wrap64 {n : Int} (h1 : -9223372036854775808 ≤ n) (h2 : n ≤ 9223372036854775807) : IntKind.i64.wrap n = n := by
  simp [IntKind.wrap, IntKind.bits, IntKind.signed]
  omega
theorem if_iff {α : Type} {P Q : Prop} [Decidable P] [Decidable Q] {x y : α} (h : P ↔ Q) : (if P then x else y) = if Q then x else y := by by_cases hp : P <;> simp [hp, ← h]
theorem iter_succ {f : St → Option (Ex × St)} {n : Nat} {σ : St} : iter f (n + 1) σ = match f σ with
    | some (.normal, σ') => iter f n σ'
    | r => r := rfl
theorem loop_find {f : St → Option (Ex × St)} {s : Nat → St} {n : Nat} {g : Nat → Bool} {E : Nat → Ex × St} {X : Ex × St} (hs : ∀ i, i < n → f (s i) = some (if g i = true then E i else (.normal, s (i + 1)))) (hE : ∀ i, (E i).1 ≠ .normal) (hn : f (s n) = some X) (hX : X.1 ≠ .normal) :
    ∀ (k i : Nat), i + k = n → iter f (k + 1) (s i) = some (match (List.range' i k).find? g with
      | some j => E j
      | none => X)
  | 0, i, h => by
    have : i = n := by omega
    subst this
    rw [iter_succ, hn]
    obtain ⟨x, σ⟩ := X
    cases x with
    | normal => exact (hX rfl).elim
    | exit id => rfl
    | ret => rfl
  | k + 1, i, h => by
    rw [iter_succ, hs i (by omega), List.range'_succ, List.find?_cons]
    cases hg : g i with
    | true =>
      simp only [if_true]
      have he := hE i
      generalize E i = e at he ⊢
      obtain ⟨x, σ⟩ := e
      cases x with
      | normal => exact (he rfl).elim
      | exit id => rfl
      | ret => rfl
    | false =>
      simp only [Bool.false_eq_true, if_false]
      exact loop_find hs hE hn hX k (i + 1) (by omega)
/-- The first element, and the first index, for which a function says so. -/
def prAt {α : Type} (pr : α → Bool) (xs : List α) (i : Nat) : Bool := match xs[i]? with
  | some x => pr x
  | none => false
theorem prAt_some {α : Type} {pr : α → Bool} {xs : List α} {i : Nat} {x : α} (h : xs[i]? = some x) : prAt pr xs i = pr x := by simp only [prAt, h]
theorem find_idx {α : Type} (pr : α → Bool) (xs : List α) : (List.range' 0 xs.length).find? (prAt pr xs) = xs.findIdx? pr := by
  have key : ∀ (l : List α) (k : Nat) (g : Nat → Bool), (∀ i x, l[i]? = some x → g (k + i) = pr x) → (List.range' k l.length).find? g = (l.findIdx? pr).map (· + k) := by
    intro l
    induction l with
    | nil => intro k g _; rfl
    | cons x l ih =>
      intro k g hg
      rw [List.length_cons, List.range'_succ, List.find?_cons, List.findIdx?_cons]
      have h0 := hg 0 x rfl
      rw [Nat.add_zero] at h0
      rw [h0]
      cases hx : pr x with
      | true => simp
      | false =>
        simp only [Bool.false_eq_true, if_false, Option.map_map]
        rw [ih (k + 1) g fun i y hy => by rw [show k + 1 + i = k + (i + 1) by omega]; exact hg (i + 1) y (by simpa using hy)]
        cases l.findIdx? pr <;> simp; omega
  have := key xs 0 (prAt pr xs) (fun i x h => by rw [Nat.zero_add, prAt_some h])
  rw [this]; cases xs.findIdx? pr <;> simp
/-- A search, by what a round comes to. -/
theorem loop_if {f : St → Option (Ex × St)} {s : Nat → St} {n : Nat} {g : Nat → Bool} {E : Nat → Ex × St} {X : Ex × St} (hs : ∀ i, i < n → f (s i) = if g i = true then some (E i) else some (.normal, s (i + 1))) (hE : ∀ i, (E i).1 ≠ .normal) (hn : f (s n) = some X) (hX : X.1 ≠ .normal) :
    iter f (n + 1) (s 0) = some (match (List.range' 0 n).find? g with
      | some j => E j
      | none => X) :=
  loop_find (fun i hi => by rw [hs i hi]; split <;> rfl) hE hn hX n 0 (by omega)
theorem loop_all {f : St → Option (Ex × St)} {s : Nat → St} {n : Nat} {X : Ex × St} (hs : ∀ i, i < n → f (s i) = some (.normal, s (i + 1))) (hn : f (s n) = some X) (hX : X.1 ≠ .normal) : iter f (n + 1) (s 0) = some X := by
  have := loop_find (g := fun _ => false) (E := fun i => (.ret, s i)) (s := s) (fun i hi => by rw [hs i hi]; rfl) (fun _ => by simp) hn hX n 0 (by omega)
  rw [this]
  have : (List.range' 0 n).find? (fun _ => false) = none := by simp
  rw [this]
/-! ### How the machine goes on, in small steps -/
section
variable (call : Nat → List V → Option V) (N : Nat)
def goE (dst : Option Nat) (is : List LIns) (σ : St) : Option Eff2 → Option St
  | some e => stepL2 call is (apply2 σ dst e)
  | none => none
def goK (dst : Option Nat) (k : K) (ex : List Nat) (is : List LIns) (σ : St) : Option (List V) → Option St
  | some vs => goE call dst is σ (sem2 call (bxOf σ.fr ex) ex (dst.getD 0) k vs)
  | none => none
def goG (dst : Option Nat) (k : K) (xs : List Opd) (ex : List Nat) (is : List LIns) (σ : St) (b : Bool) : Option V → Option St
  | some (.bool c) => match c == b with
    | true => goK call dst k ex is σ (opds σ.fr xs)
    | false => stepL2 call is { σ with fr := putO σ.fr dst .und }
  | some .und => stepL2 call is { σ with fr := putO σ.fr dst .und }
  | _ => none
def regE (kn : Nat) (kp : List Nat) : Option St → Option (Ex × St)
  | some σ => some (.normal, { σ with fr := keepL kn kp σ.fr })
  | none => none
def seqE (b : LCode) : Option (Ex × St) → Option (Ex × St)
  | some (.normal, σ) => evC2 call N b σ
  | r => r
def conE (a b : LCode) (σ : St) : Option V → Option (Ex × St)
  | some (.bool true) => evC2 call N a σ
  | some (.bool false) => evC2 call N b σ
  | _ => none
def blkE (id : Nat) : Option (Ex × St) → Option (Ex × St)
  | some (.exit j, σ) => if j = id then some (.normal, σ) else some (.exit j, σ)
  | r => r
def endE (it : Bool) (res : List RV) : Option (Ex × St) → Option V
  | some (.normal, σ) => finish2 it res σ
  | some (.ret, σ) => finish2 it res σ
  | _ => none
variable {call N}
variable {dst : Option Nat} {k : K} {xs : List Opd} {ex : List Nat} {is : List LIns} {σ : St} {e : Eff2} {vs : List V}
@[simp] theorem goE_some : goE call dst is σ (some e) = stepL2 call is (apply2 σ dst e) := rfl
@[simp] theorem goK_some : goK call dst k ex is σ (some vs) = goE call dst is σ (sem2 call (bxOf σ.fr ex) ex (dst.getD 0) k vs) := rfl
@[simp] theorem goG_tt : goG call dst k xs ex is σ true (some (.bool true)) = goK call dst k ex is σ (opds σ.fr xs) := rfl
@[simp] theorem goG_tf : goG call dst k xs ex is σ true (some (.bool false)) = stepL2 call is { σ with fr := putO σ.fr dst .und } := rfl
@[simp] theorem goG_ft : goG call dst k xs ex is σ false (some (.bool true)) = stepL2 call is { σ with fr := putO σ.fr dst .und } := rfl
@[simp] theorem goG_ff : goG call dst k xs ex is σ false (some (.bool false)) = goK call dst k ex is σ (opds σ.fr xs) := rfl
@[simp] theorem goG_und (b : Bool) : goG call dst k xs ex is σ b (some .und) = stepL2 call is { σ with fr := putO σ.fr dst .und } := rfl
@[simp] theorem stepL2_nil : stepL2 call [] σ = some σ := rfl
@[simp] theorem stepL2_cons : stepL2 call (⟨dst, k, xs, none, ex⟩ :: is) σ = goK call dst k ex is σ (opds σ.fr xs) := by
  simp only [stepL2, stepI2, wanted]
  cases opds σ.fr xs with
  | none => rfl
  | some vs => simp only [goK]; cases sem2 call (bxOf σ.fr ex) ex (dst.getD 0) k vs <;> rfl
@[simp] theorem stepL2_guard (s : Nat) (b : Bool) : stepL2 call (⟨dst, k, xs, some (s, b), ex⟩ :: is) σ = goG call dst k xs ex is σ b (get σ.fr s) := by
  simp only [stepL2, stepI2, wanted]
  cases hg : get σ.fr s with
  | none => rfl
  | some v =>
    cases v <;> try rfl
    rename_i c
    simp only [goG]
    cases hcb : c == b with
    | false => simp
    | true =>
      simp only
      cases opds σ.fr xs with
      | none => rfl
      | some vs => simp only [goK]; cases sem2 call (bxOf σ.fr ex) ex (dst.getD 0) k vs <;> rfl
@[simp] theorem regE_some {kn : Nat} {kp : List Nat} : regE kn kp (some σ) = some (.normal, { σ with fr := keepL kn kp σ.fr }) := rfl
@[simp] theorem seqE_normal {b : LCode} : seqE call N b (some (.normal, σ)) = evC2 call N b σ := rfl
@[simp] theorem seqE_ret {b : LCode} : seqE call N b (some (.ret, σ)) = some (.ret, σ) := rfl
@[simp] theorem seqE_exit {b : LCode} {i : Nat} : seqE call N b (some (.exit i, σ)) = some (.exit i, σ) := rfl
@[simp] theorem conE_true {a b : LCode} : conE call N a b σ (some (.bool true)) = evC2 call N a σ := rfl
@[simp] theorem conE_false {a b : LCode} : conE call N a b σ (some (.bool false)) = evC2 call N b σ := rfl
@[simp] theorem blkE_normal {id : Nat} : blkE id (some (.normal, σ)) = some (.normal, σ) := rfl
@[simp] theorem blkE_ret {id : Nat} : blkE id (some (.ret, σ)) = some (.ret, σ) := rfl
@[simp] theorem blkE_exit {id j : Nat} : blkE id (some (.exit j, σ)) = if j = id then some (.normal, σ) else some (.exit j, σ) := rfl
@[simp] theorem endE_normal {it : Bool} {res : List RV} : endE it res (some (.normal, σ)) = finish2 it res σ := rfl
@[simp] theorem endE_ret {it : Bool} {res : List RV} : endE it res (some (.ret, σ)) = finish2 it res σ := rfl
@[simp] theorem evC2_skip : evC2 call N .skip σ = some (.normal, σ) := rfl
@[simp] theorem evC2_ret : evC2 call N .ret σ = some (.ret, σ) := rfl
@[simp] theorem evC2_exit {id : Nat} : evC2 call N (.exit id) σ = some (.exit id, σ) := rfl
@[simp] theorem evC2_reg {lp : Bool} {ds pp : List Nat} {ops : List LIns} {kn : Nat} {kp : List Nat} : evC2 call N (.reg lp ds pp ops kn kp) σ = regE kn kp (stepL2 call ops (prep2 lp pp σ)) := by
  simp only [evC2]
  cases stepL2 call ops (prep2 lp pp σ) <;> rfl
@[simp] theorem evC2_seq {a b : LCode} : evC2 call N (.seq a b) σ = seqE call N b (evC2 call N a σ) := by
  simp only [evC2]
  cases evC2 call N a σ with
  | none => rfl
  | some r => obtain ⟨x, τ⟩ := r; cases x <;> rfl
@[simp] theorem evC2_cond {c : Opd} {a b : LCode} : evC2 call N (.cond c a b) σ = conE call N a b σ (opd σ.fr c) := by
  simp only [evC2]
  cases opd σ.fr c with
  | none => rfl
  | some v =>
    cases v <;> try rfl
    rename_i t
    cases t <;> rfl
def altE (a b : LCode) (σ : St) : Option Bool → Option (Ex × St)
  | some true => evC2 call N b σ
  | some false => evC2 call N a σ
  | none => none
@[simp] theorem altE_true {a b : LCode} : altE (call := call) (N := N) a b σ (some true) = evC2 call N b σ := rfl
@[simp] theorem altE_false {a b : LCode} : altE (call := call) (N := N) a b σ (some false) = evC2 call N a σ := rfl
@[simp] theorem evC2_alt {ts ks : List Nat} {a b : LCode} : evC2 call N (.alt ts ks a b) σ = altE (call := call) (N := N) a b σ (altT2 ts σ.fr ks) := by
  simp only [evC2]
  cases altT2 ts σ.fr ks with
  | none => rfl
  | some c => cases c <;> rfl
@[simp] theorem andO_ss {a b : Bool} : andO (some a) (some b) = some (a || b) := rfl
@[simp] theorem altT2_nil {ts : List Nat} {fr : List (Nat × V)} : altT2 ts fr [] = some false := rfl
def altG (ts : List Nat) (fr : List (Nat × V)) (ks : List Nat) : Option V → Option Bool
  | some v => andO (hasT2 ts v) (altT2 ts fr ks)
  | none => none
@[simp] theorem altG_some {ts : List Nat} {fr : List (Nat × V)} {ks : List Nat} {v : V} : altG ts fr ks (some v) = andO (hasT2 ts v) (altT2 ts fr ks) := rfl
@[simp] theorem altT2_cons {ts : List Nat} {fr : List (Nat × V)} {k : Nat} {ks : List Nat} : altT2 ts fr (k :: ks) = altG ts fr ks (get fr k) := by
  simp only [altT2]; cases get fr k <;> rfl
@[simp] theorem hasT2_box {ts : List Nat} {cs : List V} : hasT2 ts (.box cs) = slTL2 ts cs := rfl
@[simp] theorem slTL2_nil {ts : List Nat} : slTL2 ts [] = some false := rfl
@[simp] theorem slTL2_cons {ts : List Nat} {v : V} {vs : List V} : slTL2 ts (v :: vs) = andO (slT2 ts v) (slTL2 ts vs) := rfl
@[simp] theorem slT2_nil {ts : List Nat} {u sz : Nat} : slT2 ts (.sl (some u) sz []) = some (!mbT u && memN (tb u / 100) ts) := rfl
@[simp] theorem slT2_cons {ts : List Nat} {u sz : Nat} {e : List V} {es : List (List V)} : slT2 ts (.sl (some u) sz (e :: es)) = some (memN (tb u / 100) ts) := rfl
theorem slT2_ne {ts : List Nat} {u sz : Nat} {es : List (List V)} (h : es ≠ []) : slT2 ts (.sl (some u) sz es) = some (memN (tb u / 100) ts) := by
  cases es with
  | nil => exact absurd rfl h
  | cons e es => rfl
@[simp] theorem evC2_block {id : Nat} {a : LCode} : evC2 call N (.block id a) σ = blkE id (evC2 call N a σ) := by
  simp only [evC2]
  cases evC2 call N a σ with
  | none => rfl
  | some r => obtain ⟨x, τ⟩ := r; cases x <;> rfl
@[simp] theorem evC2_loop {a : LCode} : evC2 call N (.loop a) σ = iter (evC2 call N a) N σ := rfl
theorem evBody2_eq {lf : LFun} {args : List V} (h : args.length = lf.np) (hl : liveL args = true) : evBody2 call N lf args = endE (ranged args) lf.res (evC2 call N lf.body { fr := params 0 args ++ deadL lf.sl, tk := [], tr := if ranged args = true then some [] else none }) := by
  unfold evBody2
  rw [if_pos ⟨h, hl⟩]
  cases evC2 call N lf.body { fr := params 0 args ++ deadL lf.sl, tk := [], tr := if ranged args = true then some [] else none } with
  | none => rfl
  | some r => obtain ⟨x, τ⟩ := r; cases x <;> rfl
/-- A function's equation. -/
theorem run2_body {F : Nat → Option (List V → Option V)} {C : Nat → Option LFun} {f : Nat} (N : Nat) {lf : LFun} {as1 : List V} {r : V} (hF : F f = none) (hC : C f = some lf) (h : as1.length = lf.np) (hl : liveL as1 = true) (hr : ranged as1 = false)
    (hb : endE false lf.res (evC2 (run2 F C) N lf.body { fr := params 0 as1 ++ deadL lf.sl, tk := [] }) = some r) : run2 F C f as1 = some r := by
  refine run2_of_body (N := N) hF hC ?_
  rw [evBody2_eq h hl, hr]
  exact hb
/-- An iterator's equation. -/
theorem run2_iter {F : Nat → Option (List V → Option V)} {C : Nat → Option LFun} {f : Nat} (N : Nat) {lf : LFun} {as1 : List V} {r : V} (hF : F f = none) (hC : C f = some lf) (h : as1.length = lf.np) (hl : liveL as1 = true) (hr : ranged as1 = true)
    (hb : endE true lf.res (evC2 (run2 F C) N lf.body { fr := params 0 as1 ++ deadL lf.sl, tk := [], tr := some [] }) = some r) : run2 F C f as1 = some r := by
  refine run2_of_body (N := N) hF hC ?_
  rw [evBody2_eq h hl, hr]
  exact hb
/-! ### Ranges over functions -/
def raE (evB : St → Option (Ex × St)) : Option (Ex × St) → Option (Ex × St)
  | some (.normal, σ) => evB σ
  | _ => none
def rbE (wr : List Nat) : Option (Ex × St) → Option (Ex × St)
  | some (ex, σ) => some (ex, { σ with fr := dropL wr σ.fr })
  | none => none
@[simp] theorem raE_some {evB : St → Option (Ex × St)} : raE evB (some (.normal, σ)) = evB σ := rfl
@[simp] theorem rbE_some {wr : List Nat} {x : Ex} : rbE wr (some (x, σ)) = some (x, { σ with fr := dropL wr σ.fr }) := rfl
@[simp] theorem rbE_ite {P : Prop} [Decidable P] {wr : List Nat} {x y : Option (Ex × St)} : rbE wr (if P then x else y) = if P then rbE wr x else rbE wr y := by split <;> rfl
theorem roundE_eq {evA evB : St → Option (Ex × St)} {ps wr : List Nat} {as1 : List V} : roundE evA evB ps wr σ as1 = if as1.length = ps.length then rbE wr (raE evB (evA { σ with fr := putA ps as1 (dropL wr σ.fr) })) else none := by
  unfold roundE
  split
  · cases evA { σ with fr := putA ps as1 (dropL wr σ.fr) } with
    | none => rfl
    | some r =>
      obtain ⟨x, τ⟩ := r
      cases x with
      | normal =>
        simp only [raE]
        cases evB τ with
        | none => rfl
        | some r => obtain ⟨x, τ⟩ := r; rfl
      | exit _ => rfl
      | ret => rfl
  · rfl
def rnF (call : Nat → List V → Option V) (N : Nat) (ps wr : List Nat) (asg body : LCode) (σ : St) (ys : List V → Nat → Nat → Option V) : Option (List V × List Nat) → Option (Ex × St)
  | some (cs, ts) => if (cs.all fun v => v.cells.all V.pm) = true then rngE (roundE (evC2 call N asg) (evC2 call N body) ps wr) (ys cs 0) { fr := dropL wr (roF ts σ.fr), tk := σ.tk, tr := none } else none
  | none => none
def rnE (call : Nat → List V → Option V) (N : Nat) (ps wr : List Nat) (asg body : LCode) (σ : St) : Option (List (List V)) → Option V → Option (Ex × St)
  | none, some (.fn (.f f) caps) => rnF call N ps wr asg body σ (fun cs _ a => call f (.fn (.y a) [] :: cs)) (frzEL caps)
  | none, some (.fn (.m f) caps) => rnF call N ps wr asg body σ (fun cs _ a => call f (cs ++ [.fn (.y a) []])) (frzEL caps)
  | _, _ => none
@[simp] theorem rnE_f {ps wr : List Nat} {asg body : LCode} {f : Nat} {caps : List V} : rnE call N ps wr asg body σ none (some (.fn (.f f) caps)) = rnF call N ps wr asg body σ (fun cs _ a => call f (.fn (.y a) [] :: cs)) (frzEL caps) := rfl
@[simp] theorem rnE_m {ps wr : List Nat} {asg body : LCode} {f : Nat} {caps : List V} : rnE call N ps wr asg body σ none (some (.fn (.m f) caps)) = rnF call N ps wr asg body σ (fun cs _ a => call f (cs ++ [.fn (.y a) []])) (frzEL caps) := rfl
@[simp] theorem rnF_some {ps wr : List Nat} {asg body : LCode} {ys : List V → Nat → Nat → Option V} {cs : List V} {ts : List Nat} : rnF call N ps wr asg body σ ys (some (cs, ts)) = if (cs.all fun v => v.cells.all V.pm) = true then rngE (roundE (evC2 call N asg) (evC2 call N body) ps wr) (ys cs 0) { fr := dropL wr (roF ts σ.fr), tk := σ.tk, tr := none } else none := rfl
@[simp] theorem evC2_rng {g : Opd} {ps wr : List Nat} {asg body : LCode} : evC2 call N (.rng g ps wr asg body) σ = rnE call N ps wr asg body σ σ.tr (opd σ.fr g) := by
  simp only [evC2]
  cases σ.tr with
  | some l => rfl
  | none =>
    cases opd σ.fr g with
    | none => rfl
    | some v =>
      cases v with
      | fn f caps =>
        cases f with
        | y a => rfl
        | f f =>
          simp only [rnE, rnF]
          cases frzEL caps with
          | none => rfl
          | some p => obtain ⟨x, y⟩ := p; rfl
        | m f =>
          simp only [rnE, rnF]
          cases frzEL caps with
          | none => rfl
          | some p => obtain ⟨x, y⟩ := p; rfl
      | _ => rfl
theorem rngE_all {f : St → List V → Option (Ex × St)} {it : Nat → Option V} {items : List (List V)} {σ' : St} (h1 : it 0 = some (.tup (tupsL items))) (h2 : foldR f 0 σ items = some (none, σ')) : rngE f it σ = some (.normal, σ') := by
  unfold rngE
  rw [h1]
  simp only [itemsOf, itemsL_tups, h2]
theorem fold_all {α β : Type} {f : St → List V → Option (Ex × St)} {s : List β → St} {W : α → List V} {h : α → List β} : ∀ (xs : List α) (k : Nat) (l : List β), (∀ x ∈ xs, ∀ l, f (s l) (W x) = some (.normal, s (l ++ h x))) → foldR f k (s l) (xs.map W) = some (none, s (l ++ xs.flatMap h))
  | [], k, l, _ => by simp [foldR]
  | x :: xs, k, l, hf => by
    simp only [List.map_cons, foldR, hf x (by simp) l]
    rw [fold_all xs (k + 1) (l ++ h x) fun y hy => hf y (by simp [hy])]
    simp
theorem len_flatMap {α β : Type} {h : α → List β} {c : Nat} (hc : ∀ x, (h x).length ≤ c) : ∀ xs : List α, (xs.flatMap h).length ≤ xs.length * c
  | [] => by simp
  | x :: xs => by
    have := len_flatMap hc xs
    have := hc x
    rw [List.flatMap_cons, List.length_append, List.length_cons, Nat.add_mul]; omega
/-- All rounds of a range over a function that goes on and on; the first one starts from a frame of its own. -/
theorem rng_fold {α β : Type} {f : St → List V → Option (Ex × St)} {it : Nat → Option V} {σ0 : St} {s : List β → St} {W : α → List V} {h : α → List β} {xs : List α} {l0 : List β} (h1 : it 0 = some (.tup (tupsL (xs.map W)))) (hx : xs ≠ [])
    (h0 : ∀ x, f σ0 (W x) = f (s l0) (W x)) (hf : ∀ pre x suf, xs = pre ++ x :: suf → f (s (l0 ++ pre.flatMap h)) (W x) = some (.normal, s (l0 ++ pre.flatMap h ++ h x))) : rngE f it σ0 = some (.normal, s (l0 ++ xs.flatMap h)) := by
  have key : ∀ (suf pre : List α) (k : Nat), xs = pre ++ suf → foldR f k (s (l0 ++ pre.flatMap h)) (suf.map W) = some (none, s (l0 ++ xs.flatMap h)) := by
    intro suf
    induction suf with
    | nil => intro pre k e; rw [List.append_nil] at e; subst e; rfl
    | cons x suf ih =>
      intro pre k e
      simp only [List.map_cons, foldR, hf pre x suf e]
      have := ih (pre ++ [x]) (k + 1) (by rw [e]; simp)
      rw [← this]
      simp
  refine rngE_all h1 ?_
  have k0 := key xs [] 0 rfl
  simp only [List.flatMap_nil, List.append_nil] at k0
  rw [← k0]
  cases xs with
  | nil => exact absurd rfl hx
  | cons x xs => simp only [List.map_cons, foldR, h0 x]
/-! ### Operations -/
variable {bx : Nat → Option (List V)} {d : Nat}
def stoE (s off : Nat) (new : List V) : Option (List V) → Option Eff2
  | some cs => match splice cs off new with | some cs' => some (.sto s cs') | none => none
  | none => none
@[simp] theorem stoE_some {s off : Nat} {new cs : List V} : stoE s off new (some cs) = if off + new.length ≤ cs.length then some (.sto s (cs.take off ++ new ++ cs.drop (off + new.length))) else none := by
  by_cases h : off + new.length ≤ cs.length <;> simp [stoE, splice, h]
def ldE (off : Nat) (n : Option Nat) : Option (List V) → Option V
  | some cs => partV cs off n
  | none => none
@[simp] theorem ldE_some {off : Nat} {n : Option Nat} {cs : List V} : ldE off n (some cs) = partV cs off n := rfl
@[simp] theorem x_mv {v : V} : sem2 call bx ex d .mv [v] = some (.val v) := rfl
@[simp] theorem x_pick_t {a b : V} : sem2 call bx ex d .pick [.bool true, a, b] = some (.val a) := rfl
@[simp] theorem x_pick_f {a b : V} : sem2 call bx ex d .pick [.bool false, a, b] = some (.val b) := rfl
theorem x_pick {c : Bool} {a b : V} : sem2 call bx ex d .pick [.bool c, a, b] = some (.val (if c = true then a else b)) := rfl
@[simp] theorem x_box {v : V} : sem2 call bx ex d .box [v] = if v.cells.all V.cellOk = true then some (.val (.box v.cells)) else none := rfl
@[simp] theorem x_alloc {zs : List V} : sem2 call bx ex d (.alloc zs) [] = some (.val (.box zs)) := rfl
def agE : Option (List V) → Option Eff2
  | some cs => some (.val (.agg cs))
  | none => none
@[simp] theorem agE_some {cs : List V} : agE (some cs) = some (.val (.agg cs)) := rfl
@[simp] theorem x_build {zs vs : List V} {pl : List (Nat × Nat)} : sem2 call bx ex d (.build zs pl) vs = agE (fill pl vs zs) := by
  simp only [sem2]; cases fill pl vs zs <;> rfl
@[simp] theorem fill_nil {cs : List V} : fill [] [] cs = some cs := rfl
@[simp] theorem x_load {n : Option Nat} {v : V} : sem2 call bx ex d (.load n) [v] = valO2 (loadV bx n v) := rfl
@[simp] theorem ld_ref {n : Option Nat} {s off : Nat} : loadV bx n (.ref s off) = if s < 1000000 then ldE off n (bx s) else none := by simp only [loadV]; cases bx s <;> rfl
@[simp] theorem ld_gref {n : Option Nat} {cs : List V} : loadV bx n (.gref cs) = partV cs 0 n := rfl
@[simp] theorem ld_cref {n : Option Nat} {cs : List V} : loadV bx n (.cref cs) = partV cs 0 n := rfl
@[simp] theorem ld_eref {n : Option Nat} {t m i off : Nat} {cs : List V} : loadV bx n (.eref t m i off cs) = partV cs off n := rfl
@[simp] theorem x_store {n s off : Nat} {root : Option Nat} {v : V} : sem2 call bx ex d (.store n root) [.ref s off, v] = if s < 1000000 ∧ v.cells.length = n ∧ v.cells.all V.cellOk = true ∧ (root = none ∨ root = some s) then stoE s off v.cells (bx s) else none := by
  simp only [sem2]
  split
  · cases bx s <;> rfl
  · rfl
@[simp] theorem x_bin {ty : Nat} {op : BinOp} {x y : V} : sem2 call bx ex d (.bin ty op) [x, y] = valO2 (binV2 ty op x y) := rfl
@[simp] theorem x_un {op : UnOp} {x : V} : sem2 call bx ex d (.un op) [x] = valO2 (unV op x) := rfl
def eqE (ne : Bool) : Option Bool → Option Eff2
  | some r => some (.val (.bool (ne != r)))
  | none => none
@[simp] theorem eqE_some {ne r : Bool} : eqE ne (some r) = some (.val (.bool (ne != r))) := rfl
@[simp] theorem x_eqs {ne : Bool} {sh : List (Option IntKind)} {cs ds : List V} : sem2 call bx ex d (.eqs ne sh) [.agg cs, .agg ds] = eqE ne (eqSh sh cs ds) := by
  simp only [sem2]; cases eqSh sh cs ds <;> rfl
@[simp] theorem x_conv {q k : IntKind} {n : Int} : sem2 call bx ex d (.conv k) [.int q n] = some (.val (.int k (k.wrap n))) := rfl
@[simp] theorem x_mkf {f : Nat} : sem2 call bx ex d (.mkf f) vs = some (.val (.fn (.f f) vs)) := rfl
@[simp] theorem x_mkm {f : Nat} : sem2 call bx ex d (.mkm f) vs = some (.val (.fn (.m f) vs)) := rfl
@[simp] theorem x_fa_ref {off s o : Nat} : sem2 call bx ex d (.fa off) [.ref s o] = some (.val (.ref s (o + off))) := rfl
@[simp] theorem x_fa_gref {off : Nat} {cs : List V} : sem2 call bx ex d (.fa off) [.gref cs] = some (.val (.gref (cs.drop off))) := rfl
@[simp] theorem x_fa_cref {off : Nat} {cs : List V} : sem2 call bx ex d (.fa off) [.cref cs] = some (.val (.cref (cs.drop off))) := rfl
@[simp] theorem x_fa_eref {off t n i o : Nat} {cs : List V} : sem2 call bx ex d (.fa off) [.eref t n i o cs] = some (.val (.eref t n i (o + off) cs)) := rfl
@[simp] theorem x_fld {off : Nat} {n : Option Nat} {cs : List V} : sem2 call bx ex d (.fld off n) [.agg cs] = valO2 (partV cs off n) := rfl
def ixE : Option (List V) → Option Eff2
  | some cs => some (.val (.cref cs))
  | none => none
@[simp] theorem ixE_some {cs : List V} : ixE (some cs) = some (.val (.cref cs)) := rfl
def ixF (u n i : Nat) : Option (List V) → Option Eff2
  | some cs => some (.val (.eref u n i 0 cs))
  | none => none
@[simp] theorem ixF_some {u n i : Nat} {cs : List V} : ixF u n i (some cs) = some (.val (.eref u n i 0 cs)) := rfl
@[simp] theorem x_ixs {sz : Nat} {es : List (List V)} {k : IntKind} {i : Int} (h : 0 ≤ i) : sem2 call bx ex d (.ixs sz) [.sl none sz es, .int k i] = ixE es[i.toNat]? := by
  simp only [sem2]; rw [if_pos ⟨trivial, h⟩]; cases es[i.toNat]? <;> rfl
@[simp] theorem x_ixs_own {sz u : Nat} {es : List (List V)} {k : IntKind} {i : Int} (h : 0 ≤ i) : sem2 call bx ex d (.ixs sz) [.sl (some u) sz es, .int k i] = ixF u es.length i.toNat es[i.toNat]? := by
  simp only [sem2]; rw [if_pos ⟨trivial, h⟩]; cases es[i.toNat]? <;> rfl
@[simp] theorem x_ixa_ref {len sz s o : Nat} {k : IntKind} {i : Int} (h : 0 ≤ i ∧ i < len) : sem2 call bx ex d (.ixa len sz) [.ref s o, .int k i] = some (.val (.ref s (o + i.toNat * sz))) := by simp only [sem2, if_pos h]
@[simp] theorem x_ixa_gref {len sz : Nat} {cs : List V} {k : IntKind} {i : Int} (h : 0 ≤ i ∧ i < len) : sem2 call bx ex d (.ixa len sz) [.gref cs, .int k i] = some (.val (.gref (cs.drop (i.toNat * sz)))) := by simp only [sem2, if_pos h]
@[simp] theorem x_ixa_cref {len sz : Nat} {cs : List V} {k : IntKind} {i : Int} (h : 0 ≤ i ∧ i < len) : sem2 call bx ex d (.ixa len sz) [.cref cs, .int k i] = some (.val (.cref (cs.drop (i.toNat * sz)))) := by simp only [sem2, if_pos h]
@[simp] theorem x_ixa_eref {len sz t n j o : Nat} {cs : List V} {k : IntKind} {i : Int} (h : 0 ≤ i ∧ i < len) : sem2 call bx ex d (.ixa len sz) [.eref t n j o cs, .int k i] = some (.val (.eref t n j (o + i.toNat * sz) cs)) := by simp only [sem2, if_pos h]
@[simp] theorem x_idx {len sz : Nat} {n : Option Nat} {cs : List V} {k : IntKind} {i : Int} (h : 0 ≤ i ∧ i < len) : sem2 call bx ex d (.idx len sz n) [.agg cs, .int k i] = valO2 (partV cs (i.toNat * sz) n) := by simp only [sem2, if_pos h]
@[simp] theorem x_ext {i : Nat} {cs : List V} : sem2 call bx ex d (.ext i) [.tup cs] = valO2 cs[i]? := rfl
@[simp] theorem x_len {t : Option Nat} {sz : Nat} {es : List (List V)} : sem2 call bx ex d .len [.sl t sz es] = some (.val (.int .i64 es.length)) := rfl
@[simp] theorem x_len_nil : sem2 call bx ex d .len [.nil] = some (.val (.int .i64 0)) := rfl
@[simp] theorem x_cap_nil : sem2 call bx ex d .cap [.nil] = some (.val (.int .i64 0)) := rfl
@[simp] theorem x_nilc_ref {s o : Nat} : sem2 call bx ex d .nilc [.ref s o] = some (.val (.ref s o)) := rfl
@[simp] theorem x_nilc_gref {cs : List V} : sem2 call bx ex d .nilc [.gref cs] = some (.val (.gref cs)) := rfl
@[simp] theorem x_nilc_cref {cs : List V} : sem2 call bx ex d .nilc [.cref cs] = some (.val (.cref cs)) := rfl
@[simp] theorem x_nilc_fn {f : Fk} {cs : List V} : sem2 call bx ex d .nilc [.fn f cs] = some (.val (.fn f cs)) := rfl
def mxE : Option (IntKind × List Int) → Option Eff2
  | some (k, n :: ns) => some (.val (.int k (maxL n ns)))
  | _ => none
def mnE : Option (IntKind × List Int) → Option Eff2
  | some (k, n :: ns) => some (.val (.int k (minL n ns)))
  | _ => none
@[simp] theorem mxE_some {k : IntKind} {n : Int} {ns : List Int} : mxE (some (k, n :: ns)) = some (.val (.int k (maxL n ns))) := rfl
@[simp] theorem mnE_some {k : IntKind} {n : Int} {ns : List Int} : mnE (some (k, n :: ns)) = some (.val (.int k (minL n ns))) := rfl
@[simp] theorem x_max : sem2 call bx ex d .max vs = mxE (intsOf vs) := by
  simp only [sem2]
  cases intsOf vs with
  | none => rfl
  | some p => obtain ⟨k, l⟩ := p; cases l <;> rfl
@[simp] theorem x_min : sem2 call bx ex d .min vs = mnE (intsOf vs) := by
  simp only [sem2]
  cases intsOf vs with
  | none => rfl
  | some p => obtain ⟨k, l⟩ := p; cases l <;> rfl
/-- A call's end. -/
def caR (d : Nat) (dr al mk : Bool) : Option V → Option Eff2
  | some r => if r.pureR = true then (if mk = true then (if distinctN (r.tks.map fun x => tb x.1) = true ∧ (r.tks.all fun x => decide (tb x.1 < 100)) = true ∧ d < 9999 then
        (if al = true then some (.res (r.rn d) d 1) else if r.al = true then (if dr = true then none else some (.res (r.rn d) d 2)) else some (.res (r.rn d) d 0)) else none) else
        (if r.tks.isEmpty = true ∧ r.al = false then some (.val r) else none)) else none
  | none => none
def caE (call : Nat → List V → Option V) (d : Nat) (dr al mk : Bool) (f : Nat) : Option (List V) → Option Eff2
  | some as1 => caR d dr al mk (call f as1)
  | none => none
@[simp] theorem caE_some {dr al mk : Bool} {f : Nat} {as1 : List V} : caE call d dr al mk f (some as1) = caR d dr al mk (call f as1) := rfl
theorem callE2_eq {dr al mk : Bool} {f : Nat} {vs : List V} : callE2 call bx d dr al mk f vs = caE call d dr al mk f (frzL (bxF bx 4) vs) := by
  simp only [callE2]
  cases frzL (bxF bx 4) vs with
  | none => rfl
  | some as1 => simp only [caE]; cases call f as1 <;> rfl
@[simp] theorem x_call_f {dr al mk : Bool} {f : Nat} {caps vs : List V} : sem2 call bx ex d (.call dr al mk) (.fn (.f f) caps :: vs) = caE call d dr al mk f (frzL (bxF bx 4) (vs ++ caps)) := by
  simp only [sem2]; exact callE2_eq
@[simp] theorem x_call_m {dr al mk : Bool} {f : Nat} {caps vs : List V} : sem2 call bx ex d (.call dr al mk) (.fn (.m f) caps :: vs) = caE call d dr al mk f (frzL (bxF bx 4) (caps ++ vs)) := by
  simp only [sem2]; exact callE2_eq
def yiE (ex : List Nat) (a : Nat) : Option (List V × List Nat) → Option Eff2
  | some (as1, ps) => if ps.all (fun u => !memN (tb u / 100) ex) = true ∧ (as1.all fun v => v.cells.all V.pm) = true then some (.yld a as1 ps) else none
  | none => none
@[simp] theorem yiE_some {a : Nat} {as1 : List V} {ps : List Nat} : yiE ex a (some (as1, ps)) = if ps.all (fun u => !memN (tb u / 100) ex) = true ∧ (as1.all fun v => v.cells.all V.pm) = true then some (.yld a as1 ps) else none := rfl
@[simp] theorem x_yield {al mk : Bool} {a : Nat} {vs : List V} : sem2 call bx ex d (.call false al mk) (.fn (.y a) [] :: vs) = yiE ex a (frzEL vs) := by
  simp only [sem2, Bool.false_eq_true, if_false]
  cases frzEL vs with
  | none => rfl
  | some p => obtain ⟨x, y⟩ := p; rfl
def esE (u m i off n : Nat) (cs : List V) (ex : List Nat) : Option Nat → Option (V × List Nat) → Option Eff2
  | none, some (v', []) => if rwT u = true ∧ memN (tb u / 100) ex = false ∧ v'.cells.length = n ∧ v'.cells.all V.pm = true then
      (if off + n ≤ cs.length then some (.est (tb u) m i (cs.take off ++ v'.cells ++ cs.drop (off + n))) else none) else none
  | _, _ => none
@[simp] theorem esE_some {u m i off n : Nat} {cs : List V} {v' : V} : esE u m i off n cs ex none (some (v', [])) = if rwT u = true ∧ memN (tb u / 100) ex = false ∧ v'.cells.length = n ∧ v'.cells.all V.pm = true then
      (if off + n ≤ cs.length then some (.est (tb u) m i (cs.take off ++ v'.cells ++ cs.drop (off + n))) else none) else none := rfl
def baE (n d : Nat) (ex : List Nat) (vs : List V) : Option (List (List V) × List Nat) → Option Eff2
  | some (es, ps) => if ps.all (fun u => !memN (tb u / 100) ex) = true ∧ d < 9999 then some (.mk (.sl (some (d * 100)) n es) (d * 100) (ps.map (surP (neTL vs)))) else none
  | none => none
@[simp] theorem baE_nil {n : Nat} {es : List (List V)} : baE n d ex vs (some (es, [])) = if d < 9999 then some (.mk (.sl (some (d * 100)) n es) (d * 100) []) else none := by
  by_cases h : d < 9999 <;> simp [baE, h]
@[simp] theorem baE_cons {n : Nat} {es : List (List V)} {p : Nat} {ps : List Nat} : baE n d ex vs (some (es, p :: ps)) = if (p :: ps).all (fun u => !memN (tb u / 100) ex) = true ∧ d < 9999 then some (.mk (.sl (some (d * 100)) n es) (d * 100) ((p :: ps).map (surP (neTL vs)))) else none := rfl
@[simp] theorem x_bsl {sz len : Nat} {z : List V} {ix : List Nat} : sem2 call bx ex d (.bsl sz z len ix) vs = baE sz d ex vs (fillE sz ix vs (List.replicate len z)) := by
  simp only [sem2]
  cases fillE sz ix vs (List.replicate len z) with
  | none => rfl
  | some p => obtain ⟨x, y⟩ := p; rfl
@[simp] theorem fillE_nil {sz : Nat} {es : List (List V)} : fillE sz [] [] es = some (es, []) := rfl
def slE (sz : Nat) (es : List (List V)) : Option (Nat × Nat) → Option Eff2
  | some (l, h) => some (.val (.sl none sz ((es.take h).drop l)))
  | none => none
def slF (u sz : Nat) (es : List (List V)) : Option (Nat × Nat) → Option Eff2
  | some (l, h) => some (.prot (.sl none sz ((es.take h).drop l)) [u])
  | none => none
@[simp] theorem slE_some {sz l h : Nat} {es : List (List V)} : slE sz es (some (l, h)) = some (.val (.sl none sz ((es.take h).drop l))) := rfl
@[simp] theorem slF_some {u sz l h : Nat} {es : List (List V)} : slF u sz es (some (l, h)) = some (.prot (.sl none sz ((es.take h).drop l)) [u]) := rfl
@[simp] theorem x_sls {sz : Nat} {es : List (List V)} {lo hi mx : Bool} {vs : List V} : sem2 call bx ex d (.sls sz lo hi mx) (.sl none sz es :: vs) = slE sz es (bounds es.length es.length lo hi mx vs) := by
  simp only [sem2, if_true]
  cases bounds es.length es.length lo hi mx vs with
  | none => rfl
  | some p => obtain ⟨x, y⟩ := p; rfl
@[simp] theorem x_sls_own {sz u : Nat} {es : List (List V)} {lo hi mx : Bool} {vs : List V} : sem2 call bx ex d (.sls sz lo hi mx) (.sl (some u) sz es :: vs) = if memN (tb u / 100) ex = false then slF u sz es (bounds es.length es.length lo hi mx vs) else none := by
  simp only [sem2, true_and]
  split
  · cases bounds es.length es.length lo hi mx vs with
    | none => rfl
    | some p => obtain ⟨x, y⟩ := p; rfl
  · rfl
@[simp] theorem bounds_lo {len : Nat} {k : IntKind} {i : Int} (h : 0 ≤ i ∧ i ≤ len) : bounds len len true false false [.int k i] = some (i.toNat, len) := by
  simp only [bounds, if_true, Bool.false_eq_true, if_false]
  rw [if_pos ⟨h.1, h.2, Int.le_refl _, Int.le_refl _⟩]; rfl
@[simp] theorem bounds_hi {len : Nat} {k : IntKind} {i : Int} (h : 0 ≤ i ∧ i ≤ len) : bounds len len false true false [.int k i] = some (0, i.toNat) := by
  simp only [bounds, if_true, Bool.false_eq_true, if_false]
  rw [if_pos ⟨Int.le_refl _, h.1, h.2, Int.le_refl _⟩]; rfl
@[simp] theorem bounds_lh {len : Nat} {k q : IntKind} {i j : Int} (h : 0 ≤ i ∧ i ≤ j ∧ j ≤ len) : bounds len len true true false [.int k i, .int q j] = some (i.toNat, j.toNat) := by
  simp only [bounds, if_true, Bool.false_eq_true, if_false]
  rw [if_pos ⟨h.1, h.2.1, h.2.2, Int.le_refl _⟩]
@[simp] theorem bounds_all {len : Nat} : bounds len len false false false [] = some (0, len) := by
  simp only [bounds, Bool.false_eq_true, if_false]
  rw [if_pos ⟨Int.le_refl _, by omega, Int.le_refl _, Int.le_refl _⟩]; rfl
@[simp] theorem x_mks {sz bytes : Nat} {z : List V} {k q : IntKind} {l c : Int} (h : 0 ≤ l ∧ l ≤ c ∧ c * bytes ≤ 140737488355328) : sem2 call bx ex d (.mks sz bytes z) [.int k l, .int q c] = if d < 9999 then some (.mk (.sl (some (d * 100)) sz (List.replicate l.toNat z)) (d * 100) []) else none := by
  simp only [sem2, h.1, h.2.1, h.2.2, true_and]
@[simp] theorem x_app_nil {dr : Bool} {sz bytes : Nat} {t : Option Nat} {ys : List (List V)} (h : ys.length * bytes ≤ 140737488355328) : sem2 call bx ex d (.append dr sz bytes) [.nil, .sl t sz ys] = if d < 9999 then some (if dr = true then .mk (.sl (some (2000000 + d * 100)) sz ys) (d * 100) [] else .mkg (.sl (some (2000000 + d * 100)) sz ys) d) else none := by
  simp only [sem2, elsOf, if_true, h, true_and]; split <;> (try split) <;> rfl
theorem app_eq {dr : Bool} {sz bytes u : Nat} {y : V} {xs ys : List (List V)} (hy : elsOf sz y = some ys) (h2 : (xs.length + ys.length) * bytes ≤ 140737488355328) : sem2 call bx ex d (.append dr sz bytes) [.sl (some u) sz xs, y] =
    if memN (tb u / 100) ex = false ∧ (mbT u = false ∨ tb u = d * 100) then some (if mbT u = true then (if dr = true then .app (.sl (some (unT u)) sz (xs ++ ys)) (d * 100) else .mkg (.sl (some (unT u)) sz (xs ++ ys)) d) else .app (.sl (some u) sz (xs ++ ys)) (tb u)) else none := by
  simp only [sem2, hy, true_and]
  cases hm : memN (tb u / 100) ex with
  | true => simp
  | false =>
    simp only [if_true, true_and]
    rw [if_pos h2]
    cases hb : mbT u with
    | false => simp
    | true =>
      simp only [if_true, Bool.true_eq_false, false_or]
      split <;> (try split) <;> rfl
@[simp] theorem x_mkmp : sem2 call bx ex d .mkmp [] = some (.val (.mbox [])) := rfl
def mlG (n : Int) : Option (List V) → Option Eff2
  | some cs => (match lookM cs n with
    | some .dead => none
    | some v => some (.val v)
    | none => if wellM cs = true then some (.val .nil) else none)
  | none => none
theorem x_mlook {s : Nat} {n : Int} (h : -9223372036854775808 ≤ n ∧ n ≤ 9223372036854775807) : sem2 call bx ex d .mlook [.mref s, .int .i64 n] = mlG n (bx (s + 1000000)) := by
  simp only [sem2, if_pos h]
  cases bx (s + 1000000) <;> rfl
theorem mlG_some {n : Int} {cs : List V} : mlG n (some cs) = (match lookM cs n with
    | some .dead => none
    | some v => some (.val v)
    | none => if wellM cs = true then some (.val .nil) else none) := rfl
def mpG (s : Nat) (n : Int) (v : V) : Option (List V) → Option Eff2
  | some cs => if wellM cs = true then some (.msto s (setM cs n v)) else none
  | none => none
@[simp] theorem mpG_some {s : Nat} {n : Int} {v : V} {cs : List V} : mpG s n v (some cs) = if wellM cs = true then some (.msto s (setM cs n v)) else none := rfl
theorem x_mput {s : Nat} {n : Int} {t : Option Nat} {sz : Nat} {es : List (List V)} (h : -9223372036854775808 ≤ n ∧ n ≤ 9223372036854775807) : sem2 call bx ex d .mput [.mref s, .int .i64 n, .sl t sz es] = mpG s n (.sl t sz es) (bx (s + 1000000)) := by
  simp only [sem2, if_pos h]
  cases bx (s + 1000000) <;> rfl
theorem x_appo {sz bytes u : Nat} {t : Option Nat} {xs ys : List (List V)} (h2 : (xs.length + ys.length) * bytes ≤ 140737488355328) (hne : xs ≠ []) : sem2 call bx ex d (.appo sz bytes) [.sl (some u) sz xs, .sl t sz ys] =
    if memN (tb u / 100) ex = false then some (.app (.sl (some u) sz (xs ++ ys)) (tb u)) else none := by
  simp [sem2, elsOf, h2, hne]
@[simp] theorem x_app {dr : Bool} {sz bytes u : Nat} {t : Option Nat} {xs ys : List (List V)} (h2 : (xs.length + ys.length) * bytes ≤ 140737488355328) : sem2 call bx ex d (.append dr sz bytes) [.sl (some u) sz xs, .sl t sz ys] =
    if memN (tb u / 100) ex = false ∧ (mbT u = false ∨ tb u = d * 100) then some (if mbT u = true then (if dr = true then .app (.sl (some (unT u)) sz (xs ++ ys)) (d * 100) else .mkg (.sl (some (unT u)) sz (xs ++ ys)) d) else .app (.sl (some u) sz (xs ++ ys)) (tb u)) else none :=
  app_eq (by simp only [elsOf, if_true]) h2
@[simp] theorem x_store_own {n u m i off : Nat} {root : Option Nat} {cs : List V} {v : V} : sem2 call bx ex d (.store n root) [.eref u m i off cs, v] = esE u m i off n cs ex root v.frzE := by
  simp only [sem2]
  cases root with
  | some r => rfl
  | none =>
    cases v.frzE with
    | none => rfl
    | some p =>
      obtain ⟨v', l⟩ := p
      cases l with
      | cons _ _ => rfl
      | nil =>
        simp only [esE, splice]
        split
        · rename_i h
          rw [h.2.2.1]
          by_cases hl : off + n ≤ cs.length <;> simp [hl]
        · rfl
/-! ### What is not known parts the ways -/
section
variable {P : Prop} [Decidable P]
@[simp low] theorem goG_bool (b c : Bool) : goG call dst k xs ex is σ b (some (.bool c)) = if c = true then goG call dst k xs ex is σ b (some (.bool true)) else goG call dst k xs ex is σ b (some (.bool false)) := by cases c <;> rfl
@[simp low] theorem conE_bool {a b : LCode} (c : Bool) : conE call N a b σ (some (.bool c)) = if c = true then evC2 call N a σ else evC2 call N b σ := by cases c <;> rfl
@[simp low] theorem x_pick_b {c : Bool} {a b : V} : sem2 call bx ex d .pick [.bool c, a, b] = if c = true then some (.val a) else some (.val b) := by cases c <;> rfl
@[simp] theorem goE_ite {x y : Option Eff2} : goE call dst is σ (if P then x else y) = if P then goE call dst is σ x else goE call dst is σ y := by split <;> rfl
@[simp] theorem regE_ite {kn : Nat} {kp : List Nat} {x y : Option St} : regE kn kp (if P then x else y) = if P then regE kn kp x else regE kn kp y := by split <;> rfl
@[simp] theorem seqE_ite {b : LCode} {x y : Option (Ex × St)} : seqE call N b (if P then x else y) = if P then seqE call N b x else seqE call N b y := by split <;> rfl
@[simp] theorem blkE_ite {id : Nat} {x y : Option (Ex × St)} : blkE id (if P then x else y) = if P then blkE id x else blkE id y := by split <;> rfl
@[simp] theorem endE_ite {it : Bool} {res : List RV} {x y : Option (Ex × St)} : endE it res (if P then x else y) = if P then endE it res x else endE it res y := by split <;> rfl
@[simp] theorem caR_ite {d : Nat} {dr al mk : Bool} {x y : Option V} : caR d dr al mk (if P then x else y) = if P then caR d dr al mk x else caR d dr al mk y := by split <;> rfl
end
@[simp] theorem valO2_some {v : V} : valO2 (some v) = some (.val v) := rfl
@[simp] theorem dst_getD {n m : Nat} : (some n).getD m = n := rfl
def opV (s : Nat) : Option V → Option V
  | some (.box _) => some (.ref s 0)
  | some (.mbox _) => some (.mref s)
  | some .dead => none
  | r => r
@[simp] theorem opd_c {fr : List (Nat × V)} {v : V} : opd fr (.c v) = some v := rfl
@[simp] theorem opd_f {fr : List (Nat × V)} {n : Nat} : opd fr (.f n) = some (.fn (.f n) []) := rfl
@[simp] theorem opd_t {fr : List (Nat × V)} {s : Nat} : opd fr (.t s) = opV s (get fr s) := by
  simp only [opd]
  cases get fr s with
  | none => rfl
  | some v => cases v <;> rfl
@[simp] theorem opV_mbox {s : Nat} {cs : List V} : opV s (some (.mbox cs)) = some (.mref s) := rfl
@[simp] theorem opV_mref {s t : Nat} : opV s (some (.mref t)) = some (.mref t) := rfl
@[simp] theorem opV_box {s : Nat} {cs : List V} : opV s (some (.box cs)) = some (.ref s 0) := rfl
@[simp] theorem opV_int {s : Nat} {k : IntKind} {n : Int} : opV s (some (.int k n)) = some (.int k n) := rfl
@[simp] theorem opV_bool {s : Nat} {b : Bool} : opV s (some (.bool b)) = some (.bool b) := rfl
@[simp] theorem opV_agg {s : Nat} {cs : List V} : opV s (some (.agg cs)) = some (.agg cs) := rfl
@[simp] theorem opV_tup {s : Nat} {cs : List V} : opV s (some (.tup cs)) = some (.tup cs) := rfl
@[simp] theorem opV_nil {s : Nat} : opV s (some .nil) = some .nil := rfl
@[simp] theorem opV_und {s : Nat} : opV s (some .und) = some .und := rfl
@[simp] theorem opV_sl {s : Nat} {t : Option Nat} {sz : Nat} {es : List (List V)} : opV s (some (.sl t sz es)) = some (.sl t sz es) := rfl
@[simp] theorem opV_fn {s : Nat} {f : Fk} {cs : List V} : opV s (some (.fn f cs)) = some (.fn f cs) := rfl
@[simp] theorem opV_ref {s a b : Nat} : opV s (some (.ref a b)) = some (.ref a b) := rfl
@[simp] theorem opV_gref {s : Nat} {cs : List V} : opV s (some (.gref cs)) = some (.gref cs) := rfl
@[simp] theorem opV_np {s : Nat} : opV s (some .np) = some .np := rfl
@[simp] theorem opV_cref {s : Nat} {cs : List V} : opV s (some (.cref cs)) = some (.cref cs) := rfl
@[simp] theorem opV_eref {s t n i o : Nat} {cs : List V} : opV s (some (.eref t n i o cs)) = some (.eref t n i o cs) := rfl
def opsC (v : Option V) (vs : Option (List V)) : Option (List V) := match v, vs with
  | some v, some vs => some (v :: vs)
  | _, _ => none
@[simp] theorem opsC_some {v : V} {vs : List V} : opsC (some v) (some vs) = some (v :: vs) := rfl
@[simp] theorem opds_nil {fr : List (Nat × V)} : opds fr [] = some [] := rfl
@[simp] theorem opds_cons {fr : List (Nat × V)} {x : Opd} {xs : List Opd} : opds fr (x :: xs) = opsC (opd fr x) (opds fr xs) := by
  simp only [opds, opsC]
  cases opd fr x <;> cases opds fr xs <;> rfl
@[simp] theorem frzL_nil {rd : Nat → Option (List V)} : frzL rd [] = some [] := rfl
@[simp] theorem frzL_cons {rd : Nat → Option (List V)} {v : V} {vs : List V} : frzL rd (v :: vs) = opsC (v.frz rd) (frzL rd vs) := by
  simp only [frzL, opsC]
  cases v.frz rd <;> cases frzL rd vs <;> rfl
def bxV : Option V → Option (List V)
  | some (.box cs) => some cs
  | _ => none
@[simp] theorem bxV_some {cs : List V} : bxV (some (.box cs)) = some cs := rfl
def mbV : Option V → Option (List V)
  | some (.mbox cs) => some cs
  | _ => none
@[simp] theorem mbV_some {cs : List V} : mbV (some (.mbox cs)) = some cs := rfl
@[simp] theorem bxOf_eq {fr : List (Nat × V)} {ex : List Nat} {s : Nat} : bxOf fr ex s = if s < 1000000 then (if memN s ex = true then none else bxV (get fr s)) else (if memN (s - 1000000) ex = true then none else mbV (get fr (s - 1000000))) := by
  unfold bxOf
  split
  · split
    · rfl
    · cases get fr s with
      | none => rfl
      | some v => cases v <;> rfl
  · split
    · rfl
    · cases get fr (s - 1000000) with
      | none => rfl
      | some v => cases v <;> rfl
def bxG (bx : Nat → Option (List V)) (n : Nat) : Option (List V) → Option (List V)
  | some cs => frzL (bxF bx n) cs
  | none => none
@[simp] theorem bxG_some {n : Nat} {cs : List V} : bxG bx n (some cs) = frzL (bxF bx n) cs := rfl
@[simp] theorem bxF_succ {n s : Nat} : bxF bx (n + 1) s = if s < 1000000 then bxG bx n (bx s) else none := by
  simp only [bxF]; cases bx s <;> rfl
end
@[simp] theorem flatE_ints (xs : List Int) : flatE (xs.map fun x => [V.int .i64 x]) = true := by simp [flatE, V.flat]
@[simp] theorem flatE_nil : flatE [] = true := rfl
section
variable {f : Nat → Nat} {u : Nat} {e : List V} {es : List (List V)}
@[simp] theorem keepN_nil : keepN f u [] = if mbT u = true then u else f u := rfl
@[simp] theorem keepN_cons : keepN f u (e :: es) = f u := by simp [keepN]
@[simp] theorem keepN_nn (h : mbT u = false) : keepN f u es = f u := by simp [keepN, h]
@[simp] theorem keepN_same (h : f u = u) : keepN f u es = u := by
  unfold keepN
  split
  · cases es <;> simp [h]
  · exact h
@[simp] theorem mod_keepN_ro : keepN roT u es % 1000000 = u % 1000000 := tb_keepN tb_roT u es
@[simp] theorem mod_keepN_ru : keepN ruT u es % 1000000 = u % 1000000 := tb_keepN tb_ruT u es
@[simp] theorem mod_keepN_roU {ps : List Nat} : keepN (roU ps) u es % 1000000 = u % 1000000 := tb_keepN (tb_roU ps) u es
@[simp high] theorem tb_keepN_ro : tb (keepN roT u es) = tb u := tb_keepN tb_roT u es
@[simp high] theorem tb_keepN_ru : tb (keepN ruT u es) = tb u := tb_keepN tb_ruT u es
@[simp high] theorem tb_keepN_roU {ps : List Nat} : tb (keepN (roU ps) u es) = tb u := tb_keepN (tb_roU ps) u es
@[simp high] theorem mb_keepN_ro : mbT (keepN roT u es) = mbT u := mb_keepN mb_roT u es
@[simp high] theorem mb_keepN_ru : mbT (keepN ruT u es) = mbT u := mb_keepN mb_ruT u es
@[simp high] theorem mb_keepN_roU {ps : List Nat} : mbT (keepN (roU ps) u es) = mbT u := mb_keepN (mb_roU ps) u es
end
attribute [simp] List.getElem?_cons_zero List.getElem?_cons_succ
attribute [simp] params deadL liveL prep2 prepG prS surP neTL V.neT killT killG roF roA ruA roU exB estT mpF V.mp mpL get put putO partV binV2 binV binI binS unV nilCmp apply2 keepL dropL memN V.frz frzEL V.frzE V.pureR pureRL V.tks tksL V.al alL V.rn rnL distinctN fill splice fillE V.cells V.cellOk V.pm eqSh intsOf maxL minL ranged finish2 result2 givL V.giv givC givB V.plainR plainRL apartT bxOf rvs finL2 V.fin2 one goesOn tb rwT mbT roX roT ruT unT roundE_eq putA itemsOf itemsL tupsL caR
end Go.Lo

/- The base of chapter 3. -/
namespace Go.Lo
open Go.Proofs
set_option linter.unusedSimpArgs false
/-- slices.Concat, where it is wanted: two threads and one, or one and one, none of them without turns. -/
def catF : List V → Option V
  | [.sl none 1 [[.sl none 3 [[.sl none 2 (a1 :: ar), .int .i64 a2, .int .i64 a3], [.sl none 2 (b1 :: bs), .int .i64 b2, .int .i64 b3]]], [.sl none 3 [[.sl none 2 (c1 :: cs), .int .i64 c2, .int .i64 c3]]]]] =>
    some (.sl (some 2000000) 3 [[.sl none 2 (a1 :: ar), .int .i64 a2, .int .i64 a3], [.sl none 2 (b1 :: bs), .int .i64 b2, .int .i64 b3], [.sl none 2 (c1 :: cs), .int .i64 c2, .int .i64 c3]])
  | [.sl none 1 [[.sl none 3 [[.sl none 2 (a1 :: ar), .int .i64 a2, .int .i64 a3]]], [.sl none 3 [[.sl none 2 (c1 :: cs), .int .i64 c2, .int .i64 c3]]]]] =>
    some (.sl (some 2000000) 3 [[.sl none 2 (a1 :: ar), .int .i64 a2, .int .i64 a3], [.sl none 2 (c1 :: cs), .int .i64 c2, .int .i64 c3]])
  | _ => none
def F2 : Nat → Option (List V → Option V)
  | 83 => some catF
  | _ => none
noncomputable abbrev R : Nat → List V → Option V := run2 F2 C2
end Go.Lo

/- What the documents' examples say. -/
namespace Go.Lo
open Go.Proofs
set_option linter.unusedSimpArgs false
theorem p14 : R 14 [] = some (B true) := run2_of (n := 60) (by kernel_rfl)
end Go.Lo

/- Lists put together on the first machine. -/
namespace Go.Lo
open Go.Proofs
set_option linter.unusedSimpArgs false
theorem run1_cat (a1 b1 c1 : List V) (ar bs cs : List (List V)) (a2 a3 b2 b3 c2 c3 : Int) :
    run Ft Ct 83 [.sl none 1 [[.sl none 3 [[.sl none 2 (a1 :: ar), .int .i64 a2, .int .i64 a3], [.sl none 2 (b1 :: bs), .int .i64 b2, .int .i64 b3]]], [.sl none 3 [[.sl none 2 (c1 :: cs), .int .i64 c2, .int .i64 c3]]]]] =
    some (.sl (some 0) 3 [[.sl none 2 (a1 :: ar), .int .i64 a2, .int .i64 a3], [.sl none 2 (b1 :: bs), .int .i64 b2, .int .i64 b3], [.sl none 2 (c1 :: cs), .int .i64 c2, .int .i64 c3]]) := run_of (n := 30) (by kernel_rfl)
theorem run1_cat2 (a1 c1 : List V) (ar cs : List (List V)) (a2 a3 c2 c3 : Int) :
    run Ft Ct 83 [.sl none 1 [[.sl none 3 [[.sl none 2 (a1 :: ar), .int .i64 a2, .int .i64 a3]]], [.sl none 3 [[.sl none 2 (c1 :: cs), .int .i64 c2, .int .i64 c3]]]]] =
    some (.sl (some 0) 3 [[.sl none 2 (a1 :: ar), .int .i64 a2, .int .i64 a3], [.sl none 2 (c1 :: cs), .int .i64 c2, .int .i64 c3]]) := run_of (n := 30) (by kernel_rfl)
end Go.Lo

/- Arguments that read as data, for the plain machine. -/
namespace Go.Lo
def i64r (n : Int) : Prop := -9223372036854775808 ≤ n ∧ n ≤ 9223372036854775807
theorem wf_i64r {n : Int} (h : (Lit.int .i64 n).wf = true) : i64r n := by
  simp [Lit.wf, IntKind.min, IntKind.max, IntKind.bits, IntKind.signed] at h
  unfold i64r
  omega
theorem relL_ints (k : IntKind) : ∀ xs : List Int, RelL (xs.map fun x => .int k x) noT (xs.map fun x => .int k x)
  | [] => RelL.nil
  | x :: xs => by rw [List.map_cons]; exact RelL.cons (by simp only [Rel]) (relL_ints k xs)
theorem relE_eI1 : ∀ xs : List Int, RelE (eI xs) (eI xs)
  | [] => by simp [RelE]
  | x :: xs => by
    have := relE_eI1 xs
    simp only [List.map_cons] at this ⊢
    exact RelE.cons (RelL.one (by simp only [Rel])) this
theorem can_ints {v : V} (h : HasC (.sl (.int .i64)) [v]) : ∃ xs : List Int, Rel (S 1 (eI xs)) noT v ∧ ∀ x ∈ xs, i64r x := by
  simp only [HasC] at h
  rcases h with h | ⟨es, h, _, he⟩
  · injection h with h _
    subst h
    exact ⟨[], by rw [Rel]; left; exact ⟨rfl, rfl⟩, fun x hx => by cases hx⟩
  · injection h with h _
    subst h
    have key : ∀ es : List (List V), (∀ x ∈ es, ∃ n, x = [V.int .i64 n] ∧ (Lit.int .i64 n).wf = true) → ∃ xs : List Int, es = eI xs ∧ ∀ x ∈ xs, i64r x := by
      intro es
      induction es with
      | nil => exact fun _ => ⟨[], rfl, fun x hx => by cases hx⟩
      | cons e es ih =>
        intro h
        obtain ⟨n, h1, h2⟩ := h e (by simp)
        obtain ⟨xs, g1, g2⟩ := ih fun x hx => h x (by simp [hx])
        subst h1
        refine ⟨n :: xs, by simp [g1], fun x hx => ?_⟩
        rcases List.mem_cons.1 hx with rfl | hx
        · exact wf_i64r h2
        · exact g2 x hx
    obtain ⟨xs, rfl, hx⟩ := key es he
    exact ⟨xs, by rw [Rel]; right; exact ⟨_, rfl, relE_eI1 xs⟩, hx⟩
theorem can_rows {v : V} (h : HasC (.sl (.sl (.int .i64))) [v]) : ∃ rs : List (List Int), Rel (S 1 (rs.map fun r => [S 1 (eI r)])) noT v ∧ ∀ r ∈ rs, ∀ x ∈ r, i64r x := by
  rw [HasC] at h
  rcases h with h | ⟨es, h, _, he⟩
  · injection h with h _
    subst h
    exact ⟨[], by rw [Rel]; left; exact ⟨rfl, rfl⟩, fun x hx => by cases hx⟩
  · injection h with h _
    subst h
    have key : ∀ es : List (List V), (∀ x ∈ es, HasC (.sl (.int .i64)) x) → ∃ rs : List (List Int), RelE (rs.map fun r => [S 1 (eI r)]) es ∧ ∀ r ∈ rs, ∀ x ∈ r, i64r x := by
      intro es
      induction es with
      | nil => exact fun _ => ⟨[], by simp [RelE], fun x hx => by cases hx⟩
      | cons e es ih =>
        intro h
        have h1 := h e (by simp)
        obtain ⟨v, rfl⟩ : ∃ v, e = [v] := by
          simp only [HasC] at h1
          rcases h1 with h1 | ⟨_, h1, _⟩ <;> exact ⟨_, h1⟩
        obtain ⟨xs, hx, hb⟩ := can_ints h1
        obtain ⟨rs, g1, g2⟩ := ih fun x hx => h x (by simp [hx])
        refine ⟨xs :: rs, by rw [List.map_cons]; exact RelE.cons (RelL.one hx) g1, fun r hr => ?_⟩
        rcases List.mem_cons.1 hr with rfl | hr
        · exact hb
        · exact g2 r hr
    obtain ⟨rs, hr, hb⟩ := key es he
    exact ⟨rs, by rw [Rel]; right; exact ⟨_, rfl, hr⟩, hb⟩
theorem can_arr {k : IntKind} {n : Nat} {v : V} (h : HasV (.arr n (.int k)) v) : ∃ xs : List Int, xs.length = n ∧ v = .agg (xs.map fun x => .int k x) ∧ ∀ x ∈ xs, (Lit.int k x).wf = true := by
  simp only [HasV, HasC] at h
  obtain ⟨cs, rfl, es, rfl, rfl, he⟩ := h
  have key : ∀ es : List (List V), (∀ x ∈ es, ∃ n, x = [V.int k n] ∧ (Lit.int k n).wf = true) → ∃ xs : List Int, xs.length = es.length ∧ es.flatten = xs.map (fun x => .int k x) ∧ ∀ x ∈ xs, (Lit.int k x).wf = true := by
    intro es
    induction es with
    | nil => exact fun _ => ⟨[], rfl, rfl, fun x hx => by cases hx⟩
    | cons e es ih =>
      intro h
      obtain ⟨n, h1, h2⟩ := h e (by simp)
      obtain ⟨xs, g1, g2, g3⟩ := ih fun x hx => h x (by simp [hx])
      subst h1
      refine ⟨n :: xs, by simp [g1], by simp [g2], fun x hx => ?_⟩
      rcases List.mem_cons.1 hx with rfl | hx
      · exact h2
      · exact g3 x hx
  obtain ⟨xs, g1, g2, g3⟩ := key es he
  exact ⟨xs, g1, by rw [g2], g3⟩
theorem can_int {k : IntKind} {v : V} (h : HasV (.int k) v) : ∃ n, v = .int k n ∧ (Lit.int k n).wf = true := by
  simp only [HasV, HasC] at h
  obtain ⟨n, h, w⟩ := h
  injection h with h _
  exact ⟨n, h, w⟩
theorem can_bool {v : V} (h : HasV .bool v) : ∃ b, v = .bool b := by
  simp only [HasV, HasC] at h
  obtain ⟨n, h⟩ := h
  injection h with h _
  exact ⟨n, h⟩
theorem HasCs.inv {t : Ty} {ts : List Ty} {cs : List V} (h : HasCs (t :: ts) cs) : ∃ a b, cs = a ++ b ∧ HasC t a ∧ HasCs ts b := by rw [HasCs] at h; exact h
theorem HasC.sl1 {t : Ty} {x : List V} (hx : HasC (.sl t) x) : ∃ v, x = [v] := by
  rw [HasC] at hx
  rcases hx with hx | ⟨_, hx, _⟩ <;> exact ⟨_, hx⟩
end Go.Lo

/- More arguments that read as data. -/
namespace Go.Lo
theorem wf_u8 {n : Int} (h : (Lit.int .u8 n).wf = true) : 0 ≤ n ∧ n ≤ 255 := by
  simp [Lit.wf, IntKind.min, IntKind.max, IntKind.bits, IntKind.signed] at h; omega
theorem wf_u16 {n : Int} (h : (Lit.int .u16 n).wf = true) : 0 ≤ n ∧ n ≤ 65535 := by
  simp [Lit.wf, IntKind.min, IntKind.max, IntKind.bits, IntKind.signed] at h; omega
theorem wf_i8 {n : Int} (h : (Lit.int .i8 n).wf = true) : -128 ≤ n ∧ n ≤ 127 := by
  simp [Lit.wf, IntKind.min, IntKind.max, IntKind.bits, IntKind.signed] at h; omega
theorem wf_i16 {n : Int} (h : (Lit.int .i16 n).wf = true) : -32768 ≤ n ∧ n ≤ 32767 := by
  simp [Lit.wf, IntKind.min, IntKind.max, IntKind.bits, IntKind.signed] at h; omega
/-- A slice whose elements are told by things of a type, each of which stands for its cells. -/
theorem can_sl {α : Type} {t : Ty} {E : α → List V} {Q : α → Prop} {v : V} (h : HasC (.sl t) [v]) (he : ∀ x, HasC t x → ∃ a, RelL (E a) noT x ∧ Q a) : ∃ l : List α, Rel (S t.cells (l.map E)) noT v ∧ ∀ a ∈ l, Q a := by
  rw [HasC] at h
  rcases h with h | ⟨es, h, _, hes⟩
  · injection h with h _
    subst h
    exact ⟨[], by rw [Rel]; left; exact ⟨rfl, rfl⟩, fun x hx => by cases hx⟩
  · injection h with h _
    subst h
    have key : ∀ es : List (List V), (∀ x ∈ es, HasC t x) → ∃ l : List α, RelE (l.map E) es ∧ ∀ a ∈ l, Q a := by
      intro es
      induction es with
      | nil => exact fun _ => ⟨[], by simp [RelE], fun x hx => by cases hx⟩
      | cons e es ih =>
        intro h
        obtain ⟨a, h1, h2⟩ := he e (h e (by simp))
        obtain ⟨l, g1, g2⟩ := ih fun x hx => h x (by simp [hx])
        refine ⟨a :: l, by rw [List.map_cons]; exact RelE.cons h1 g1, fun x hx => ?_⟩
        rcases List.mem_cons.1 hx with rfl | hx
        · exact h2
        · exact g2 x hx
    obtain ⟨l, hr, hb⟩ := key es hes
    exact ⟨l, by rw [Rel]; right; exact ⟨_, rfl, hr⟩, hb⟩
theorem can_intsK {k : IntKind} {v : V} (h : HasC (.sl (.int k)) [v]) : ∃ xs : List Int, Rel (S 1 (xs.map fun x => [V.int k x])) noT v ∧ ∀ x ∈ xs, (Lit.int k x).wf = true :=
  can_sl (E := fun x => [V.int k x]) (Q := fun x => (Lit.int k x).wf = true) h fun x hx => by
    simp only [HasC] at hx
    obtain ⟨n, rfl, hn⟩ := hx
    exact ⟨n, RelL.one (by simp only [Rel]), hn⟩
theorem can_arrs {k : IntKind} {n : Nat} {v : V} (h : HasC (.sl (.arr n (.int k))) [v]) : ∃ rs : List (List Int), Rel (S n (rs.map fun r => r.map fun x => V.int k x)) noT v ∧ ∀ r ∈ rs, r.length = n ∧ ∀ x ∈ r, (Lit.int k x).wf = true := by
  have := can_sl (E := fun r : List Int => r.map fun x => V.int k x) (Q := fun r => r.length = n ∧ ∀ x ∈ r, (Lit.int k x).wf = true) h fun x hx => by
    obtain ⟨xs, h1, h2, h3⟩ := can_arr (k := k) (n := n) (v := .agg x) (by simp only [HasV]; exact ⟨x, rfl, hx⟩)
    injection h2 with h2
    exact ⟨xs, by rw [h2]; exact relL_ints k xs, h1, h3⟩
  rwa [show (Ty.arr n (.int k)).cells = n from by simp [Ty.cells]] at this
theorem rel_aggK (k : IntKind) (xs : List Int) : Rel (.agg (xs.map fun x => .int k x)) noT (.agg (xs.map fun x => .int k x)) := by
  rw [Rel]
  exact ⟨_, rfl, relL_ints k xs⟩
theorem rel_int (k : IntKind) (n : Int) : Rel (.int k n) noT (.int k n) := by rw [Rel]
theorem rel_bool (b : Bool) : Rel (.bool b) noT (.bool b) := by rw [Rel]
end Go.Lo

/- The plain machine's table is a table of the first machine; threads and spans as arguments. -/
namespace Go.Lo
open Go.Proofs
set_option linter.unusedSimpArgs false
theorem sl_inv {n : Nat} {e : List V} {es : List (List V)} {v : V} (h : Rel (.sl none n (e :: es)) noT v) : ∃ d r, v = .sl none n (d :: r) ∧ RelL e noT d ∧ RelE es r := by
  simp only [Rel] at h
  rcases h with ⟨h, _⟩ | ⟨es', rfl, he⟩
  · cases h
  · simp only [RelE] at he
    obtain ⟨d, r, rfl, h1, h2⟩ := he
    exact ⟨d, r, rfl, h1, h2⟩
theorem thr_inv {a1 : List V} {ar : List (List V)} {a2 a3 : Int} {v : List V} (h : RelL [.sl none 2 (a1 :: ar), .int .i64 a2, .int .i64 a3] noT v) : ∃ d r, v = [.sl none 2 (d :: r), .int .i64 a2, .int .i64 a3] := by
  obtain ⟨v1, q, rfl, h1, h2⟩ := h.inv
  obtain ⟨v2, v3, rfl, h3, h4⟩ := h2.inv2
  simp only [Rel] at h3 h4
  subst h3; subst h4
  obtain ⟨d, r, rfl, _, _⟩ := sl_inv h1
  exact ⟨d, r, rfl⟩
theorem catF_rel {as2 as1 : List V} {r2 : V} (h : catF as2 = some r2) (ha : RelL as2 noT as1) : ∃ r, run Ft Ct 83 as1 = some r ∧ RelR r2 r ∧ ∀ l2, itemsOf (some r2) = some l2 → ∃ l, itemsOf (some r) = some l ∧ RelE l2 l := by
  unfold catF at h
  split at h
  · injection h with h
    subst h
    obtain ⟨v, rfl, hv⟩ := RelL.inv1 ha
    obtain ⟨d1, r1, rfl, hd1, hr1⟩ := sl_inv hv
    simp only [RelE] at hr1
    obtain ⟨d2, r2, rfl, hd2, rfl⟩ := hr1
    obtain ⟨s1, rfl, hs1⟩ := RelL.inv1 hd1
    obtain ⟨s2, rfl, hs2⟩ := RelL.inv1 hd2
    obtain ⟨x, q, rfl, hx, hq⟩ := sl_inv hs1
    simp only [RelE] at hq
    obtain ⟨y, q2, rfl, hy, rfl⟩ := hq
    obtain ⟨z, q3, rfl, hz, hq3⟩ := sl_inv hs2
    simp only [RelE] at hq3
    subst hq3
    have hE := RelE.cons hx (RelE.cons hy (RelE.cons hz RelE.nil))
    obtain ⟨x1, x2, rfl⟩ := thr_inv hx
    obtain ⟨y1, y2, rfl⟩ := thr_inv hy
    obtain ⟨z1, z2, rfl⟩ := thr_inv hz
    refine ⟨_, run1_cat _ _ _ _ _ _ _ _ _ _ _ _, ?_, fun l2 h => by simp [itemsOf] at h⟩
    have hr : ∀ ρ : TkF, ρ 0 = some (3, true) → Rel (.sl (some 2000000) 3 _) ρ (.sl (some 0) 3 _) := fun ρ hρ => by
      rw [Rel]; right
      exact ⟨_, rfl, hE, true, hρ, fun _ => rfl, fun h => by simp [roX] at h, fun _ => by simp⟩
    exact ⟨⟨fun _ => some (3, true), hr _ rfl⟩, fun ρ h => hr ρ (h 0 _ (by simp [V.tks]))⟩
  · injection h with h
    subst h
    obtain ⟨v, rfl, hv⟩ := RelL.inv1 ha
    obtain ⟨d1, r1, rfl, hd1, hr1⟩ := sl_inv hv
    simp only [RelE] at hr1
    obtain ⟨d2, r2, rfl, hd2, rfl⟩ := hr1
    obtain ⟨s1, rfl, hs1⟩ := RelL.inv1 hd1
    obtain ⟨s2, rfl, hs2⟩ := RelL.inv1 hd2
    obtain ⟨x, q, rfl, hx, hq⟩ := sl_inv hs1
    simp only [RelE] at hq
    subst hq
    obtain ⟨z, q3, rfl, hz, hq3⟩ := sl_inv hs2
    simp only [RelE] at hq3
    subst hq3
    have hE := RelE.cons hx (RelE.cons hz RelE.nil)
    obtain ⟨x1, x2, rfl⟩ := thr_inv hx
    obtain ⟨z1, z2, rfl⟩ := thr_inv hz
    refine ⟨_, run1_cat2 _ _ _ _ _ _ _ _, ?_, fun l2 h => by simp [itemsOf] at h⟩
    have hr : ∀ ρ : TkF, ρ 0 = some (2, true) → Rel (.sl (some 2000000) 3 _) ρ (.sl (some 0) 3 _) := fun ρ hρ => by
      rw [Rel]; right
      exact ⟨_, rfl, hE, true, hρ, fun _ => rfl, fun h => by simp [roX] at h, fun _ => by simp⟩
    exact ⟨⟨fun _ => some (2, true), hr _ rfl⟩, fun ρ h => hr ρ (h 0 _ (by simp [V.tks]))⟩
  · cases h
theorem tabR : TabR F2 Ft C2 Ct := by
  refine ⟨fun f g2 as2 r2 as1 h1 h2 h3 => ?_, fun f lf h1 h2 => ⟨rfl, tabC f lf h2⟩⟩
  unfold F2 at h1
  split at h1
  · injection h1 with h1
    subst h1
    exact catF_rel h2 h3
  · cases h1
end Go.Lo

/- Threads are checked. -/
namespace Go.Lo
open Go.Proofs
set_option linter.unusedSimpArgs false
set_option maxHeartbeats 4000000
/-! ### The first of a list for which a function says so -/
theorem p97 {α : Type} {E : α → List V} {W : α → V} {g : Nat} {caps : List V} {pr : α → Bool} (hc : ∀ rd, frzL rd caps = some caps) {xs : List α} (hE : ∀ x ∈ xs, partV (E x) 0 none = some (W x) ∧ (∀ rd, (W x).frz rd = some (W x)) ∧ ∀ s, opV s (some (W x)) = some (W x)) (hp : ∀ x ∈ xs, R g (W x :: caps) = some (B (pr x))) (hl : xs.length < 4611686018427387904) :
    R 97 [S 1 (xs.map E), .fn (.f g) caps] = some (I (match xs.findIdx? pr with | none => -1 | some k => k)) := by
  have L := loop_find (s := fun i => { fr := [(0, S 1 (xs.map E)), (1, .fn (.f g) caps), (7, I xs.length), (8, I i)], tk := [] }) (f := evC2 R (xs.length + 1) b97_0) (n := xs.length) (g := prAt pr xs) (E := fun i => (.ret, { fr := [(4, I i)], tk := [] })) (X := (.exit 0, { fr := [(0, S 1 (xs.map E)), (1, .fn (.f g) caps), (7, I xs.length), (8, I xs.length), (9, B false)], tk := [] }))
    (fun i hi => by
      have h1 : xs[i]? = some xs[i] := List.getElem?_eq_getElem hi
      have hm : xs[i] ∈ xs := List.getElem_mem hi
      have hp' := hp _ hm
      obtain ⟨h2, h3, h4⟩ := hE _ hm
      have hlt : (i : Int) < xs.length := by omega
      clear hp hE
      generalize xs[i] = x at *
      rw [prAt_some h1]
      generalize hw : W x = w at *
      cases hx : pr x <;> rw [hx] at hp' <;> simp (maxSteps := 2000000) (disch := first | omega | (simp; done) | (simp; omega)) [-getElem?_pos, -partV, b97_0, h1, h2, h3, h4, hc, hp', hlt, wrap64]) (fun _ => by simp) (by simp [b97_0]) (by simp) xs.length 0 (by omega)
  rw [find_idx] at L
  refine run2_body (xs.length + 1) rfl rfl rfl rfl rfl ?_
  cases hf : xs.findIdx? pr with
  | none =>
    rw [hf] at L
    simp at L
    simp [l97, L]
  | some k =>
    rw [hf] at L
    simp at L
    simp [l97, L]
theorem p84 {α : Type} {E : α → List V} {W : α → V} {g : Nat} {caps : List V} {pr : α → Bool} (hc : ∀ rd, frzL rd caps = some caps) {xs : List α} (hE : ∀ x ∈ xs, partV (E x) 0 none = some (W x) ∧ (∀ rd, (W x).frz rd = some (W x)) ∧ ∀ s, opV s (some (W x)) = some (W x)) (hp : ∀ x ∈ xs, R g (W x :: caps) = some (B (pr x))) (hl : xs.length < 4611686018427387904) :
    R 84 [S 1 (xs.map E), .fn (.f g) caps] = some (B (xs.any pr)) := by
  have h := p97 hc hE hp hl
  refine run2_body 1 rfl rfl rfl rfl rfl ?_
  cases hf : xs.findIdx? pr with
  | none =>
    rw [hf] at h
    have : xs.any pr = false := by
      rw [List.findIdx?_eq_none_iff] at hf
      rw [List.any_eq_false]; simpa using hf
    simp [l84, h, hc, this]
  | some k =>
    rw [hf] at h
    have : xs.any pr = true := by
      have := List.findIdx?_isSome (xs := xs) (p := pr)
      rw [hf] at this
      exact this.symm
    simp (maxSteps := 2000000) (disch := first | omega | (simp; done) | (simp; omega)) [l84, h, hc, this]

theorem p85 (x lo hi : Int) : R 85 [I x, .cref [I lo], .cref [I hi]] = some (B (decide (x < lo) || decide (x > hi))) := by
  refine run2_body 1 rfl rfl rfl rfl rfl ?_
  by_cases h : x < lo <;> simp [l85, h]
theorem p55 (lo hi : Int) {xs : List Int} (hl : xs.length < 4611686018427387904) : R 55 [I lo, I hi, S 1 (eI xs)] = some (B (xs.all fun x => decide (lo ≤ x ∧ x ≤ hi))) := by
  have h := p84 (g := 85) (caps := [.cref [I lo], .cref [I hi]]) (pr := fun x => decide (x < lo) || decide (x > hi)) (E := fun x => [I x]) (W := fun x => I x) (xs := xs) (fun _ => rfl) (fun _ _ => ⟨rfl, fun _ => rfl, fun _ => rfl⟩) (fun x _ => p85 x lo hi) hl
  refine run2_body 1 rfl rfl rfl rfl rfl ?_
  have e : (xs.all fun x => decide (lo ≤ x ∧ x ≤ hi)) = !(xs.any fun x => decide (x < lo) || decide (x > hi)) := by
    rw [List.not_any_eq_all_not]
    congr 1
    funext x
    by_cases h1 : x < lo <;> by_cases h2 : x > hi <;> simp [h1, h2] <;> omega
  rw [e]
  simp [l55, h]

abbrev eS (x : Int × Int) : V := .agg [I x.1, I x.2]
abbrev eS2 (l : List (Int × Int)) : List (List V) := l.map fun x => [I x.1, I x.2]
/-- A thread: turns, and how its flanks lean. -/
abbrev Thr := List (Int × Int) × Int × Int
abbrev eT (t : Thr) : List V := [S 2 (eS2 t.1), I t.2.1, I t.2.2]
theorem p55_1 (lo hi x : Int) : R 55 [I lo, I hi, S 1 [[I x]]] = some (B (decide (lo ≤ x ∧ x ≤ hi))) := by
  have := p55 lo hi (xs := [x]) (by simp)
  simpa using this
theorem p55_2 (lo hi x y : Int) : R 55 [I lo, I hi, S 1 [[I x], [I y]]] = some (B (decide ((lo ≤ x ∧ x ≤ hi) ∧ (lo ≤ y ∧ y ≤ hi)))) := by
  have := p55 lo hi (xs := [x, y]) (by simp)
  simpa using this
theorem p94 (s : Int × Int) (lo hi : Int) : R 94 [eS s, I lo, I hi] = some (B (decide (lo ≤ s.1 ∧ s.1 ≤ s.2 ∧ s.2 ≤ hi))) := by
  have e1 := p55_2 lo hi s.1 s.2
  refine run2_body 1 rfl rfl rfl rfl rfl ?_
  rw [show decide (lo ≤ s.1 ∧ s.1 ≤ s.2 ∧ s.2 ≤ hi) = (decide (s.1 ≤ s.2) && decide ((lo ≤ s.1 ∧ s.1 ≤ hi) ∧ (lo ≤ s.2 ∧ s.2 ≤ hi))) from by rw [Bool.eq_iff_iff]; simp; omega]
  generalize decide ((lo ≤ s.1 ∧ s.1 ≤ hi) ∧ (lo ≤ s.2 ∧ s.2 ≤ hi)) = q at *
  by_cases h : s.1 ≤ s.2 <;> simp (maxSteps := 2000000) (disch := first | omega | (simp; done) | (simp; omega)) [-getElem?_pos, l94, e1, h]
def dOk (d : Int × Int) : Bool := decide (-200000 ≤ d.1 ∧ d.1 ≤ d.2 ∧ d.2 ≤ 200000)
theorem p71 (d : Int × Int) : R 71 [eS d] = some (I (if dOk d = true then 0 else 3)) := by
  have e1 := p94 d (-200000) 200000
  rw [show decide (-200000 ≤ d.1 ∧ d.1 ≤ d.2 ∧ d.2 ≤ 200000) = dOk d from rfl] at e1
  generalize dOk d = q at *
  refine run2_body 1 rfl rfl rfl rfl rfl ?_
  cases q <;> simp (maxSteps := 2000000) (disch := first | omega | (simp; done) | (simp; omega)) [-getElem?_pos, l71, e1]
/-! ### What is checked -/
def turn (ts : List (Int × Int)) (i : Nat) : Int × Int := ts.getD i (0, 0)
def aftT (ts : List (Int × Int)) (i : Nat) : Int := if i = 0 then -10000000 else (turn ts (i - 1)).2
def turnB (ts : List (Int × Int)) (i : Nat) : Bool := decide ((aftT ts i ≤ (turn ts i).1 ∧ (turn ts i).1 ≤ 10000000) ∧ ((turn ts i).1 ≤ (turn ts i).2 ∧ (turn ts i).2 ≤ 10000000))
def leanB (l r : Int) : Bool := decide ((0 ≤ l ∧ l ≤ 3000) ∧ (0 ≤ r ∧ r ≤ 3000))
/-- The error of a thread. -/
def chkT (t : Thr) : Int :=
  if 60 < t.1.length then 5
  else if t.1 = [] ∨ leanB t.2.1 t.2.2 = false then 2
  else if (List.range t.1.length).all (turnB t.1) = true then 0 else 2
theorem turn_get {ts : List (Int × Int)} {i : Nat} (hi : i < ts.length) : ts[i]? = some (turn ts i) := by
  unfold turn
  simp [hi]
theorem all_find {n : Nat} {g : Nat → Bool} : (List.range n).all g = ((List.range n).find? fun i => !g i).isNone := by
  rw [Bool.eq_iff_iff, List.all_eq_true, Option.isNone_iff_eq_none, List.find?_eq_none]
  simp
theorem loop16_0 {ts : List (Int × Int)} (hl : ts.length ≤ 60) (M : Nat) :
    iter (evC2 R M b16_0) (ts.length + 1) { fr := [(3, I (-10000000)), (24, S 2 (eS2 ts)), (25, I ts.length), (26, I 0)], tk := [] } =
      if (List.range ts.length).all (turnB ts) = true then some (.exit 1, { fr := [(3, I (aftT ts ts.length)), (24, S 2 (eS2 ts)), (25, I ts.length), (26, I ts.length), (27, B false)], tk := [] })
      else some (.ret, { fr := [(2, I 2)], tk := [] }) := by
  have L := loop_if (s := fun i => { fr := [(3, I (aftT ts i)), (24, S 2 (eS2 ts)), (25, I ts.length), (26, I i)], tk := [] }) (f := evC2 R M b16_0) (n := ts.length) (g := fun i => !turnB ts i) (E := fun _ => (.ret, { fr := [(2, I 2)], tk := [] })) (X := (.exit 1, { fr := [(3, I (aftT ts ts.length)), (24, S 2 (eS2 ts)), (25, I ts.length), (26, I ts.length), (27, B false)], tk := [] }))
    (fun i hi => by
      have h1 := turn_get hi
      have haft : aftT ts (i + 1) = (turn ts i).2 := by simp [aftT]
      rw [haft]
      unfold turnB
      generalize turn ts i = x at *
      generalize aftT ts i = a at *
      have e1 := p55_1 a 10000000 x.1
      have e2 := p55_1 x.1 10000000 x.2
      by_cases c1 : a ≤ x.1 ∧ x.1 ≤ 10000000
      · by_cases c2 : x.1 ≤ x.2 ∧ x.2 ≤ 10000000
        · simp only [c1, c2, and_self, decide_true] at e1 e2
          simp (maxSteps := 2000000) (disch := first | omega | (simp; done) | (simp; omega)) [-getElem?_pos, b16_0, h1, hi, e1, e2, c1, c2, wrap64]
        · simp only [c1, c2, and_self, decide_true, decide_false] at e1 e2
          simp (maxSteps := 2000000) (disch := first | omega | (simp; done) | (simp; omega)) [-getElem?_pos, b16_0, h1, hi, e1, e2, c1, c2, wrap64]
      · simp only [c1, decide_false] at e1
        simp (maxSteps := 2000000) (disch := first | omega | (simp; done) | (simp; omega)) [-getElem?_pos, b16_0, h1, hi, e1, c1, wrap64]) (fun _ => by simp) (by simp (maxSteps := 2000000) (disch := first | omega | (simp; done) | (simp; omega)) [-getElem?_pos, b16_0]) (by simp)
  rw [← List.range_eq_range'] at L
  have h0 : aftT ts 0 = -10000000 := rfl
  simp only [h0] at L
  rw [show ((0 : Nat) : Int) = 0 from rfl] at L
  rw [L, all_find]
  cases (List.range ts.length).find? (fun i => !turnB ts i) <;> simp
theorem p16 (t : Thr) : R 16 [.agg (eT t)] = some (I (chkT t)) := by
  obtain ⟨ts, l, r⟩ := t
  have e1 := p55_2 0 3000 l r
  rw [show decide ((0 ≤ l ∧ l ≤ 3000) ∧ (0 ≤ r ∧ r ≤ 3000)) = leanB l r from rfl] at e1
  refine run2_body (ts.length + 1) rfl rfl rfl rfl rfl ?_
  unfold chkT
  simp only [eT]
  by_cases c1 : (ts.length : Int) > 60
  · have c1' : 60 < ts.length := by omega
    simp (maxSteps := 2000000) (disch := first | omega | (simp; done) | (simp; omega)) [-getElem?_pos, l16, c1, c1']
  · have c1' : ¬ 60 < ts.length := by omega
    by_cases c2 : ts = []
    · subst c2
      simp (maxSteps := 2000000) (disch := first | omega | (simp; done) | (simp; omega)) [-getElem?_pos, l16]
    · have c2' : ¬ ts.length = 0 := fun h => c2 (List.length_eq_zero_iff.1 h)
      have L := loop16_0 (ts := ts) (by omega) (ts.length + 1)
      generalize (List.range ts.length).all (turnB ts) = q at *
      generalize leanB l r = q2 at *
      cases q2
      · simp (maxSteps := 2000000) (disch := first | omega | (simp; done) | (simp; omega)) [-getElem?_pos, l16, c1, c1', c2, c2', e1]
      · cases q <;> simp at L <;> simp (maxSteps := 2000000) (disch := first | omega | (simp; done) | (simp; omega)) [-getElem?_pos, l16, c1, c1', c2, c2', e1, L]
/-- The first error of some threads, and of a depth. -/
def chkAll (d : Int × Int) (l : List Thr) : Int := match l.find? fun t => decide (chkT t ≠ 0) with
  | some t => chkT t
  | none => if dOk d = true then 0 else 3
theorem find_prAt {α : Type} (pr : α → Bool) (xs : List α) : (match (List.range' 0 xs.length).find? (prAt pr xs) with | some i => xs[i]? | none => none) = xs.find? pr := by
  rw [find_idx]
  cases h : xs.findIdx? pr with
  | none =>
    rw [List.findIdx?_eq_none_iff] at h
    symm
    rw [List.find?_eq_none]
    intro x hx
    rw [h x hx]; simp
  | some k =>
    obtain ⟨hk, h1, h2⟩ := List.findIdx?_eq_some_iff_getElem.1 h
    show xs[k]? = _
    rw [List.getElem?_eq_getElem hk]
    symm
    rw [List.find?_eq_some_iff_append]
    refine ⟨h1, xs.take k, xs.drop (k + 1), by rw [List.getElem_cons_drop]; exact (List.take_append_drop k xs).symm, fun a ha => ?_⟩
    obtain ⟨j, hj, rfl⟩ := List.mem_iff_getElem.1 ha
    rw [List.length_take] at hj
    have := h2 j (by omega)
    rw [List.getElem_take]
    simpa using this
theorem p65 (d : Int × Int) {l : List Thr} (hl : l.length ≤ 1000000) : R 65 [eS d, S 3 (l.map eT)] = some (I (chkAll d l)) := by
  have L := loop_if (s := fun i => { fr := [(2, .box [I d.1, I d.2]), (8, S 3 (l.map eT)), (9, I l.length), (10, I i)], tk := [] }) (f := evC2 R (l.length + 1) b65_0) (n := l.length) (g := prAt (fun t => decide (chkT t ≠ 0)) l) (E := fun i => (.ret, { fr := [(4, I (chkT (l.getD i ([], 0, 0))))], tk := [] })) (X := (.exit 0, { fr := [(2, .box [I d.1, I d.2]), (8, S 3 (l.map eT)), (9, I l.length), (10, I l.length), (11, B false)], tk := [] }))
    (fun i hi => by
      have h1 : l[i]? = some l[i] := List.getElem?_eq_getElem hi
      rw [prAt_some h1, show l.getD i ([], 0, 0) = l[i] by simp [hi]]
      have e1 := p16 l[i]
      generalize l[i] = t at *
      simp only [eT] at e1
      generalize chkT t = c at *
      by_cases hc : c = 0 <;> simp (maxSteps := 2000000) (disch := first | omega | (simp; done) | (simp; omega)) [-getElem?_pos, b65_0, eT, h1, hi, e1, hc, wrap64]) (fun _ => by simp) (by simp (maxSteps := 2000000) (disch := first | omega | (simp; done) | (simp; omega)) [-getElem?_pos, b65_0]) (by simp)
  have e2 := p71 d
  unfold chkAll
  have hf := find_prAt (fun t => decide (chkT t ≠ 0)) l
  cases hk : (List.range' 0 l.length).find? (prAt (fun t => decide (chkT t ≠ 0)) l) with
  | none =>
    rw [hk] at L hf
    simp only at L hf
    rw [← hf]
    simp at L
    refine run2_body (l.length + 1) rfl rfl rfl rfl rfl ?_
    generalize dOk d = q at *
    simp (maxSteps := 2000000) (disch := first | omega | (simp; done) | (simp; omega)) [-getElem?_pos, l65, L, e2]
  | some k =>
    rw [hk] at L hf
    simp only at L hf
    rw [← hf]
    have hk2 : k < l.length := by
      have := List.mem_of_find?_eq_some hk
      simp at this; omega
    rw [List.getElem?_eq_getElem hk2]
    rw [show l.getD k ([], 0, 0) = l[k] by simp [hk2]] at L
    simp at L
    refine run2_body (l.length + 1) rfl rfl rfl rfl rfl ?_
    simp (maxSteps := 2000000) (disch := first | omega | (simp; done) | (simp; omega)) [-getElem?_pos, l65, L]
end Go.Lo

/- Threads and spans, as arguments. -/
namespace Go.Lo
open Go.Proofs
set_option linter.unusedSimpArgs false
abbrev spTy : Ty := .st [.int .i64, .int .i64]
abbrev thrTy : Ty := .st [.sl spTy, .int .i64, .int .i64]
theorem can_i {x : List V} (h : HasC (.int .i64) x) : ∃ n, x = [.int .i64 n] := by
  simp only [HasC] at h
  obtain ⟨n, rfl, _⟩ := h
  exact ⟨n, rfl⟩
theorem can_b {x : List V} (h : HasC .bool x) : ∃ b, x = [.bool b] := by
  simp only [HasC] at h
  exact h
theorem can_sp {x : List V} (h : HasC spTy x) : ∃ a b, x = [.int .i64 a, .int .i64 b] := by
  rw [HasC] at h
  obtain ⟨x1, r1, rfl, h1, h⟩ := h.inv
  obtain ⟨x2, r2, rfl, h2, h⟩ := h.inv
  rw [HasCs] at h
  subst h
  obtain ⟨a, rfl⟩ := can_i h1
  obtain ⟨b, rfl⟩ := can_i h2
  exact ⟨a, b, rfl⟩
theorem rel_i (n : Int) : Rel (I n) noT (.int .i64 n) := by rw [Rel]
theorem can_thr {v : V} (h : HasV thrTy v) : ∃ t : Thr, Rel (.agg (eT t)) noT v := by
  simp only [HasV] at h
  obtain ⟨cs, rfl, h⟩ := h
  obtain ⟨x1, r1, rfl, h1, h⟩ := h.inv
  obtain ⟨x2, r2, rfl, h2, h⟩ := h.inv
  obtain ⟨x3, r3, rfl, h3, h⟩ := h.inv
  rw [HasCs] at h
  subst h
  obtain ⟨s, rfl⟩ := h1.sl1
  obtain ⟨a, rfl⟩ := can_i h2
  obtain ⟨b, rfl⟩ := can_i h3
  obtain ⟨l, hl, _⟩ := can_sl (E := fun x : Int × Int => [I x.1, I x.2]) (Q := fun _ => True) h1 fun x hx => by
    obtain ⟨a, b, rfl⟩ := can_sp hx
    exact ⟨(a, b), RelL.cons (rel_i a) (RelL.one (rel_i b)), trivial⟩
  refine ⟨(l, a, b), ?_⟩
  rw [Rel]
  refine ⟨_, rfl, RelL.cons ?_ (RelL.cons (rel_i a) (RelL.one (rel_i b)))⟩
  exact hl
theorem can_span {v : V} (h : HasV spTy v) : ∃ d : Int × Int, v = .agg [I d.1, I d.2] := by
  simp only [HasV] at h
  obtain ⟨cs, rfl, h⟩ := h
  obtain ⟨a, b, rfl⟩ := can_sp h
  exact ⟨(a, b), rfl⟩
theorem rel_is : ∀ xs : List Int, RelL (xs.map fun x => I x) noT (xs.map fun x => I x)
  | [] => RelL.nil
  | x :: xs => by rw [List.map_cons]; exact RelL.cons (rel_i x) (rel_is xs)
theorem rel_aggI (xs : List Int) : Rel (.agg (xs.map fun x => I x)) noT (.agg (xs.map fun x => I x)) := by
  rw [Rel]; exact ⟨_, rfl, rel_is xs⟩
/-- Three integers and a span. -/
theorem can_at {v : V} (h : HasV (.st [.int .i64, .int .i64, .int .i64, spTy]) v) : ∃ a b c : Int, ∃ d : Int × Int, v = .agg [I a, I b, I c, I d.1, I d.2] := by
  simp only [HasV] at h
  obtain ⟨cs, rfl, h⟩ := h
  obtain ⟨x1, r1, rfl, h1, h⟩ := h.inv
  obtain ⟨x2, r2, rfl, h2, h⟩ := h.inv
  obtain ⟨x3, r3, rfl, h3, h⟩ := h.inv
  obtain ⟨x4, r4, rfl, h4, h⟩ := h.inv
  rw [HasCs] at h
  subst h
  obtain ⟨a, rfl⟩ := can_i h1
  obtain ⟨b, rfl⟩ := can_i h2
  obtain ⟨c, rfl⟩ := can_i h3
  obtain ⟨d, e, rfl⟩ := can_sp h4
  exact ⟨a, b, c, (d, e), rfl⟩
end Go.Lo

/- How teeth lie in grooves. -/
namespace Go.Lo
open Go.Proofs
set_option linter.unusedSimpArgs false
set_option maxHeartbeats 4000000
theorem maxL2 {a b : Int} : maxL a [b] = max a b := by simp only [maxL]; split <;> omega
theorem minL2 {a b : Int} : minL a [b] = min a b := by simp only [minL]; split <;> omega
theorem maxL3 {a b c : Int} : maxL a [b, c] = max (max a b) c := by simp only [maxL]; split <;> split <;> omega
theorem abs_mul {a b A C : Int} (h1 : -A ≤ a ∧ a ≤ A) (h2 : -C ≤ b ∧ b ≤ C) : -(A * C) ≤ a * b ∧ a * b ≤ A * C := by
  have hA : 0 ≤ A := by omega
  have hC : 0 ≤ C := by omega
  have key : ∀ {x y : Int}, 0 ≤ x → x ≤ A → -C ≤ y → y ≤ C → -(A * C) ≤ x * y ∧ x * y ≤ A * C := fun {x y} p1 p2 p3 p4 => by
    have e1 := Int.mul_le_mul_of_nonneg_left p4 p1
    have e2 := Int.mul_le_mul_of_nonneg_right p2 hC
    have e3 := Int.mul_le_mul_of_nonneg_left p3 p1
    have e4 : x * -C = -(x * C) := Int.mul_neg x C
    omega
  by_cases h : 0 ≤ a
  · exact key h h1.2 h2.1 h2.2
  · have := key (x := -a) (y := b) (by omega) (by omega) h2.1 h2.2
    rw [Int.neg_mul] at this
    omega
/-- A height is one of those at which flanks can touch. -/
structure DOk (d : Int × Int) : Prop where
  lo : -200000 ≤ d.1
  le : d.1 ≤ d.2
  hi : d.2 ≤ 200000
theorem dOk_iff {d : Int × Int} : dOk d = true ↔ DOk d := by
  unfold dOk
  rw [decide_eq_true_eq]
  exact ⟨fun h => ⟨h.1, h.2.1, h.2.2⟩, fun h => ⟨h.1, h.2, h.3⟩⟩
def mst (d : Int × Int) (b : Int) : Int := max (d.1 * b) (d.2 * b)
theorem mst_bd {d : Int × Int} (hd : DOk d) {b : Int} (hb : -3000 ≤ b ∧ b ≤ 3000) : -600000000 ≤ mst d b ∧ mst d b ≤ 600000000 := by
  obtain ⟨h1, h2, h3⟩ := hd
  have := abs_mul (a := d.1) (b := b) (A := 200000) (C := 3000) (by omega) (by omega)
  have := abs_mul (a := d.2) (b := b) (A := 200000) (C := 3000) (by omega) (by omega)
  unfold mst
  omega
theorem p87 {d : Int × Int} (hd : DOk d) {b : Int} (hb : -3000 ≤ b ∧ b ≤ 3000) : R 87 [eS d, I b] = some (I (mst d b)) := by
  obtain ⟨h1, h2, h3⟩ := hd
  have b1 := abs_mul (a := d.1) (b := b) (A := 200000) (C := 3000) (by omega) (by omega)
  have b2 := abs_mul (a := d.2) (b := b) (A := 200000) (C := 3000) (by omega) (by omega)
  unfold mst
  have w1 := wrap64 (n := d.1 * b) (by omega) (by omega)
  have w2 := wrap64 (n := d.2 * b) (by omega) (by omega)
  generalize hx : d.1 * b = x at *
  generalize hy : d.2 * b = y at *
  refine run2_body 1 rfl rfl rfl rfl rfl ?_
  simp (maxSteps := 2000000) (disch := first | omega | (simp; done) | (simp; omega)) [-getElem?_pos, -maxL, maxL2, l87, hx, hy, w1, w2]
/-- What two flanks need of the shift. -/
def nd (d : Int × Int) (a b : Int × Int) (sl sr nl nr : Int) : Int × Int := (1000 * (b.1 - a.1) + mst d (nl - sl), 1000 * (b.2 - a.2) - mst d (nr - sr))
abbrev far1 (x : Int × Int) : Prop := (-10000000 ≤ x.1 ∧ x.1 ≤ 10000000) ∧ (-10000000 ≤ x.2 ∧ x.2 ≤ 10000000)
abbrev lean1 (l r : Int) : Prop := (0 ≤ l ∧ l ≤ 3000) ∧ (0 ≤ r ∧ r ≤ 3000)
theorem nd_bd {d : Int × Int} (hd : DOk d) {a b : Int × Int} (ha : far1 a) (hb : far1 b) {sl sr nl nr : Int} (hs : lean1 sl sr) (hn : lean1 nl nr) : (-30000000000 ≤ (nd d a b sl sr nl nr).1 ∧ (nd d a b sl sr nl nr).1 ≤ 30000000000) ∧ (-30000000000 ≤ (nd d a b sl sr nl nr).2 ∧ (nd d a b sl sr nl nr).2 ≤ 30000000000) := by
  have m1 := mst_bd hd (b := nl - sl) (by omega)
  have m2 := mst_bd hd (b := nr - sr) (by omega)
  unfold nd
  omega
theorem p91 {d : Int × Int} (hd : DOk d) {a b : Int × Int} (ha : far1 a) (hb : far1 b) {sl sr nl nr : Int} (hs : lean1 sl sr) (hn : lean1 nl nr) (x y : V) (hx : x = .sl none 2 [] ∨ ∃ es, x = .sl none 2 es) (hy : ∃ es, y = .sl none 2 es) :
    R 91 [eS d, eS a, eS b, .agg [x, I sl, I sr], .agg [y, I nl, I nr]] = some (eS (nd d a b sl sr nl nr)) := by
  have hx' : ∃ es, x = .sl none 2 es := by rcases hx with h | h; exact ⟨_, h⟩; exact h
  obtain ⟨ex, rfl⟩ := hx'
  obtain ⟨ey, rfl⟩ := hy
  have e1 := p87 hd (b := nl - sl) (by omega)
  have e2 := p87 hd (b := nr - sr) (by omega)
  have m1 := mst_bd hd (b := nl - sl) (by omega)
  have m2 := mst_bd hd (b := nr - sr) (by omega)
  unfold nd
  generalize mst d (nl - sl) = y1 at *
  generalize mst d (nr - sr) = y2 at *
  refine run2_body 1 rfl rfl rfl rfl rfl ?_
  simp (maxSteps := 2000000) (disch := first | omega | (simp; done) | (simp; omega)) [-getElem?_pos, l91, e1, e2, wrap64]
/-- The shifts that all of these allow. -/
def shf : List (Int × Int) → Int × Int
  | [] => (0, 0)
  | x :: r => r.foldl (fun s n => (max s.1 n.1, min s.2 n.2)) x
theorem shf_snoc (l : List (Int × Int)) (x : Int × Int) : shf (l ++ [x]) = if l = [] then x else (max (shf l).1 x.1, min (shf l).2 x.2) := by
  cases l with
  | nil => rfl
  | cons y l => simp [shf]
abbrev nds (d : Int × Int) (s n : Thr) (ts gs : List (Int × Int)) : List (Int × Int) := List.zipWith (fun a b => nd d a b s.2.1 s.2.2 n.2.1 n.2.2) ts gs
theorem take_at {α : Type} {l : List α} {i : Nat} {x : α} (h : l[i]? = some x) : l.take (i + 1) = l.take i ++ [x] := by
  rw [List.take_add_one, h]; rfl
theorem nds_take {d : Int × Int} {s n : Thr} {ts gs : List (Int × Int)} {i : Nat} {a b : Int × Int} (h1 : ts[i]? = some a) (h2 : gs[i]? = some b) : nds d s n (ts.take (i + 1)) (gs.take (i + 1)) = nds d s n (ts.take i) (gs.take i) ++ [nd d a b s.2.1 s.2.2 n.2.1 n.2.2] := by
  rw [take_at h1, take_at h2]
  have := (List.getElem?_eq_some_iff.1 h1).1
  have := (List.getElem?_eq_some_iff.1 h2).1
  unfold nds
  rw [List.zipWith_append (by simp; omega)]
  rfl
theorem zw_take {α β γ : Type} (f : α → β → γ) : ∀ (l : List α) (r : List β), List.zipWith f l (r.take l.length) = List.zipWith f l r
  | [], r => by simp
  | x :: l, [] => by simp
  | x :: l, y :: r => by simp [zw_take f l r]
theorem flat_eS2 (l : List (Int × Int)) : flatE (eS2 l) = true := by simp [flatE, V.flat]
/-- A valid thread. -/
structure TOk (t : Thr) : Prop where
  len : t.1.length ≤ 60
  pos : 0 < t.1.length
  lean : lean1 t.2.1 t.2.2
  turn : ∀ x ∈ t.1, far1 x ∧ x.1 ≤ x.2
theorem chkT_ok {t : Thr} (h : chkT t = 0) : TOk t := by
  obtain ⟨ts, l, r⟩ := t
  unfold chkT at h
  simp only at h
  split at h
  · omega
  · rename_i h1
    split at h
    · omega
    · rename_i h2
      split at h
      · rename_i h3
        rw [List.all_eq_true] at h3
        have hb : ∀ i, i < ts.length → turnB ts i = true := fun i hi => h3 i (List.mem_range.2 hi)
        have hlow : ∀ i, i < ts.length → -10000000 ≤ (turn ts i).1 ∧ (turn ts i).1 ≤ (turn ts i).2 := by
          intro i
          induction i with
          | zero =>
            intro hi
            have := hb 0 hi
            unfold turnB aftT at this
            rw [decide_eq_true_eq] at this
            simp at this
            omega
          | succ i ih =>
            intro hi
            have h4 := hb (i + 1) hi
            have h5 := ih (by omega)
            unfold turnB aftT at h4
            rw [decide_eq_true_eq] at h4
            simp at h4
            omega
        refine ⟨by simp only; omega, ?_, ?_, fun x hx => ?_⟩
        · have : ts ≠ [] := fun e => h2 (.inl e)
          exact Nat.pos_of_ne_zero fun e => this (List.length_eq_zero_iff.1 e)
        · have h4 : leanB l r = true := by
            cases hq : leanB l r with
            | true => rfl
            | false => exact absurd (.inr hq) h2
          unfold leanB at h4
          rw [decide_eq_true_eq] at h4
          exact h4
        · obtain ⟨i, hi, rfl⟩ := List.mem_iff_getElem.1 hx
          have h4 := hb i hi
          have h5 := hlow i hi
          have h6 : ts[i] = turn ts i := by simp [Go.Lo.turn, hi]
          rw [h6]
          unfold turnB at h4
          rw [decide_eq_true_eq] at h4
          exact ⟨⟨by omega, by omega⟩, h5.2⟩
      · omega
theorem p66 {d : Int × Int} (hd : DOk d) {s n : Thr} (hs : TOk s) (hn : TOk n) {ts gs : List (Int × Int)} (ht : ∀ x ∈ ts, far1 x) (hg : ∀ x ∈ gs, far1 x) (hl : ts.length ≤ gs.length) (hl2 : ts.length ≤ 1000) :
    R 66 [.agg ([I d.1, I d.2] ++ eT s ++ eT n), S 2 (eS2 ts), S 2 (eS2 gs)] = some (.tup [eS (shf (nds d s n ts gs)), B (decide ((shf (nds d s n ts gs)).1 ≤ (shf (nds d s n ts gs)).2))]) := by
  have hnb : ∀ i, i ≤ ts.length → (-30000000000 ≤ (shf (nds d s n (ts.take i) (gs.take i))).1 ∧ (shf (nds d s n (ts.take i) (gs.take i))).1 ≤ 30000000000) ∧ (-30000000000 ≤ (shf (nds d s n (ts.take i) (gs.take i))).2 ∧ (shf (nds d s n (ts.take i) (gs.take i))).2 ≤ 30000000000) := by
    intro i
    induction i with
    | zero => intro _; simp [shf]
    | succ i ih =>
      intro hi
      have h1 : ts[i]? = some ts[i] := List.getElem?_eq_getElem (by omega)
      have h2 : gs[i]? = some gs[i] := List.getElem?_eq_getElem (by omega)
      have k1 := ht _ (List.getElem_mem (show i < ts.length by omega))
      have k2 := hg _ (List.getElem_mem (show i < gs.length by omega))
      rw [nds_take h1 h2, shf_snoc]
      have b1 := nd_bd hd k1 k2 hs.lean hn.lean
      have b2 := ih (by omega)
      split
      · exact b1
      · simp only; omega
  have L := loop_all (s := fun i => { fr := [(2, S 2 (eS2 gs)), (3, .box ([I d.1, I d.2] ++ eT s ++ eT n)), (6, .box [I (shf (nds d s n (ts.take i) (gs.take i))).1, I (shf (nds d s n (ts.take i) (gs.take i))).2]), (11, S 2 (eS2 ts)), (12, I ts.length), (13, I i)], tk := [] }) (f := evC2 R (ts.length + 1) b66_0) (n := ts.length)
    (X := (.exit 0, { fr := [(2, S 2 (eS2 gs)), (3, .box ([I d.1, I d.2] ++ eT s ++ eT n)), (6, .box [I (shf (nds d s n ts gs)).1, I (shf (nds d s n ts gs)).2]), (11, S 2 (eS2 ts)), (12, I ts.length), (13, I ts.length), (14, B false)], tk := [] }))
    (fun i hi => by
      have h1 : ts[i]? = some ts[i] := List.getElem?_eq_getElem hi
      have h2 : gs[i]? = some gs[i] := List.getElem?_eq_getElem (by omega)
      have k1 := ht _ (List.getElem_mem hi)
      have k2 := hg _ (List.getElem_mem (show i < gs.length by omega))
      have hz : nds d s n (ts.take i) (gs.take i) = [] ↔ i = 0 := by
        rw [← List.length_eq_zero_iff, List.length_zipWith, List.length_take, List.length_take]; omega
      rw [nds_take h1 h2, shf_snoc]
      generalize ts[i] = a at *
      generalize gs[i] = b at *
      have e1 := p91 hd k1 k2 hs.lean hn.lean (S 2 (eS2 s.1)) (S 2 (eS2 n.1)) (.inr ⟨_, rfl⟩) ⟨_, rfl⟩
      generalize nd d a b s.2.1 s.2.2 n.2.1 n.2.2 = z at *
      generalize shf (nds d s n (ts.take i) (gs.take i)) = y at *
      by_cases h0 : i = 0
      · rw [if_pos (hz.2 h0)]
        subst h0
        have m1 : max z.1 z.1 = z.1 := by omega
        have m2 : min z.2 z.2 = z.2 := by omega
        simp (maxSteps := 2000000) (disch := first | omega | (simp; done) | (simp; omega)) [-getElem?_pos, -maxL, -minL, maxL2, minL2, b66_0, eT, h1, h2, hi, e1, m1, m2, wrap64]
      · rw [if_neg (fun h => h0 (hz.1 h))]
        simp (maxSteps := 2000000) (disch := first | omega | (simp; done) | (simp; omega)) [-getElem?_pos, -maxL, -minL, maxL2, minL2, b66_0, eT, h1, h2, hi, e1, h0, wrap64]) (by
      have e : nds d s n (ts.take ts.length) (gs.take ts.length) = nds d s n ts gs := by
        rw [List.take_length]; exact zw_take _ _ _
      rw [e]
      generalize shf (nds d s n ts gs) = y at *
      simp (maxSteps := 2000000) (disch := first | omega | (simp; done) | (simp; omega)) [-getElem?_pos, b66_0, eT]) (by simp)
  generalize shf (nds d s n ts gs) = y at *
  simp [eT, shf] at L
  refine run2_body (ts.length + 1) rfl rfl rfl rfl rfl ?_
  simp (maxSteps := 2000000) (disch := first | omega | (simp; done) | (simp; omega)) [-getElem?_pos, l66, eT, L]
end Go.Lo

/- Shifts and steps, by the program. -/
namespace Go.Lo
open Go.Proofs
set_option linter.unusedSimpArgs false
set_option maxHeartbeats 8000000
theorem chkAll_two {d : Int × Int} {s n : Thr} (h : chkAll d [s, n] = 0) : chkT s = 0 ∧ chkT n = 0 ∧ dOk d = true := by
  unfold chkAll at h
  by_cases h1 : chkT s = 0
  · by_cases h2 : chkT n = 0
    · simp [h1, h2] at h
      exact ⟨h1, h2, h⟩
    · simp [h1, h2] at h
  · simp [h1] at h
theorem chkAll_one {d : Int × Int} {s : Thr} (h : chkAll d [s] = 0) : chkT s = 0 ∧ dOk d = true := by
  unfold chkAll at h
  by_cases h1 : chkT s = 0
  · simp [h1] at h
    exact ⟨h1, h⟩
  · simp [h1] at h
theorem chkAll_2 (d : Int × Int) (s n : Thr) : chkAll d [s, n] = if chkT s ≠ 0 then chkT s else if chkT n ≠ 0 then chkT n else if dOk d = true then 0 else 3 := by
  unfold chkAll
  by_cases h1 : chkT s = 0
  · by_cases h2 : chkT n = 0 <;> simp [h1, h2]
  · simp [h1]
def goesB (d : Int × Int) (s n : Thr) : Bool := decide ((shf (nds d s n s.1 n.1)).1 ≤ (shf (nds d s n s.1 n.1)).2)
theorem p73 {d : Int × Int} (hd : DOk d) {s n : Thr} (hs : TOk s) (hn : TOk n) (hl : s.1.length ≤ n.1.length) : R 73 [.agg (eT s), .agg (eT n), eS d] = some (B (goesB d s n)) := by
  have e1 := p66 hd hs hn (fun x hx => (hs.turn x hx).1) (fun x hx => (hn.turn x hx).1) hl (by have := hs.len; omega)
  unfold goesB
  generalize shf (nds d s n s.1 n.1) = z at *
  refine run2_body 1 rfl rfl rfl rfl rfl ?_
  simp only [eT, List.cons_append, List.nil_append] at e1
  simp (maxSteps := 2000000) (disch := first | omega | (simp; done) | (simp; omega)) [-getElem?_pos, l73, eT, e1]
end Go.Lo

/- Forms are checked: by the program, and by chapter 1's reference. -/
namespace Go.Lo
open Go.Proofs
set_option linter.unusedSimpArgs false
set_option maxHeartbeats 8000000
theorem p99 (x lo hi : Int) : R 99 [I x, .cref [I lo], .cref [I hi]] = some (B (decide (x < lo) || decide (x > hi))) := by
  refine run2_body 1 rfl rfl rfl rfl rfl ?_
  by_cases h : x < lo <;> simp [l99, h]
theorem p92 (lo hi : Int) {xs : List Int} (hl : xs.length < 4611686018427387904) : R 92 [I lo, I hi, S 1 (eI xs)] = some (B (xs.all fun x => decide (lo ≤ x ∧ x ≤ hi))) := by
  have h := p84 (g := 99) (caps := [.cref [I lo], .cref [I hi]]) (pr := fun x => decide (x < lo) || decide (x > hi)) (E := fun x => [I x]) (W := fun x => I x) (xs := xs) (fun _ => rfl) (fun _ _ => ⟨rfl, fun _ => rfl, fun _ => rfl⟩) (fun x _ => p99 x lo hi) hl
  refine run2_body 1 rfl rfl rfl rfl rfl ?_
  have e : (xs.all fun x => decide (lo ≤ x ∧ x ≤ hi)) = !(xs.any fun x => decide (x < lo) || decide (x > hi)) := by
    rw [List.not_any_eq_all_not]
    congr 1
    funext x
    by_cases h1 : x < lo <;> by_cases h2 : x > hi <;> simp [h1, h2] <;> omega
  rw [e]
  simp [l92, h]

/-- A form of a thread. -/
structure Frm where
  pitch : Int
  left : Int
  right : Int
  above : Int
  below : Int
  starts : Int
  hand : Bool
  taper : Int
abbrev eF (f : Frm) : List V := [I f.pitch, I f.left, I f.right, I f.above, I f.below, I f.starts, B f.hand, I f.taper]
abbrev eX (f : Frm) (d : Int × Int) : List V := eF f ++ [I d.1, I d.2]
theorem t92_1 (lo hi x : Int) : R 92 [I lo, I hi, S 1 [[I x]]] = some (B (decide (lo ≤ x ∧ x ≤ hi))) := by
  have := p92 lo hi (xs := [x]) (by simp)
  simpa using this
theorem t92_2 (lo hi x y : Int) : R 92 [I lo, I hi, S 1 [[I x], [I y]]] = some (B (decide ((lo ≤ x ∧ x ≤ hi) ∧ (lo ≤ y ∧ y ≤ hi)))) := by
  have := p92 lo hi (xs := [x, y]) (by simp)
  simpa using this
def wid (f : Frm) (y : Int) : Int := 1000 * f.pitch - 2 * y * (f.left + f.right)
/-- Numbers that make no sum too great. -/
structure FNum (f : Frm) : Prop where
  pitch : 100 ≤ f.pitch ∧ f.pitch ≤ 200000
  left : 0 ≤ f.left ∧ f.left ≤ 3000
  right : 0 ≤ f.right ∧ f.right ≤ 3000
  above : 0 ≤ f.above ∧ f.above ≤ 200000
  below : 0 ≤ f.below ∧ f.below ≤ 200000
def frmN (f : Frm) : Bool := decide ((((((100 ≤ f.pitch ∧ f.pitch ≤ 200000) ∧ ((0 ≤ f.left ∧ f.left ≤ 3000) ∧ (0 ≤ f.right ∧ f.right ≤ 3000))) ∧ ((0 ≤ f.above ∧ f.above ≤ 200000) ∧ (0 ≤ f.below ∧ f.below ≤ 200000))) ∧ f.above + f.below ≥ 1) ∧ (1 ≤ f.starts ∧ f.starts ≤ 8)) ∧ (0 ≤ f.taper ∧ f.taper ≤ 100))
/-- Is it a form? -/
def frmB (f : Frm) : Bool := frmN f && decide (0 ≤ wid f f.above ∧ 0 ≤ wid f f.below)
theorem frmN_num {f : Frm} (h : frmN f = true) : FNum f := by
  unfold frmN at h
  rw [decide_eq_true_eq] at h
  exact ⟨h.1.1.1.1.1, h.1.1.1.1.2.1, h.1.1.1.1.2.2, h.1.1.1.2.1, h.1.1.1.2.2⟩
theorem p93 {f : Frm} (h : FNum f) {y : Int} (hy : -200000 ≤ y ∧ y ≤ 200000) : R 93 [.agg (eF f), I y] = some (I (wid f y)) := by
  have h1 := h.pitch
  have h2 := h.left
  have h3 := h.right
  have m := abs_mul (a := 2 * y) (b := f.left + f.right) (A := 400000) (C := 6000) (by omega) (by omega)
  have e1 : R 100 [.agg (eF f)] = some (I (f.left + f.right)) := by
    refine run2_body 1 rfl rfl rfl rfl rfl ?_
    simp (maxSteps := 2000000) (disch := first | omega | (simp; done) | (simp; omega)) [-getElem?_pos, l100, eF, wrap64]
  unfold wid
  have w1 := wrap64 (n := 2 * y * (f.left + f.right)) (by omega) (by omega)
  have w2 := wrap64 (n := f.left + f.right) (by omega) (by omega)
  generalize hz : 2 * y * (f.left + f.right) = z at *
  refine run2_body 1 rfl rfl rfl rfl rfl ?_
  simp only [eF] at e1
  simp (maxSteps := 2000000) (disch := first | omega | (simp; done) | (simp; omega)) [-getElem?_pos, l93, eF, e1, hz, w1, w2, wrap64]
theorem p70 (f : Frm) : R 70 [.agg (eF f)] = some (I (if frmB f = true then 0 else 2)) := by
  have e1 := t92_1 100 200000 f.pitch
  have e2 := t92_2 0 3000 f.left f.right
  have e3 := t92_2 0 200000 f.above f.below
  have e4 := t92_1 1 8 f.starts
  have e5 := t92_1 0 100 f.taper
  unfold frmB
  by_cases c1 : 100 ≤ f.pitch ∧ f.pitch ≤ 200000
  · by_cases c2 : (0 ≤ f.left ∧ f.left ≤ 3000) ∧ (0 ≤ f.right ∧ f.right ≤ 3000)
    · by_cases c3 : (0 ≤ f.above ∧ f.above ≤ 200000) ∧ (0 ≤ f.below ∧ f.below ≤ 200000)
      · by_cases c4 : f.above + f.below ≥ 1
        · by_cases c5 : 1 ≤ f.starts ∧ f.starts ≤ 8
          · by_cases c6 : 0 ≤ f.taper ∧ f.taper ≤ 100
            · have hn : FNum f := ⟨c1, c2.1, c2.2, c3.1, c3.2⟩
              have w1 := p93 hn (y := f.above) (by omega)
              have w2 := p93 hn (y := f.below) (by omega)
              have hN : frmN f = true := by unfold frmN; rw [decide_eq_true_eq]; exact ⟨⟨⟨⟨⟨c1, c2⟩, c3⟩, c4⟩, c5⟩, c6⟩
              rw [hN]
              generalize wid f f.above = z1 at *
              generalize wid f f.below = z2 at *
              simp only [c1, c2, c3, c5, c6, and_self, decide_true] at e1 e2 e3 e4 e5
              simp only [eF] at w1 w2
              refine run2_body 1 rfl rfl rfl rfl rfl ?_
              by_cases k1 : z1 < 0
              · have k1' : ¬ 0 ≤ z1 := by omega
                simp (maxSteps := 2000000) (disch := first | omega | (simp; done) | (simp; omega)) [-getElem?_pos, l70, eF, e1, e2, e3, e4, e5, w1, w2, c4, k1, k1', wrap64]
              · have k1' : 0 ≤ z1 := by omega
                by_cases k2 : z2 < 0
                · have k2' : ¬ 0 ≤ z2 := by omega
                  simp (maxSteps := 2000000) (disch := first | omega | (simp; done) | (simp; omega)) [-getElem?_pos, l70, eF, e1, e2, e3, e4, e5, w1, w2, c4, k1, k1', k2, k2', wrap64]
                · have k2' : 0 ≤ z2 := by omega
                  simp (maxSteps := 2000000) (disch := first | omega | (simp; done) | (simp; omega)) [-getElem?_pos, l70, eF, e1, e2, e3, e4, e5, w1, w2, c4, k1, k1', k2, k2', wrap64]
            · have hN : frmN f = false := by unfold frmN; rw [decide_eq_false_iff_not]; exact fun h => c6 h.2
              rw [hN]
              simp only [c1, c2, c3, c5, c6, and_self, decide_true, decide_false] at e1 e2 e3 e4 e5
              refine run2_body 1 rfl rfl rfl rfl rfl ?_
              simp (maxSteps := 2000000) (disch := first | omega | (simp; done) | (simp; omega)) [-getElem?_pos, l70, eF, e1, e2, e3, e4, e5, c4, wrap64]
          · have hN : frmN f = false := by unfold frmN; rw [decide_eq_false_iff_not]; exact fun h => c5 h.1.2
            rw [hN]
            simp only [c1, c2, c3, c5, and_self, decide_true, decide_false] at e1 e2 e3 e4
            refine run2_body 1 rfl rfl rfl rfl rfl ?_
            simp (maxSteps := 2000000) (disch := first | omega | (simp; done) | (simp; omega)) [-getElem?_pos, l70, eF, e1, e2, e3, e4, c4, wrap64]
        · have hN : frmN f = false := by unfold frmN; rw [decide_eq_false_iff_not]; exact fun h => c4 h.1.1.2
          rw [hN]
          simp only [c1, c2, c3, and_self, decide_true] at e1 e2 e3
          refine run2_body 1 rfl rfl rfl rfl rfl ?_
          simp (maxSteps := 2000000) (disch := first | omega | (simp; done) | (simp; omega)) [-getElem?_pos, l70, eF, e1, e2, e3, c4, wrap64]
      · have hN : frmN f = false := by unfold frmN; rw [decide_eq_false_iff_not]; exact fun h => c3 h.1.1.1.2
        rw [hN]
        simp only [c1, c2, c3, and_self, decide_true, decide_false] at e1 e2 e3
        refine run2_body 1 rfl rfl rfl rfl rfl ?_
        simp (maxSteps := 2000000) (disch := first | omega | (simp; done) | (simp; omega)) [-getElem?_pos, l70, eF, e1, e2, e3, wrap64]
    · have hN : frmN f = false := by unfold frmN; rw [decide_eq_false_iff_not]; exact fun h => c2 h.1.1.1.1.2
      rw [hN]
      simp only [c1, c2, and_self, decide_true, decide_false] at e1 e2
      refine run2_body 1 rfl rfl rfl rfl rfl ?_
      simp (maxSteps := 2000000) (disch := first | omega | (simp; done) | (simp; omega)) [-getElem?_pos, l70, eF, e1, e2, wrap64]
  · have hN : frmN f = false := by unfold frmN; rw [decide_eq_false_iff_not]; exact fun h => c1 h.1.1.1.1.1
    rw [hN]
    simp only [c1, decide_false] at e1
    refine run2_body 1 rfl rfl rfl rfl rfl ?_
    simp (maxSteps := 2000000) (disch := first | omega | (simp; done) | (simp; omega)) [-getElem?_pos, l70, eF, e1, wrap64]
end Go.Lo

/- Forms, as arguments. -/
namespace Go.Lo
open Go.Proofs
set_option linter.unusedSimpArgs false
abbrev frmTy : Ty := .st [.int .i64, .int .i64, .int .i64, .int .i64, .int .i64, .int .i64, .bool, .int .i64]
theorem can_frm {v : V} (h : HasV frmTy v) : ∃ f : Frm, v = .agg (eF f) := by
  simp only [HasV] at h
  obtain ⟨cs, rfl, h⟩ := h
  obtain ⟨x1, r1, rfl, h1, h⟩ := h.inv
  obtain ⟨x2, r2, rfl, h2, h⟩ := h.inv
  obtain ⟨x3, r3, rfl, h3, h⟩ := h.inv
  obtain ⟨x4, r4, rfl, h4, h⟩ := h.inv
  obtain ⟨x5, r5, rfl, h5, h⟩ := h.inv
  obtain ⟨x6, r6, rfl, h6, h⟩ := h.inv
  obtain ⟨x7, r7, rfl, h7, h⟩ := h.inv
  obtain ⟨x8, r8, rfl, h8, h⟩ := h.inv
  rw [HasCs] at h
  subst h
  obtain ⟨a1, rfl⟩ := can_i h1
  obtain ⟨a2, rfl⟩ := can_i h2
  obtain ⟨a3, rfl⟩ := can_i h3
  obtain ⟨a4, rfl⟩ := can_i h4
  obtain ⟨a5, rfl⟩ := can_i h5
  obtain ⟨a6, rfl⟩ := can_i h6
  obtain ⟨a7, rfl⟩ := can_b h7
  obtain ⟨a8, rfl⟩ := can_i h8
  exact ⟨⟨a1, a2, a3, a4, a5, a6, a7, a8⟩, rfl⟩
theorem rel_frm (f : Frm) : Rel (.agg (eF f)) noT (.agg (eF f)) := by
  rw [Rel]
  exact ⟨_, rfl, RelL.cons (rel_i _) (RelL.cons (rel_i _) (RelL.cons (rel_i _) (RelL.cons (rel_i _) (RelL.cons (rel_i _) (RelL.cons (rel_i _) (RelL.cons (rel_bool _) (RelL.one (rel_i _))))))))⟩
end Go.Lo

/- Sizes, by the program. -/
namespace Go.Lo
open Go.Proofs
set_option linter.unusedSimpArgs false
set_option maxHeartbeats 8000000
theorem tdiv_floor {n k : Int} (hk : 0 < k) : (if n.tmod k < 0 then n.tdiv k - 1 else n.tdiv k) = n / k := by
  by_cases h : 0 ≤ n
  · rw [Int.tmod_eq_emod_of_nonneg h, Int.tdiv_eq_ediv_of_nonneg h]
    have := Int.emod_nonneg n (by omega : k ≠ 0)
    rw [if_neg (by omega)]
  · obtain ⟨m, rfl⟩ : ∃ m, n = -m := ⟨-n, by omega⟩
    rw [Int.neg_tmod, Int.neg_tdiv, Int.tmod_eq_emod_of_nonneg (by omega), Int.tdiv_eq_ediv_of_nonneg (by omega)]
    have h1 := Int.emod_nonneg m (by omega : k ≠ 0)
    have h2 := Int.emod_lt_of_pos m hk
    have h3 := Int.emod_add_mul_ediv m k
    symm
    by_cases h4 : m % k = 0
    · rw [if_neg (by omega)]
      exact ((Int.ediv_emod_unique (r := 0) hk).2 ⟨by rw [Int.mul_neg]; omega, by omega, by omega⟩).1
    · rw [if_pos (by omega)]
      refine ((Int.ediv_emod_unique (r := k - m % k) hk).2 ⟨?_, by omega, by omega⟩).1
      rw [Int.mul_sub, Int.mul_neg, Int.mul_one]
      omega
theorem tdiv_le {n k : Int} (hk : 0 < k) (A : Int) (h : -A ≤ n ∧ n ≤ A) : -A ≤ n.tdiv k ∧ n.tdiv k ≤ A := by
  have key : ∀ m : Int, 0 ≤ m → m ≤ A → 0 ≤ m.tdiv k ∧ m.tdiv k ≤ A := fun m h1 h2 => by
    rw [Int.tdiv_eq_ediv_of_nonneg h1]
    refine ⟨Int.ediv_nonneg h1 (by omega), ?_⟩
    have := Int.ediv_le_self k h1
    omega
  by_cases h0 : 0 ≤ n
  · have := key n h0 h.2; omega
  · have := key (-n) (by omega) (by omega)
    rw [Int.neg_tdiv] at this
    omega
theorem p60 {n k : Int} (hk : 0 < k) (hn : -4000000000000000000 ≤ n ∧ n ≤ 4000000000000000000) : R 60 [I n, I k] = some (I (n / k)) := by
  have h1 := tdiv_floor (n := n) hk
  have h2 := tdiv_le hk 4000000000000000000 hn
  have h0 : ¬ k = 0 := by omega
  rw [← h1]
  have w := wrap64 (n := n.tdiv k) (by omega) (by omega)
  generalize hq : n.tdiv k = q at *
  generalize hr : n.tmod k = r at *
  refine run2_body 1 rfl rfl rfl rfl rfl ?_
  by_cases c : r < 0 <;> simp (maxSteps := 2000000) (disch := first | omega | (simp; done) | (simp; omega)) [-getElem?_pos, l60, h0, hq, hr, w, c, wrap64]
theorem div_le {n k : Int} (hk : 0 < k) (A : Int) (h : -A ≤ n ∧ n ≤ A) : -A - 1 ≤ n / k ∧ n / k ≤ A + 1 := by
  rw [← tdiv_floor hk]
  have := tdiv_le hk A h
  split <;> omega
theorem p58 {n k : Int} (hk : 0 < k) (hn : -4000000000000000000 ≤ n ∧ n ≤ 4000000000000000000) : R 58 [I n, I k] = some (I (-(-n / k))) := by
  have e1 := p60 (n := -n) hk (by omega)
  have h2 := div_le (n := -n) hk 4000000000000000000 (by omega)
  generalize hq : -n / k = q at *
  refine run2_body 1 rfl rfl rfl rfl rfl ?_
  simp (maxSteps := 2000000) (disch := first | omega | (simp; done) | (simp; omega)) [-getElem?_pos, l58, e1, wrap64]
theorem p57 {f : Frm} (h : FNum f) (d : Int × Int) : R 57 [.agg (eX f d)] = some (I (f.left + f.right)) := by
  have h2 := h.left
  have h3 := h.right
  refine run2_body 1 rfl rfl rfl rfl rfl ?_
  simp (maxSteps := 2000000) (disch := first | omega | (simp; done) | (simp; omega)) [-getElem?_pos, l57, eX, eF, wrap64]
/-! ### How far flanks are -/
def lf (f : Frm) (t : Thr) (k : Nat) : Int := 1000 * (4 * (turn t.1 k).1 - 4 * k * f.pitch + f.pitch)
def rt (f : Frm) (t : Thr) (k : Nat) : Int := 1000 * (4 * (turn t.1 k).2 - 4 * k * f.pitch - f.pitch)
theorem flank_bd {f : Frm} (hf : FNum f) {t : Thr} (ht : TOk t) {k : Nat} (hk : k < t.1.length) : (-100000000000 ≤ lf f t k ∧ lf f t k ≤ 100000000000) ∧ (-100000000000 ≤ rt f t k ∧ rt f t k ≤ 100000000000) := by
  have h1 := hf.pitch
  have hl := ht.len
  have hb := (ht.turn _ (List.mem_of_getElem? (turn_get hk))).1
  have m := abs_mul (a := 4 * (k : Int)) (b := f.pitch) (A := 240) (C := 200000) (by omega) (by omega)
  have m2 : 0 ≤ 4 * (k : Int) * f.pitch := Int.mul_nonneg (by omega) (by omega)
  unfold lf rt
  generalize 4 * (k : Int) * f.pitch = z at *
  omega
def accF (f : Frm) (t : Thr) (n : Nat) : List (List V) := (List.range n).map fun k => [I (lf f t k), I (rt f t k)]
theorem p98 {f : Frm} (hf : FNum f) (d : Int × Int) {t : Thr} (ht : TOk t) : R 98 [.fn (.y 0) [], .gref (eT t), .gref (eX f d)] = some (.tup (tupsL (accF f t t.1.length))) := by
  have hl := ht.len
  have L := loop_all (s := fun k => { fr := [(0, .fn (.y 0) []), (2, .gref (eX f d)), (8, S 2 (eS2 t.1)), (9, I t.1.length), (10, I k)], tk := [], tr := some (accF f t k) }) (f := evC2 R (t.1.length + 1) b98_0) (n := t.1.length)
    (X := (.exit 0, { fr := [(0, .fn (.y 0) []), (2, .gref (eX f d)), (8, S 2 (eS2 t.1)), (9, I t.1.length), (10, I t.1.length), (11, B false)], tk := [], tr := some (accF f t t.1.length) }))
    (fun k hk => by
      have h1 := turn_get hk
      have hp := hf.pitch
      have hb := (ht.turn _ (List.mem_of_getElem? h1)).1
      have m := abs_mul (a := 4 * (k : Int)) (b := f.pitch) (A := 240) (C := 200000) (by omega) (by omega)
      have hacc : accF f t (k + 1) = accF f t k ++ [[I (lf f t k), I (rt f t k)]] := by unfold accF; rw [List.range_succ, List.map_append]; rfl
      rw [hacc]
      unfold lf rt
      generalize accF f t k = acc at *
      generalize turn t.1 k = x at *
      have w := wrap64 (n := 4 * (k : Int) * f.pitch) (by omega) (by omega)
      generalize hz : 4 * (k : Int) * f.pitch = z at *
      simp (maxSteps := 2000000) (disch := first | omega | (simp; done) | (simp; omega)) [-getElem?_pos, b98_0, eX, eF, h1, hk, hz, w, wrap64]) (by
      generalize accF f t t.1.length = acc at *
      simp (maxSteps := 2000000) (disch := first | omega | (simp; done) | (simp; omega)) [-getElem?_pos, b98_0, eX, eF]) (by simp)
  refine run2_iter (t.1.length + 1) rfl rfl rfl rfl rfl ?_
  have h0 : accF f t 0 = [] := rfl
  simp only [h0] at L
  generalize accF f t t.1.length = acc at *
  simp [eX, eF] at L
  simp (maxSteps := 2000000) (disch := first | omega | (simp; done) | (simp; omega)) [-getElem?_pos, l98, eX, eF, eT, L]
theorem p86 {f : Frm} (d : Int × Int) (t : Thr) : R 86 [.agg (eX f d), .agg (eT t)] = some (.fn (.f 98) [.gref (eT t), .gref (eX f d)]) := by
  refine run2_body 1 rfl rfl rfl rfl rfl ?_
  simp (maxSteps := 2000000) (disch := first | omega | (simp; done) | (simp; omega)) [-getElem?_pos, l86, eX, eF, eT]
/-- The greatest of some integers. -/
def mx : List Int → Int
  | [] => 0
  | x :: r => r.foldl max x
theorem mx_snoc (l : List Int) (x : Int) : mx (l ++ [x]) = if l = [] then x else max (mx l) x := by
  cases l with
  | nil => rfl
  | cons y l => simp [mx]
theorem p88 {l : List Int} (h0 : l ≠ []) (hl : l.length ≤ 1000000) : R 88 [S 1 (eI l)] = some (I (mx l)) := by
  cases l with
  | nil => exact absurd rfl h0
  | cons x l =>
    simp only [List.length_cons] at hl
    have L := loop_all (s := fun i => { fr := [(0, S 1 (eI (x :: l))), (3, I (mx (x :: l.take i))), (4, I (i + 1 : Nat))], tk := [] }) (f := evC2 R (l.length + 1) b88_0) (n := l.length) (X := (.exit 0, { fr := [(0, S 1 (eI (x :: l))), (3, I (mx (x :: l))), (4, I (l.length + 1 : Nat)), (15, B false)], tk := [] }))
      (fun i hi => by
        have h1 : l[i]? = some l[i] := List.getElem?_eq_getElem hi
        rw [take_at h1, ← List.cons_append, mx_snoc, if_neg (by simp)]
        generalize mx (x :: l.take i) = m at *
        generalize l[i] = y at *
        have q : ((i : Int) + 1).toNat = i + 1 := by omega
        simp (maxSteps := 2000000) (disch := first | omega | (simp; done) | (simp; omega)) [-getElem?_pos, -maxL, maxL2, b88_0, h1, hi, q, wrap64]) (by
        rw [List.take_length]
        generalize mx (x :: l) = m at *
        simp (maxSteps := 2000000) (disch := first | omega | (simp; done) | (simp; omega)) [-getElem?_pos, b88_0]) (by simp)
    have hm0 : mx (x :: l.take 0) = x := rfl
    simp only [hm0] at L
    generalize mx (x :: l) = m at *
    simp at L
    have hlt : ¬ (l.length : Int) + 1 < 1 := by omega
    refine run2_body (l.length + 1) rfl rfl rfl rfl rfl ?_
    simp (maxSteps := 2000000) (disch := first | omega | (simp; done) | (simp; omega)) [-getElem?_pos, l88, L, hlt]
/-! ### size -/
def lefts (f : Frm) (t : Thr) (sg : Int) (n : Nat) : List Int := (List.range n).map fun k => -sg * lf f t k
def rights (f : Frm) (t : Thr) (sg : Int) (n : Nat) : List Int := (List.range n).map fun k => sg * rt f t k
def sizeOf3 (f : Frm) (d : Int × Int) (t : Thr) (sg : Int) : Int := mx (lefts f t sg t.1.length) + mx (rights f t sg t.1.length) + 4 * (mst d (sg * (f.left - t.2.1)) + mst d (sg * (f.right - t.2.2)))
theorem mx_bd {l : List Int} {A : Int} (hA : 0 ≤ A) (h : ∀ x ∈ l, -A ≤ x ∧ x ≤ A) : -A ≤ mx l ∧ mx l ≤ A := by
  cases l with
  | nil => simp [mx]; omega
  | cons x l =>
    have key : ∀ (l : List Int) (a : Int), (-A ≤ a ∧ a ≤ A) → (∀ x ∈ l, -A ≤ x ∧ x ≤ A) → -A ≤ l.foldl max a ∧ l.foldl max a ≤ A := by
      intro l
      induction l with
      | nil => intro a h _; exact h
      | cons y l ih =>
        intro a ha hl
        refine ih _ ?_ fun z hz => hl z (by simp [hz])
        have := hl y (by simp)
        omega
    exact key l x (h x (by simp)) fun y hy => h y (by simp [hy])
theorem size_bd {f : Frm} (hf : FNum f) {d : Int × Int} (hd : DOk d) {t : Thr} (ht : TOk t) {sg : Int} (hs : sg = 1 ∨ sg = -1) : -300000000000 ≤ sizeOf3 f d t sg ∧ sizeOf3 f d t sg ≤ 300000000000 := by
  have h1 := hf.left
  have h2 := hf.right
  have h3 := ht.lean
  have m1 := mst_bd hd (b := sg * (f.left - t.2.1)) (by rcases hs with rfl | rfl <;> omega)
  have m2 := mst_bd hd (b := sg * (f.right - t.2.2)) (by rcases hs with rfl | rfl <;> omega)
  have b1 := mx_bd (l := lefts f t sg t.1.length) (A := 100000000000) (by omega) fun x hx => by
    unfold lefts at hx
    obtain ⟨k, hk, rfl⟩ := List.mem_map.1 hx
    have := flank_bd hf ht (List.mem_range.1 hk)
    rcases hs with rfl | rfl <;> omega
  have b2 := mx_bd (l := rights f t sg t.1.length) (A := 100000000000) (by omega) fun x hx => by
    unfold rights at hx
    obtain ⟨k, hk, rfl⟩ := List.mem_map.1 hx
    have := flank_bd hf ht (List.mem_range.1 hk)
    rcases hs with rfl | rfl <;> omega
  unfold sizeOf3
  omega
def sSz (f : Frm) (d : Int × Int) (t : Thr) (sg : Int) (l : List (Int × Int)) : St :=
  { fr := [(3, .box (eX f d)), (4, .box (eT t)), (5, .box [I sg]), (7, .box [.sl (some 2002300) 1 (eI (l.map (·.1)))]), (8, .box [.sl (some 2002900) 1 (eI (l.map (·.2)))])], tk := [] }
theorem p59 {f : Frm} (hf : FNum f) {d : Int × Int} (hd : DOk d) {t : Thr} (ht : TOk t) {sg : Int} (hs : sg = 1 ∨ sg = -1) : R 59 [.agg (eX f d), .agg (eT t), I sg] = some (I (sizeOf3 f d t sg)) := by
  have hl := ht.len
  have hp := ht.pos
  have e0 := p86 (f := f) d t
  have Lr := rng_fold (f := roundE (evC2 R 1 b59_0a) (evC2 R 1 b59_0) [15, 16] b59_0w) (it := fun y => R 98 [.fn (.y y) [], .gref (eT t), .gref (eX f d)]) (σ0 := { fr := [(3, .box (eX f d)), (4, .box (eT t)), (5, .box [I sg]), (7, .box [.sl (some 2002300) 1 []]), (8, .box [.sl (some 2002900) 1 []]), (14, .fn (.f 98) [.gref (eT t), .gref (eX f d)])], tk := [] })
    (s := sSz f d t sg) (l0 := []) (W := fun k => [I (lf f t k), I (rt f t k)]) (h := fun k => [(-sg * lf f t k, sg * rt f t k)]) (xs := List.range t.1.length)
    (p98 hf d ht) (fun e => by have h0 := congrArg List.length e; rw [List.length_range, List.length_nil] at h0; omega) (fun k => by unfold sSz; simp (maxSteps := 2000000) (disch := first | omega | (simp; done) | (simp; omega)) [-getElem?_pos, b59_0a, b59_0w, eX, eF, eT]) (fun pre k suf e => by
      have hk : k < t.1.length := by
        have : k ∈ List.range t.1.length := by rw [e]; simp
        exact List.mem_range.1 this
      have hpre : pre.length ≤ 60 := by
        have := congrArg List.length e
        simp at this
        omega
      have hb := flank_bd hf ht hk
      have hll : ([] ++ pre.flatMap fun k => [(-sg * lf f t k, sg * rt f t k)]).length ≤ 60 := by
        have := len_flatMap (h := fun k => [(-sg * lf f t k, sg * rt f t k)]) (c := 1) (fun _ => by simp) pre
        rw [List.nil_append]; omega
      generalize ([] ++ pre.flatMap fun k => [(-sg * lf f t k, sg * rt f t k)]) = l at *
      generalize lf f t k = a at *
      generalize rt f t k = b at *
      have w1 := wrap64 (n := -sg) (by rcases hs with rfl | rfl <;> omega) (by rcases hs with rfl | rfl <;> omega)
      have w2 := wrap64 (n := -sg * a) (by rcases hs with rfl | rfl <;> omega) (by rcases hs with rfl | rfl <;> omega)
      have w3 := wrap64 (n := sg * b) (by rcases hs with rfl | rfl <;> omega) (by rcases hs with rfl | rfl <;> omega)
      unfold sSz
      cases l with
      | nil => simp (maxSteps := 2000000) (disch := first | omega | (simp; done) | (simp; omega)) [-getElem?_pos, b59_0a, b59_0, b59_0w, eX, eF, eT, w1, w2, w3]
      | cons x l =>
        simp only [List.length_cons] at hll
        have n1 : eI ((x :: l).map (·.1)) ≠ [] := by simp [eI]
        have n2 : eI ((x :: l).map (·.2)) ≠ [] := by simp [eI]
        have l1 : (eI ((x :: l).map (·.1))).length = l.length + 1 := by simp [eI]
        have l2 : (eI ((x :: l).map (·.2))).length = l.length + 1 := by simp [eI]
        have a1 : eI ((x :: l ++ [(-sg * a, sg * b)]).map (·.1)) = eI ((x :: l).map (·.1)) ++ [[I (-sg * a)]] := by simp [eI]
        have a2 : eI ((x :: l ++ [(-sg * a, sg * b)]).map (·.2)) = eI ((x :: l).map (·.2)) ++ [[I (sg * b)]] := by simp [eI]
        rw [a1, a2]
        generalize eI ((x :: l).map (·.1)) = p at *
        generalize eI ((x :: l).map (·.2)) = q at *
        simp (maxSteps := 2000000) (disch := first | omega | (simp; done) | (simp; omega)) [-getElem?_pos, b59_0a, b59_0, b59_0w, eX, eF, eT, w1, w2, w3, slT2_ne n1, slT2_ne n2, x_appo (hne := n1), x_appo (hne := n2), l1, l2])
  have hlist : ([] ++ (List.range t.1.length).flatMap fun k => [(-sg * lf f t k, sg * rt f t k)]) = (List.range t.1.length).map fun k => (-sg * lf f t k, sg * rt f t k) := by
    rw [List.nil_append]
    generalize List.range t.1.length = r
    induction r with
    | nil => rfl
    | cons x r ih => rw [List.flatMap_cons, ih]; rfl
  rw [hlist] at Lr
  unfold sSz at Lr
  rw [List.map_map, List.map_map] at Lr
  have hL : (List.range t.1.length).map ((·.1) ∘ fun k => (-sg * lf f t k, sg * rt f t k)) = lefts f t sg t.1.length := rfl
  have hR : (List.range t.1.length).map ((·.2) ∘ fun k => (-sg * lf f t k, sg * rt f t k)) = rights f t sg t.1.length := rfl
  rw [hL, hR] at Lr
  have h1 := hf.left
  have h2 := hf.right
  have h3 := ht.lean
  have e1 := p87 hd (b := sg * (f.left - t.2.1)) (by rcases hs with rfl | rfl <;> omega)
  have e2 := p87 hd (b := sg * (f.right - t.2.2)) (by rcases hs with rfl | rfl <;> omega)
  have m1 := mst_bd hd (b := sg * (f.left - t.2.1)) (by rcases hs with rfl | rfl <;> omega)
  have m2 := mst_bd hd (b := sg * (f.right - t.2.2)) (by rcases hs with rfl | rfl <;> omega)
  have n1 : (lefts f t sg t.1.length).length = t.1.length := by simp [lefts]
  have n2 : (rights f t sg t.1.length).length = t.1.length := by simp [rights]
  have e3 := p88 (l := lefts f t sg t.1.length) (fun e => by rw [e] at n1; simp at n1; omega) (by omega)
  have e4 := p88 (l := rights f t sg t.1.length) (fun e => by rw [e] at n2; simp at n2; omega) (by omega)
  have b1 := mx_bd (l := lefts f t sg t.1.length) (A := 100000000000) (by omega) fun x hx => by
    unfold lefts at hx
    obtain ⟨k, hk, rfl⟩ := List.mem_map.1 hx
    have := flank_bd hf ht (List.mem_range.1 hk)
    rcases hs with rfl | rfl <;> omega
  have b2 := mx_bd (l := rights f t sg t.1.length) (A := 100000000000) (by omega) fun x hx => by
    unfold rights at hx
    obtain ⟨k, hk, rfl⟩ := List.mem_map.1 hx
    have := flank_bd hf ht (List.mem_range.1 hk)
    rcases hs with rfl | rfl <;> omega
  unfold sizeOf3
  have w1 := wrap64 (n := f.left - t.2.1) (by omega) (by omega)
  have w2 := wrap64 (n := f.right - t.2.2) (by omega) (by omega)
  have w3 := wrap64 (n := sg * (f.left - t.2.1)) (by rcases hs with rfl | rfl <;> omega) (by rcases hs with rfl | rfl <;> omega)
  have w4 := wrap64 (n := sg * (f.right - t.2.2)) (by rcases hs with rfl | rfl <;> omega) (by rcases hs with rfl | rfl <;> omega)
  generalize mst d (sg * (f.left - t.2.1)) = y1 at *
  generalize mst d (sg * (f.right - t.2.2)) = y2 at *
  generalize hx1 : sg * (f.left - t.2.1) = x1 at *
  generalize hx2 : sg * (f.right - t.2.2) = x2 at *
  generalize mx (lefts f t sg t.1.length) = z1 at *
  generalize mx (rights f t sg t.1.length) = z2 at *
  generalize lefts f t sg t.1.length = ll at *
  generalize rights f t sg t.1.length = rl at *
  have hdw : ∀ A B' C D E F : V, dropL b59_0w [(3, A), (4, B'), (5, C), (7, D), (8, E), (14, F)] = [(3, A), (4, B'), (5, C), (7, D), (8, E), (14, F)] := fun _ _ _ _ _ _ => rfl
  have hd1 : ∀ (d k : Nat) (v : V) (t : List (Nat × V)), dropL [d] ((k, v) :: t) = if memN k [d] = true then dropL [d] t else (k, v) :: dropL [d] t := fun _ _ _ _ => rfl
  have hd2 : ∀ d : Nat, dropL [d] ([] : List (Nat × V)) = [] := fun _ => rfl
  simp [eX, eF, eT] at Lr e0
  clear hL hR hlist
  refine run2_body 1 rfl rfl rfl rfl rfl ?_
  simp (maxSteps := 2000000) (disch := first | omega | (simp; done) | (simp; omega)) [-getElem?_pos, -dropL, l59, eX, eF, eT, e0, e1, e2, e3, e4, hdw, hd1, hd2, Lr, w1, w2, w3, w4, hx1, hx2, wrap64]
end Go.Lo

/- Threads in small numbers. -/
namespace Go.Lo
open Go.Proofs
set_option linter.unusedSimpArgs false
set_option maxHeartbeats 8000000
structure Mad where
  p : Int
  l : Int
  r : Int
  off : List (Int × Int)
  lean : Int × Int
abbrev J (n : Int) : V := .int .i8 n
abbrev H (n : Int) : V := .int .u16 n
abbrev eOff (l : List (Int × Int)) : List (List V) := l.map fun x => [J x.1, J x.2]
abbrev eMad (m : Mad) : List V := [H m.p, H m.l, H m.r, S 2 (eOff m.off), J m.lean.1, J m.lean.2]
structure Mad.Ok (m : Mad) : Prop where
  p : 0 ≤ m.p ∧ m.p ≤ 65535
  l : 0 ≤ m.l ∧ m.l ≤ 65535
  r : 0 ≤ m.r ∧ m.r ≤ 65535
  off : ∀ x ∈ m.off, (-128 ≤ x.1 ∧ x.1 ≤ 127) ∧ (-128 ≤ x.2 ∧ x.2 ≤ 127)
  lean : (-128 ≤ m.lean.1 ∧ m.lean.1 ≤ 127) ∧ (-128 ≤ m.lean.2 ∧ m.lean.2 ≤ 127)
def madF (m : Mad) : Frm := ⟨2000 + m.p % 40000, 1 + m.l % 900, m.r % 900, 300, 300, 1, false, 0⟩
def madN (m : Mad) : Nat := max 1 (min 8 m.off.length)
theorem madF_num {m : Mad} (_h : m.Ok) : FNum (madF m) := by
  refine ⟨?_, ?_, ?_, ?_, ?_⟩ <;> simp only [madF] <;> omega
theorem p39 {m : Mad} (h : m.Ok) : R 39 [.agg (eMad m)] = some (.agg (eF (madF m))) := by
  have h1 := h.p
  have h2 := h.l
  have h3 := h.r
  have e1 := Int.tmod_eq_emod_of_nonneg (a := m.p) (b := 40000) (by omega)
  have e2 := Int.tmod_eq_emod_of_nonneg (a := m.l) (b := 900) (by omega)
  have e3 := Int.tmod_eq_emod_of_nonneg (a := m.r) (b := 900) (by omega)
  have w1 := wrap64 (n := m.p) (by omega) (by omega)
  have w2 := wrap64 (n := m.l) (by omega) (by omega)
  have w3 := wrap64 (n := m.r) (by omega) (by omega)
  have w4 := wrap64 (n := 2000 + m.p % 40000) (by omega) (by omega)
  have w5 := wrap64 (n := 1 + m.l % 900) (by omega) (by omega)
  unfold madF
  refine run2_body 1 rfl rfl rfl rfl rfl ?_
  simp (maxSteps := 2000000) (disch := first | omega | (simp; done) | (simp; omega)) [-getElem?_pos, l39, eMad, eF, e1, e2, e3, w1, w2, w3, w4, w5]
theorem p41 (m : Mad) : R 41 [.agg (eMad m)] = some (I (madN m)) := by
  refine run2_body 1 rfl rfl rfl rfl rfl ?_
  have e : ((madN m : Nat) : Int) = max 1 (min 8 (m.off.length : Int)) := by unfold madN; omega
  rw [e]
  simp (maxSteps := 2000000) (disch := first | omega | (simp; done) | (simp; omega)) [-getElem?_pos, -maxL, -minL, maxL2, minL2, l41, eMad]
def madD (a : Int × Int) : Int × Int := (min (20 * a.1) (20 * a.2), max (20 * a.1) (20 * a.2))
theorem madD_ok {a : Int × Int} (h : (-128 ≤ a.1 ∧ a.1 ≤ 127) ∧ (-128 ≤ a.2 ∧ a.2 ≤ 127)) : DOk (madD a) := by
  refine ⟨?_, ?_, ?_⟩ <;> simp only [madD] <;> omega
theorem p40 {a : Int × Int} (h : (-128 ≤ a.1 ∧ a.1 ≤ 127) ∧ (-128 ≤ a.2 ∧ a.2 ≤ 127)) : R 40 [.agg [J a.1, J a.2]] = some (eS (madD a)) := by
  have w1 := wrap64 (n := a.1) (by omega) (by omega)
  have w2 := wrap64 (n := a.2) (by omega) (by omega)
  have w3 := wrap64 (n := 20 * a.1) (by omega) (by omega)
  have w4 := wrap64 (n := 20 * a.2) (by omega) (by omega)
  unfold madD
  refine run2_body 1 rfl rfl rfl rfl rfl ?_
  simp (maxSteps := 2000000) (disch := first | omega | (simp; done) | (simp; omega)) [-getElem?_pos, -maxL, -minL, maxL2, minL2, l40, w1, w2, w3, w4]
theorem madF_bd {m : Mad} (_h : m.Ok) : (2000 ≤ (madF m).pitch ∧ (madF m).pitch ≤ 42000) ∧ (1 ≤ (madF m).left ∧ (madF m).left ≤ 900) ∧ (0 ≤ (madF m).right ∧ (madF m).right ≤ 900) := by
  simp only [madF]; omega
theorem frmB_made {m : Mad} (h : m.Ok) : frmB (madF m) = true := by
  obtain ⟨hP, hL, hR⟩ := madF_bd h
  unfold frmB frmN wid
  have e1 : (madF m).above = 300 := rfl
  have e2 : (madF m).below = 300 := rfl
  have e3 : (madF m).starts = 1 := rfl
  have e4 : (madF m).taper = 0 := rfl
  rw [e1, e2, e3, e4, Bool.and_eq_true, decide_eq_true_eq, decide_eq_true_eq]
  omega
end Go.Lo

/- Small numbers, as arguments. -/
namespace Go.Lo
open Go.Proofs
set_option linter.unusedSimpArgs false
abbrev arTy (n : Nat) (k : IntKind) : Ty := .arr n (.int k)
abbrev madTy : Ty := .st [.int .u16, .int .u16, .int .u16, .sl (arTy 2 .i8), arTy 2 .i8]
theorem can_k {k : IntKind} {x : List V} (h : HasC (.int k) x) : ∃ n, x = [.int k n] ∧ (Lit.int k n).wf = true := by
  simp only [HasC] at h
  exact h
theorem can_ar {k : IntKind} {n : Nat} {x : List V} (h : HasC (arTy n k) x) : ∃ xs : List Int, xs.length = n ∧ x = xs.map (fun x => .int k x) ∧ ∀ y ∈ xs, (Lit.int k y).wf = true := by
  obtain ⟨xs, h1, h2, h3⟩ := can_arr (v := .agg x) (k := k) (n := n) (by simp only [HasV]; exact ⟨x, rfl, h⟩)
  injection h2 with h2
  exact ⟨xs, h1, h2, h3⟩
theorem can_ar2 {k : IntKind} {x : List V} (h : HasC (arTy 2 k) x) : ∃ a b : Int, x = [.int k a, .int k b] ∧ (Lit.int k a).wf = true ∧ (Lit.int k b).wf = true := by
  obtain ⟨xs, h1, rfl, h3⟩ := can_ar h
  match xs, h1 with
  | [a, b], _ => exact ⟨a, b, rfl, h3 a (by simp), h3 b (by simp)⟩
theorem can_arV {k : IntKind} {n : Nat} {v : V} (h : HasV (arTy n k) v) : ∃ xs : List Int, xs.length = n ∧ v = .agg (xs.map fun x => .int k x) ∧ ∀ y ∈ xs, (Lit.int k y).wf = true := can_arr h
theorem can_arV2 {k : IntKind} {v : V} (h : HasV (arTy 2 k) v) : ∃ a b : Int, v = .agg [.int k a, .int k b] ∧ (Lit.int k a).wf = true ∧ (Lit.int k b).wf = true := by
  simp only [HasV] at h
  obtain ⟨cs, rfl, h⟩ := h
  obtain ⟨a, b, rfl, h1, h2⟩ := can_ar2 h
  exact ⟨a, b, rfl, h1, h2⟩
theorem can_mad {v : V} (h : HasV madTy v) : ∃ m : Mad, Rel (.agg (eMad m)) noT v ∧ m.Ok := by
  simp only [HasV] at h
  obtain ⟨cs, rfl, h⟩ := h
  obtain ⟨x1, r1, rfl, h1, h⟩ := h.inv
  obtain ⟨x2, r2, rfl, h2, h⟩ := h.inv
  obtain ⟨x3, r3, rfl, h3, h⟩ := h.inv
  obtain ⟨x4, r4, rfl, h4, h⟩ := h.inv
  obtain ⟨x5, r5, rfl, h5, h⟩ := h.inv
  rw [HasCs] at h
  subst h
  obtain ⟨p, rfl, wp⟩ := can_k h1
  obtain ⟨l, rfl, wl⟩ := can_k h2
  obtain ⟨r, rfl, wr⟩ := can_k h3
  obtain ⟨s, rfl⟩ := h4.sl1
  obtain ⟨a, b, rfl, wa, wb⟩ := can_ar2 h5
  obtain ⟨off, hl, hq⟩ := can_sl (E := fun x : Int × Int => [J x.1, J x.2]) (Q := fun x => (-128 ≤ x.1 ∧ x.1 ≤ 127) ∧ (-128 ≤ x.2 ∧ x.2 ≤ 127)) h4 fun x hx => by
    obtain ⟨a, b, rfl, wa, wb⟩ := can_ar2 hx
    exact ⟨(a, b), RelL.cons (rel_int _ _) (RelL.one (rel_int _ _)), wf_i8 wa, wf_i8 wb⟩
  refine ⟨⟨p, l, r, off, (a, b)⟩, ?_, ⟨wf_u16 wp, wf_u16 wl, wf_u16 wr, hq, wf_i8 wa, wf_i8 wb⟩⟩
  rw [Rel]
  refine ⟨_, rfl, RelL.cons (rel_int _ _) (RelL.cons (rel_int _ _) (RelL.cons (rel_int _ _) (RelL.cons ?_ (RelL.cons (rel_int _ _) (RelL.one (rel_int _ _))))))⟩
  exact hl
theorem rel_ar (k : IntKind) (xs : List Int) : Rel (.agg (xs.map fun x => .int k x)) noT (.agg (xs.map fun x => .int k x)) := rel_aggK k xs
end Go.Lo

/- Screw and Nut, by the program. -/
namespace Go.Lo
open Go.Proofs
set_option linter.unusedSimpArgs false
set_option maxHeartbeats 8000000
def opE (f : Frm) (d : Int × Int) (l : List Thr) : Int := if frmB f = true then chkAll d l else 2
abbrev x0 : List V := [I 0, I 0, I 0, I 0, I 0, I 0, B false, I 0, I 0, I 0]
def opX (f : Frm) (d : Int × Int) : List V := if frmB f = true then eX f d else x0
theorem p56 (f : Frm) (d : Int × Int) {l : List Thr} (hl : l.length ≤ 1000000) : R 56 [.agg (eF f), eS d, S 3 (l.map eT)] = some (.tup [.agg (opX f d), I (opE f d l)]) := by
  have e1 := p70 f
  have e2 := p65 d hl
  unfold opE opX
  generalize chkAll d l = c at *
  simp only [eF] at e1
  generalize l.map eT = es at *
  by_cases hb : frmB f = true
  · simp only [hb, if_true] at e1 ⊢
    refine run2_body 1 rfl rfl rfl rfl rfl ?_
    simp (maxSteps := 2000000) (disch := first | omega | (simp; done) | (simp; omega)) [-getElem?_pos, l56, eX, eF, e1, e2]
  · simp only [hb, if_false] at e1 ⊢
    refine run2_body 1 rfl rfl rfl rfl rfl ?_
    simp (maxSteps := 2000000) (disch := first | omega | (simp; done) | (simp; omega)) [-getElem?_pos, l56, eX, eF, e1, e2]
def scE (f : Frm) (d : Int × Int) (t : Thr) : Int := if opE f d [t] ≠ 0 then opE f d [t] else if f.left + f.right = 0 then 7 else 0
theorem opE_ok {f : Frm} {d : Int × Int} {t : Thr} (h : opE f d [t] = 0) : FNum f ∧ DOk d ∧ TOk t ∧ opX f d = eX f d := by
  unfold opE at h
  unfold opX
  split at h
  · rename_i hb
    obtain ⟨h1, h2⟩ := chkAll_one h
    refine ⟨frmN_num ?_, dOk_iff.1 h2, chkT_ok h1, if_pos hb⟩
    unfold frmB at hb
    simp only [Bool.and_eq_true] at hb
    exact hb.1
  · cases h
theorem opX_shape (f : Frm) (d : Int × Int) : ∃ a b c e g h i j k l, opX f d = [I a, I b, I c, I e, I g, I h, B i, I j, I k, I l] := by
  unfold opX
  split
  · exact ⟨_, _, _, _, _, _, _, _, _, _, rfl⟩
  · exact ⟨_, _, _, _, _, _, _, _, _, _, rfl⟩
def screwV (f : Frm) (d : Int × Int) (t : Thr) : Int := -(-(sizeOf3 f d t 1) / (4 * (f.left + f.right)))
def nutV (f : Frm) (d : Int × Int) (t : Thr) : Int := -(sizeOf3 f d t (-1)) / (4 * (f.left + f.right))
theorem p17 (f : Frm) (d : Int × Int) (t : Thr) : R 17 [.agg (eF f), .agg (eT t), eS d] = some (.tup [I (if scE f d t = 0 then screwV f d t else 0), I (scE f d t)]) := by
  have e1 := p56 f d (l := [t]) (by simp)
  by_cases h0 : opE f d [t] = 0
  · obtain ⟨hf, hd, ht, hx⟩ := opE_ok h0
    rw [h0, hx] at e1
    have hsc : scE f d t = if f.left + f.right = 0 then 7 else 0 := by unfold scE; rw [if_neg (fun h => h h0)]
    rw [hsc]
    have e2 := p57 hf d
    have h2 := hf.left
    have h3 := hf.right
    simp only [eF, eX, eT, List.map_cons, List.map_nil, List.cons_append, List.nil_append] at e1 e2
    by_cases hz : f.left + f.right = 0
    · rw [hz] at e2
      simp only [hz, if_true]
      rw [if_neg (by omega)]
      refine run2_body 1 rfl rfl rfl rfl rfl ?_
      simp (maxSteps := 2000000) (disch := first | omega | (simp; done) | (simp; omega)) [-getElem?_pos, l17, eT, eF, e1, e2]
    · simp only [if_neg hz, if_true]
      have hb := size_bd hf hd ht (sg := 1) (.inl rfl)
      have e3 := p59 hf hd ht (sg := 1) (.inl rfl)
      have e4 := p58 (n := sizeOf3 f d t 1) (k := 4 * (f.left + f.right)) (by omega) (by omega)
      unfold screwV
      generalize sizeOf3 f d t 1 = n at *
      have w1 := wrap64 (n := 4 * (f.left + f.right)) (by omega) (by omega)
      simp only [eX, eF, eT, List.cons_append, List.nil_append] at e3
      generalize -(-n / (4 * (f.left + f.right))) = q at *
      refine run2_body 1 rfl rfl rfl rfl rfl ?_
      simp (maxSteps := 2000000) (disch := first | omega | (simp; done) | (simp; omega)) [-getElem?_pos, l17, eT, eF, e1, e2, e3, e4, hz, w1]
  · have hsc : scE f d t = opE f d [t] := by unfold scE; rw [if_pos h0]
    rw [hsc, if_neg h0]
    obtain ⟨a, b, c, e, g, h, i, j, k, l, hx⟩ := opX_shape f d
    rw [hx] at e1
    generalize opE f d [t] = n at *
    simp only [eF, eT, List.map_cons, List.map_nil] at e1
    refine run2_body 1 rfl rfl rfl rfl rfl ?_
    simp (maxSteps := 2000000) (disch := first | omega | (simp; done) | (simp; omega)) [-getElem?_pos, l17, eT, eF, e1, h0]
theorem p18 (f : Frm) (d : Int × Int) (t : Thr) : R 18 [.agg (eF f), .agg (eT t), eS d] = some (.tup [I (if scE f d t = 0 then nutV f d t else 0), I (scE f d t)]) := by
  have e1 := p56 f d (l := [t]) (by simp)
  by_cases h0 : opE f d [t] = 0
  · obtain ⟨hf, hd, ht, hx⟩ := opE_ok h0
    rw [h0, hx] at e1
    have hsc : scE f d t = if f.left + f.right = 0 then 7 else 0 := by unfold scE; rw [if_neg (fun h => h h0)]
    rw [hsc]
    have e2 := p57 hf d
    have h2 := hf.left
    have h3 := hf.right
    simp only [eF, eX, eT, List.map_cons, List.map_nil, List.cons_append, List.nil_append] at e1 e2
    by_cases hz : f.left + f.right = 0
    · rw [hz] at e2
      simp only [hz, if_true]
      rw [if_neg (by omega)]
      refine run2_body 1 rfl rfl rfl rfl rfl ?_
      simp (maxSteps := 2000000) (disch := first | omega | (simp; done) | (simp; omega)) [-getElem?_pos, l18, eT, eF, e1, e2]
    · simp only [if_neg hz, if_true]
      have hb := size_bd hf hd ht (sg := -1) (.inr rfl)
      have e3 := p59 hf hd ht (sg := -1) (.inr rfl)
      have e4 := p60 (n := -sizeOf3 f d t (-1)) (k := 4 * (f.left + f.right)) (by omega) (by omega)
      unfold nutV
      generalize sizeOf3 f d t (-1) = n at *
      have w1 := wrap64 (n := 4 * (f.left + f.right)) (by omega) (by omega)
      have w2 := wrap64 (n := -n) (by omega) (by omega)
      simp only [eX, eF, eT, List.cons_append, List.nil_append] at e3
      generalize -n / (4 * (f.left + f.right)) = q at *
      refine run2_body 1 rfl rfl rfl rfl rfl ?_
      simp (maxSteps := 2000000) (disch := first | omega | (simp; done) | (simp; omega)) [-getElem?_pos, l18, eT, eF, e1, e2, e3, e4, hz, w1, w2]
  · have hsc : scE f d t = opE f d [t] := by unfold scE; rw [if_pos h0]
    rw [hsc, if_neg h0]
    obtain ⟨a, b, c, e, g, h, i, j, k, l, hx⟩ := opX_shape f d
    rw [hx] at e1
    generalize opE f d [t] = n at *
    simp only [eF, eT, List.map_cons, List.map_nil] at e1
    refine run2_body 1 rfl rfl rfl rfl rfl ?_
    simp (maxSteps := 2000000) (disch := first | omega | (simp; done) | (simp; omega)) [-getElem?_pos, l18, eT, eF, e1, h0]
end Go.Lo

/- Shift, by the program. -/
namespace Go.Lo
open Go.Proofs
set_option linter.unusedSimpArgs false
set_option maxHeartbeats 8000000
/-! ### Shift -/
def part (ts : List (Int × Int)) (at_ many : Nat) : List (Int × Int) := (ts.take (at_ + many)).drop at_
def placeB (s n : Thr) (tooth groove many : Int) : Bool := decide ((1 ≤ many ∧ many ≤ min (s.1.length : Int) n.1.length) ∧ (0 ≤ tooth ∧ tooth ≤ s.1.length - many) ∧ (0 ≤ groove ∧ groove ≤ n.1.length - many))
def partS (d : Int × Int) (s n : Thr) (tooth groove many : Nat) : Int × Int := shf (nds d s n (part s.1 tooth many) (part n.1 groove many))
def shiftE (d : Int × Int) (s n : Thr) (tooth groove many : Int) : (Int × Int) × Int :=
  if chkAll d [s, n] ≠ 0 then ((0, 0), chkAll d [s, n])
  else if placeB s n tooth groove many = false then ((0, 0), 7)
  else if (partS d s n tooth.toNat groove.toNat many.toNat).1 ≤ (partS d s n tooth.toNat groove.toNat many.toNat).2 then (partS d s n tooth.toNat groove.toNat many.toNat, 0) else ((0, 0), 9)
abbrev sE (x : (Int × Int) × Int) : V := .tup [eS x.1, I x.2]
theorem p25 (d : Int × Int) (s n : Thr) (tooth groove many : Int) : R 25 [.agg (eT s), .agg (eT n), I tooth, I groove, I many, eS d] = some (sE (shiftE d s n tooth groove many)) := by
  have e1 := p65 d (l := [s, n]) (by simp)
  unfold shiftE
  by_cases c0 : chkAll d [s, n] = 0
  · rw [if_neg (fun h => h c0)]
    obtain ⟨c1, c2, c3⟩ := chkAll_two c0
    have hs := chkT_ok c1
    have hn := chkT_ok c2
    have hd := dOk_iff.1 c3
    have ls := hs.len
    have ln := hn.len
    rw [c0] at e1
    have w1 := p55_1 1 (min (s.1.length : Int) n.1.length) many
    have w2 := p55_1 0 (s.1.length - many) tooth
    have w3 := p55_1 0 (n.1.length - many) groove
    simp only [eT, List.map_cons, List.map_nil] at e1
    unfold placeB
    by_cases k1 : 1 ≤ many ∧ many ≤ min (s.1.length : Int) n.1.length
    · by_cases k2 : 0 ≤ tooth ∧ tooth ≤ s.1.length - many
      · by_cases k3 : 0 ≤ groove ∧ groove ≤ n.1.length - many
        · obtain ⟨m, rfl⟩ : ∃ m : Nat, many = m := ⟨many.toNat, by omega⟩
          obtain ⟨t, rfl⟩ : ∃ t : Nat, tooth = t := ⟨tooth.toNat, by omega⟩
          obtain ⟨g, rfl⟩ : ∃ g : Nat, groove = g := ⟨groove.toNat, by omega⟩
          simp only [k1, k2, k3, and_self, decide_true] at w1 w2 w3
          simp only [k1, k2, k3, and_self, decide_true, Int.toNat_natCast, Bool.true_eq_false, if_false]
          have l1 : (part s.1 t m).length = m := by unfold part; simp; omega
          have l2 : (part n.1 g m).length = m := by unfold part; simp; omega
          have e2 := p66 hd hs hn (ts := part s.1 t m) (gs := part n.1 g m) (fun x hx => (hs.turn x (List.mem_of_mem_take (List.mem_of_mem_drop hx))).1) (fun x hx => (hn.turn x (List.mem_of_mem_take (List.mem_of_mem_drop hx))).1) (by omega) (by omega)
          unfold partS
          generalize shf (nds d s n (part s.1 t m) (part n.1 g m)) = z at *
          simp only [eT, List.cons_append, List.nil_append, part, List.map_take, List.map_drop] at e2
          have q1 : ((t : Int) + m).toNat = t + m := by omega
          have q2 : ((g : Int) + m).toNat = g + m := by omega
          refine run2_body 1 rfl rfl rfl rfl rfl ?_
          by_cases hz : z.1 ≤ z.2 <;> simp (maxSteps := 2000000) (disch := first | omega | (simp; done) | (simp; omega)) [-getElem?_pos, -maxL, -minL, minL2, l25, eT, e1, e2, w1, w2, w3, q1, q2, hz, wrap64]
        · simp only [k1, k2, k3, and_self, decide_true, decide_false] at w1 w2 w3
          refine run2_body 1 rfl rfl rfl rfl rfl ?_
          simp (maxSteps := 2000000) (disch := first | omega | (simp; done) | (simp; omega)) [-getElem?_pos, -maxL, -minL, minL2, l25, eT, e1, w1, w2, w3, k1, k2, k3, wrap64]
      · simp only [k1, k2, and_self, decide_true, decide_false] at w1 w2
        refine run2_body 1 rfl rfl rfl rfl rfl ?_
        simp (maxSteps := 2000000) (disch := first | omega | (simp; done) | (simp; omega)) [-getElem?_pos, -maxL, -minL, minL2, l25, eT, e1, w1, w2, k1, k2, wrap64]
    · simp only [k1, decide_false] at w1
      refine run2_body 1 rfl rfl rfl rfl rfl ?_
      simp (maxSteps := 2000000) (disch := first | omega | (simp; done) | (simp; omega)) [-getElem?_pos, -maxL, -minL, minL2, l25, eT, e1, w1, k1, wrap64]
  · rw [if_pos c0]
    generalize chkAll d [s, n] = c at *
    simp only [eT, List.map_cons, List.map_nil] at e1
    refine run2_body 1 rfl rfl rfl rfl rfl ?_
    simp (maxSteps := 2000000) (disch := first | omega | (simp; done) | (simp; omega)) [-getElem?_pos, l25, eT, e1, c0]
end Go.Lo

/- Cost, by the program. -/
namespace Go.Lo
open Go.Proofs
set_option linter.unusedSimpArgs false
set_option maxHeartbeats 8000000
structure Rul where
  step : Int × Int
  thick : Int × Int
  left : Int × Int
  right : Int × Int
abbrev eRu (r : Rul) : List V := [I r.step.1, I r.step.2, I r.thick.1, I r.thick.2, I r.left.1, I r.left.2, I r.right.1, I r.right.2]
structure RNum (r : Rul) : Prop where
  step : -1000 ≤ r.step.1 ∧ r.step.1 ≤ r.step.2 ∧ r.step.2 ≤ 1000
  thick : 0 ≤ r.thick.1 ∧ r.thick.1 ≤ r.thick.2 ∧ r.thick.2 ≤ 200000
  left : 0 ≤ r.left.1 ∧ r.left.1 ≤ r.left.2 ∧ r.left.2 ≤ 3000
  right : 0 ≤ r.right.1 ∧ r.right.1 ≤ r.right.2 ∧ r.right.2 ≤ 3000
def spB (s : Int × Int) (lo hi : Int) : Bool := decide (lo ≤ s.1 ∧ s.1 ≤ s.2 ∧ s.2 ≤ hi)
def rulB (r : Rul) : Bool := spB r.step (-1000) 1000 && spB r.thick 0 200000 && spB r.left 0 3000 && spB r.right 0 3000
theorem rulB_num {r : Rul} (h : rulB r = true) : RNum r := by
  unfold rulB spB at h
  simp only [Bool.and_eq_true, decide_eq_true_eq] at h
  exact ⟨h.1.1.1, h.1.1.2, h.1.2, h.2⟩
theorem p76 (r : Rul) : R 76 [.agg (eRu r)] = some (B (rulB r)) := by
  have e1 : R 94 [eS r.step, I (-1000), I 1000] = some (B (spB r.step (-1000) 1000)) := p94 r.step (-1000) 1000
  have e2 : R 94 [eS r.thick, I 0, I 200000] = some (B (spB r.thick 0 200000)) := p94 r.thick 0 200000
  have e3 : R 94 [eS r.left, I 0, I 3000] = some (B (spB r.left 0 3000)) := p94 r.left 0 3000
  have e4 : R 94 [eS r.right, I 0, I 3000] = some (B (spB r.right 0 3000)) := p94 r.right 0 3000
  unfold rulB
  generalize spB r.step (-1000) 1000 = b1 at *
  generalize spB r.thick 0 200000 = b2 at *
  generalize spB r.left 0 3000 = b3 at *
  generalize spB r.right 0 3000 = b4 at *
  refine run2_body 1 rfl rfl rfl rfl rfl ?_
  cases b1
  · simp (maxSteps := 2000000) (disch := first | omega | (simp; done) | (simp; omega)) [-getElem?_pos, l76, eRu, e1]
  · cases b2
    · simp (maxSteps := 2000000) (disch := first | omega | (simp; done) | (simp; omega)) [-getElem?_pos, l76, eRu, e1, e2]
    · cases b3 <;> simp (maxSteps := 2000000) (disch := first | omega | (simp; done) | (simp; omega)) [-getElem?_pos, l76, eRu, e1, e2, e3, e4]
/-- The integer of a span that is nearest to another one. -/
def near1 (s : Int × Int) (to : Int) : Int := min (max to s.1) s.2
def endAt (s : Int × Int) (to : Int) (k : Nat) : Int := if k = 0 then s.1 else if k = 1 then s.2 else near1 s to
theorem endAt_in {s : Int × Int} (h : s.1 ≤ s.2) (to : Int) (k : Nat) : s.1 ≤ endAt s to k ∧ endAt s to k ≤ s.2 := by
  unfold endAt near1
  split
  · omega
  · split <;> omega
theorem p95_3 (a b c : Int) : R 95 [S 1 [[I a], [I b], [I c]]] = some (I (min (min a b) c)) := by
  have L : iter (evC2 R 4 b95_0) 4 { fr := [(0, S 1 [[I a], [I b], [I c]]), (3, I a), (4, I 1)], tk := [] } = some (.exit 0, { fr := [(0, S 1 [[I a], [I b], [I c]]), (3, I (min (min a b) c)), (4, I 3), (15, B false)], tk := [] }) := by
    rw [iter_succ]
    simp (maxSteps := 2000000) (disch := first | omega | (simp; done) | (simp; omega)) [-getElem?_pos, -minL, minL2, b95_0, wrap64]
    rw [iter_succ]
    simp (maxSteps := 2000000) (disch := first | omega | (simp; done) | (simp; omega)) [-getElem?_pos, -minL, minL2, b95_0, wrap64]
    rw [iter_succ]
    simp (maxSteps := 2000000) (disch := first | omega | (simp; done) | (simp; omega)) [-getElem?_pos, -minL, minL2, b95_0, wrap64]
  refine run2_body 4 rfl rfl rfl rfl rfl ?_
  simp (maxSteps := 2000000) (disch := first | omega | (simp; done) | (simp; omega)) [-getElem?_pos, l95, L]
/-- By how much a flank sticks out at least and at most. -/
def lng (d : Int × Int) (lean : Int) (s : Int × Int) : Int × Int :=
  (min (min (mst d (lean - s.1)) (mst d (lean - s.2))) (mst d (lean - near1 s lean)), max (max (mst d (lean - s.1)) (mst d (lean - s.2))) (mst d (lean - near1 s lean)))
theorem p77 {d : Int × Int} (hd : DOk d) {lean : Int} (hl : 0 ≤ lean ∧ lean ≤ 3000) {s : Int × Int} (hs : 0 ≤ s.1 ∧ s.1 ≤ s.2 ∧ s.2 ≤ 3000) : R 77 [eS d, I lean, eS s] = some (eS (lng d lean s)) := by
  have hn : 0 ≤ near1 s lean ∧ near1 s lean ≤ 3000 := by unfold near1; omega
  have e1 := p87 hd (b := lean - s.1) (by omega)
  have e2 := p87 hd (b := lean - s.2) (by omega)
  have e3 := p87 hd (b := lean - near1 s lean) (by omega)
  unfold lng
  have m1 := p95_3 (mst d (lean - s.1)) (mst d (lean - s.2)) (mst d (lean - near1 s lean))
  have m2 : R 88 [S 1 [[I (mst d (lean - s.1))], [I (mst d (lean - s.2))], [I (mst d (lean - near1 s lean))]]] = some (I (max (max (mst d (lean - s.1)) (mst d (lean - s.2))) (mst d (lean - near1 s lean)))) := p88 (l := [mst d (lean - s.1), mst d (lean - s.2), mst d (lean - near1 s lean)]) (by simp) (by simp)
  generalize mst d (lean - s.1) = x1 at *
  generalize mst d (lean - s.2) = x2 at *
  generalize mst d (lean - near1 s lean) = x3 at *
  have hnear : min (max lean s.1) s.2 = near1 s lean := rfl
  generalize near1 s lean = nr at *
  generalize min (min x1 x2) x3 = u1 at *
  generalize max (max x1 x2) x3 = u2 at *
  have L : iter (evC2 R 4 b77_0) 4 { fr := [(1, I lean), (3, .box [I d.1, I d.2]), (6, .box [I 0, I 0]), (7, .sl (some 2003200) 1 []), (21, .agg [I s.1, I s.2, I nr]), (22, I 0)], tk := [] } = some (.exit 0, { fr := [(1, I lean), (3, .box [I d.1, I d.2]), (6, .box [I 0, I 0]), (7, .sl (some 2003200) 1 [[I x1], [I x2], [I x3]]), (21, .agg [I s.1, I s.2, I nr]), (22, I 3), (23, B false)], tk := [] }) := by
    rw [iter_succ]
    simp (maxSteps := 2000000) (disch := first | omega | (simp; done) | (simp; omega)) [-getElem?_pos, b77_0, e1, wrap64]
    rw [iter_succ]
    simp (maxSteps := 2000000) (disch := first | omega | (simp; done) | (simp; omega)) [-getElem?_pos, b77_0, e2, wrap64]
    rw [iter_succ]
    simp (maxSteps := 2000000) (disch := first | omega | (simp; done) | (simp; omega)) [-getElem?_pos, b77_0, e3, wrap64]
    rw [iter_succ]
    simp (maxSteps := 2000000) (disch := first | omega | (simp; done) | (simp; omega)) [-getElem?_pos, b77_0, wrap64]
  refine run2_body 4 rfl rfl rfl rfl rfl ?_
  simp (maxSteps := 2000000) (disch := first | omega | (simp; done) | (simp; omega)) [-getElem?_pos, -maxL, -minL, maxL2, minL2, l77, hnear, L, m1, m2]
def drf (s : Int × Int) (n : Int) : Int × Int := (n * max 0 (max s.1 (-s.2)), n * max 0 (max s.2 (-s.1)))
theorem drf_bd {s : Int × Int} (hs : -1000 ≤ s.1 ∧ s.1 ≤ s.2 ∧ s.2 ≤ 1000) {n : Int} (hn : 0 ≤ n ∧ n ≤ 60) : (0 ≤ (drf s n).1 ∧ (drf s n).1 ≤ 60000) ∧ (0 ≤ (drf s n).2 ∧ (drf s n).2 ≤ 60000) := by
  unfold drf
  have m1 := abs_mul (a := n) (b := max 0 (max s.1 (-s.2))) (A := 60) (C := 1000) (by omega) (by omega)
  have m2 := abs_mul (a := n) (b := max 0 (max s.2 (-s.1))) (A := 60) (C := 1000) (by omega) (by omega)
  have p1 : 0 ≤ n * max 0 (max s.1 (-s.2)) := Int.mul_nonneg (by omega) (by omega)
  have p2 : 0 ≤ n * max 0 (max s.2 (-s.1)) := Int.mul_nonneg (by omega) (by omega)
  omega
theorem p78 {s : Int × Int} (hs : -1000 ≤ s.1 ∧ s.1 ≤ s.2 ∧ s.2 ≤ 1000) {n : Int} (hn : 0 ≤ n ∧ n ≤ 60) : R 78 [eS s, I n] = some (eS (drf s n)) := by
  have hb := drf_bd hs hn
  unfold drf at hb ⊢
  simp only at hb
  have w1 := wrap64 (n := n * max 0 (max s.1 (-s.2))) (by omega) (by omega)
  have w2 := wrap64 (n := n * max 0 (max s.2 (-s.1))) (by omega) (by omega)
  generalize hz1 : n * max 0 (max s.1 (-s.2)) = z1 at *
  generalize hz2 : n * max 0 (max s.2 (-s.1)) = z2 at *
  have v1 := wrap64 (n := -s.1) (by omega) (by omega)
  have v2 := wrap64 (n := -s.2) (by omega) (by omega)
  refine run2_body 1 rfl rfl rfl rfl rfl ?_
  simp (maxSteps := 2000000) (disch := first | omega | (simp; done) | (simp; omega)) [-getElem?_pos, -maxL, -minL, maxL2, minL2, maxL3, l78, w1, w2, hz1, hz2, v1, v2]
def costX (f : Frm) (d : Int × Int) (r : Rul) (n : Int) (pr : Int × Int → Int) : Int := 2000 * (pr r.thick + pr (drf r.step (n - 1))) - 1000 * f.pitch + 2 * (pr (lng d f.left r.left) + pr (lng d f.right r.right))
def costV (f : Frm) (d : Int × Int) (r : Rul) (n : Int) : Int × Int := (-(-costX f d r n (·.1) / (2 * (f.left + f.right))), -(-costX f d r n (·.2) / (2 * (f.left + f.right))))
theorem p80 (s : Int × Int) : R 80 [eS s] = some (I s.1) := by
  refine run2_body 1 rfl rfl rfl rfl rfl ?_
  simp (maxSteps := 2000000) (disch := first | omega | (simp; done) | (simp; omega)) [-getElem?_pos, l80]
theorem p81 (s : Int × Int) : R 81 [eS s] = some (I s.2) := by
  refine run2_body 1 rfl rfl rfl rfl rfl ?_
  simp (maxSteps := 2000000) (disch := first | omega | (simp; done) | (simp; omega)) [-getElem?_pos, l81]
theorem p79 {g : Nat} {pr : Int × Int → Int} (hg : ∀ s, R g [eS s] = some (I (pr s))) {f : Frm} (hf : FNum f) (hz : ¬ f.left + f.right = 0) (d : Int × Int) (r : Rul) {a l q : Int × Int}
    (bt : -1000000 ≤ pr r.thick ∧ pr r.thick ≤ 1000000) (ba : -1000000 ≤ pr a ∧ pr a ≤ 1000000) (bl : -1000000000 ≤ pr l ∧ pr l ≤ 1000000000) (bq : -1000000000 ≤ pr q ∧ pr q ≤ 1000000000) :
    R 79 [.fn (.f g) [], .cref (eRu r), .cref [I a.1, I a.2], .cref (eF f), .cref [I l.1, I l.2], .cref [I q.1, I q.2], .cref (eX f d)] = some (I (-(-(2000 * (pr r.thick + pr a) - 1000 * f.pitch + 2 * (pr l + pr q)) / (2 * (f.left + f.right))))) := by
  have h1 := hf.pitch
  have h2 := hf.left
  have h3 := hf.right
  have e1 := hg r.thick
  have e2 := hg a
  have e3 := hg l
  have e4 := hg q
  have e5 := p57 hf d
  have e6 := p58 (n := 2000 * (pr r.thick + pr a) - 1000 * f.pitch + 2 * (pr l + pr q)) (k := 2 * (f.left + f.right)) (by omega) (by omega)
  generalize pr r.thick = y1 at *
  generalize pr a = y2 at *
  generalize pr l = y3 at *
  generalize pr q = y4 at *
  generalize -(-(2000 * (y1 + y2) - 1000 * f.pitch + 2 * (y3 + y4)) / (2 * (f.left + f.right))) = z at *
  simp only [eX, eF, List.cons_append, List.nil_append] at e5 ⊢
  clear hg
  refine run2_body 1 rfl rfl rfl rfl rfl ?_
  simp (maxSteps := 2000000) (disch := first | omega | (simp; done) | (simp; omega)) [-getElem?_pos, l79, eRu, e1, e2, e3, e4, e5, e6, wrap64]
def costE (f : Frm) (d : Int × Int) (r : Rul) (n : Int) : (Int × Int) × Int :=
  if frmB f = false then ((0, 0), 2) else if ¬ (1 ≤ n ∧ n ≤ 60) then ((0, 0), 3) else if rulB r = false then ((0, 0), 2) else if dOk d = false then ((0, 0), 3) else if f.left + f.right = 0 then ((0, 0), 7) else (costV f d r n, 0)
theorem lng_bd {d : Int × Int} (hd : DOk d) {lean : Int} (hl : 0 ≤ lean ∧ lean ≤ 3000) {s : Int × Int} (hs : 0 ≤ s.1 ∧ s.1 ≤ s.2 ∧ s.2 ≤ 3000) : (-600000000 ≤ (lng d lean s).1 ∧ (lng d lean s).1 ≤ 600000000) ∧ (-600000000 ≤ (lng d lean s).2 ∧ (lng d lean s).2 ≤ 600000000) := by
  have hn : 0 ≤ near1 s lean ∧ near1 s lean ≤ 3000 := by unfold near1; omega
  have m1 := mst_bd hd (b := lean - s.1) (by omega)
  have m2 := mst_bd hd (b := lean - s.2) (by omega)
  have m3 := mst_bd hd (b := lean - near1 s lean) (by omega)
  unfold lng
  simp only
  omega
theorem p35 (f : Frm) (d : Int × Int) (r : Rul) (n : Int) : R 35 [.agg (eF f), .agg (eRu r), I n, eS d] = some (sE (costE f d r n)) := by
  have e1 := p70 f
  have e2 := p55_1 1 60 n
  have e3 := p76 r
  have e4 := p71 d
  unfold costE
  by_cases c1 : frmB f = true
  · have hf : FNum f := frmN_num (by unfold frmB at c1; simp only [Bool.and_eq_true] at c1; exact c1.1)
    simp only [c1, if_true] at e1
    rw [if_neg (by simp [c1])]
    by_cases c2 : 1 ≤ n ∧ n ≤ 60
    · simp only [c2, and_self, decide_true] at e2
      rw [if_neg (fun h => h c2)]
      by_cases c3 : rulB r = true
      · rw [c3] at e3
        rw [if_neg (by simp [c3])]
        have hr := rulB_num c3
        by_cases c4 : dOk d = true
        · have hd := dOk_iff.1 c4
          simp only [c4, if_true] at e4
          rw [if_neg (by simp [c4])]
          have e5 := p57 hf d
          have h2 := hf.left
          have h3 := hf.right
          by_cases hz : f.left + f.right = 0
          · rw [if_pos hz]
            rw [hz] at e5
            simp only [eF, eX, eRu, List.cons_append, List.nil_append] at e1 e3 e5 ⊢
            refine run2_body 1 rfl rfl rfl rfl rfl ?_
            simp (maxSteps := 2000000) (disch := first | omega | (simp; done) | (simp; omega)) [-getElem?_pos, l35, e1, e2, e3, e4, e5, c2]
          · rw [if_neg hz]
            have e6 := p77 hd (lean := f.left) (by omega) hr.left
            have e7 := p77 hd (lean := f.right) (by omega) hr.right
            have e8 := p78 hr.step (n := n - 1) (by omega)
            have bl := lng_bd hd (lean := f.left) (by omega) hr.left
            have br := lng_bd hd (lean := f.right) (by omega) hr.right
            have ba := drf_bd hr.step (n := n - 1) (by omega)
            have ht := hr.thick
            have g1 := p79 (g := 80) (pr := (·.1)) p80 hf hz d r (a := drf r.step (n - 1)) (l := lng d f.left r.left) (q := lng d f.right r.right) (by omega) (by omega) (by omega) (by omega)
            have g2 := p79 (g := 81) (pr := (·.2)) p81 hf hz d r (a := drf r.step (n - 1)) (l := lng d f.left r.left) (q := lng d f.right r.right) (by omega) (by omega) (by omega) (by omega)
            unfold costV costX
            generalize lng d f.left r.left = ll at *
            generalize lng d f.right r.right = lr at *
            generalize drf r.step (n - 1) = ap at *
            simp only at g1 g2 ⊢
            generalize -(-(2000 * (r.thick.1 + ap.1) - 1000 * f.pitch + 2 * (ll.1 + lr.1)) / (2 * (f.left + f.right))) = z1 at *
            generalize -(-(2000 * (r.thick.2 + ap.2) - 1000 * f.pitch + 2 * (ll.2 + lr.2)) / (2 * (f.left + f.right))) = z2 at *
            have w := wrap64 (n := n - 1) (by omega) (by omega)
            simp only [eF, eX, eRu, List.cons_append, List.nil_append] at e1 e3 e5 g1 g2 ⊢
            refine run2_body 1 rfl rfl rfl rfl rfl ?_
            simp (maxSteps := 2000000) (disch := first | omega | (simp; done) | (simp; omega)) [-getElem?_pos, l35, e1, e2, e3, e4, e5, e6, e7, e8, g1, g2, w, c2, hz]
        · simp only [c4, if_false] at e4
          rw [if_pos (by simpa using c4)]
          simp only [eF, eRu] at e1 e3 ⊢
          refine run2_body 1 rfl rfl rfl rfl rfl ?_
          simp (maxSteps := 2000000) (disch := first | omega | (simp; done) | (simp; omega)) [-getElem?_pos, l35, e1, e2, e3, e4, c2]
      · have c3' : rulB r = false := by simpa using c3
        rw [c3'] at e3
        rw [if_pos c3']
        simp only [eF, eRu] at e1 e3 ⊢
        refine run2_body 1 rfl rfl rfl rfl rfl ?_
        simp (maxSteps := 2000000) (disch := first | omega | (simp; done) | (simp; omega)) [-getElem?_pos, l35, e1, e2, e3, c2]
    · simp only [c2, decide_false] at e2
      rw [if_pos c2]
      simp only [eF, eRu] at e1 ⊢
      refine run2_body 1 rfl rfl rfl rfl rfl ?_
      simp (maxSteps := 2000000) (disch := first | omega | (simp; done) | (simp; omega)) [-getElem?_pos, l35, e1, e2, c2]
  · simp only [c1, if_false] at e1
    rw [if_pos (by simpa using c1)]
    simp only [eF, eRu] at e1 ⊢
    refine run2_body 1 rfl rfl rfl rfl rfl ?_
    simp (maxSteps := 2000000) (disch := first | omega | (simp; done) | (simp; omega)) [-getElem?_pos, l35, e1]
end Go.Lo

/- Cost: the plain law. -/
namespace Go.Lo
open Go.Proofs
set_option linter.unusedSimpArgs false
set_option maxHeartbeats 8000000
theorem le_mx0 : ∀ {l : List Int} {x : Int}, x ∈ l → x ≤ mx l := by
  have key : ∀ (l : List Int) (a : Int), a ≤ l.foldl max a ∧ ∀ x ∈ l, x ≤ l.foldl max a := by
    intro l
    induction l with
    | nil => intro a; simp
    | cons y l ih =>
      intro a
      obtain ⟨h1, h2⟩ := ih (max a y)
      refine ⟨by simp only [List.foldl_cons]; omega, fun x hx => ?_⟩
      simp only [List.foldl_cons]
      rcases List.mem_cons.1 hx with rfl | hx
      · omega
      · exact h2 x hx
  intro l x hx
  cases l with
  | nil => cases hx
  | cons y l =>
    have := key l y
    rcases List.mem_cons.1 hx with rfl | hx
    · exact this.1
    · exact this.2 x hx
/-- Where the teeth of a screw are that is tried. -/
def posC (f : Frm) (r : Rul) (rest : Nat) : Nat → Int
  | 0 => 0
  | i + 1 => posC f r rest i + (f.pitch + endAt r.step 0 (rest / 3 ^ i % 3))
def teethC (f : Frm) (r : Rul) (th : Int) (rest n : Nat) : List (Int × Int) := (List.range n).map fun j => (posC f r rest j, posC f r rest j + th)
def candT (f : Frm) (r : Rul) (n k : Nat) : Thr := (teethC f r (endAt r.thick 0 (k / 9 % 3)) (k / 27) n, endAt r.left f.left (k % 3), endAt r.right f.right (k / 3 % 3))
/-- How far a tooth is from where it should be. -/
def dev (f : Frm) (r : Rul) (rest i : Nat) : Int := posC f r rest i - i * f.pitch
theorem dev_succ (f : Frm) (r : Rul) (rest i : Nat) : dev f r rest (i + 1) = dev f r rest i + endAt r.step 0 (rest / 3 ^ i % 3) := by
  have hp : posC f r rest (i + 1) = posC f r rest i + (f.pitch + endAt r.step 0 (rest / 3 ^ i % 3)) := rfl
  unfold dev
  rw [hp, show ((i + 1 : Nat) : Int) = (i : Int) + 1 by omega, Int.add_mul, Int.one_mul]
  omega
theorem dev_zero (f : Frm) (r : Rul) (rest : Nat) : dev f r rest 0 = 0 := by simp [dev, posC]
theorem dev_diff {f : Frm} {r : Rul} (hr : r.step.1 ≤ r.step.2) (rest i : Nat) : ∀ k : Nat, (k : Int) * r.step.1 ≤ dev f r rest (i + k) - dev f r rest i ∧ dev f r rest (i + k) - dev f r rest i ≤ (k : Int) * r.step.2
  | 0 => by simp
  | k + 1 => by
    have h := dev_diff (f := f) hr rest i k
    have h2 := endAt_in hr 0 (rest / 3 ^ (i + k) % 3)
    rw [← Nat.add_assoc, dev_succ, show ((k + 1 : Nat) : Int) = (k : Int) + 1 by omega, Int.add_mul, Int.add_mul, Int.one_mul, Int.one_mul]
    omega
theorem posC_bd {f : Frm} (hf : FNum f) {r : Rul} (hr : RNum r) (rest : Nat) : ∀ i : Nat, -(201000 * (i : Int)) ≤ posC f r rest i ∧ posC f r rest i ≤ 201000 * (i : Int)
  | 0 => by simp [posC]
  | i + 1 => by
    have h := posC_bd hf hr rest i
    have h1 := hf.pitch
    have h2 := hr.step
    have h3 := endAt_in h2.2.1 0 (rest / 3 ^ i % 3)
    unfold posC
    omega
theorem candT_ok {f : Frm} (hf : FNum f) {r : Rul} (hr : RNum r) {n : Nat} (hn : 1 ≤ n ∧ n ≤ 9) (k : Nat) : TOk (candT f r n k) := by
  have h1 := hr.left
  have h2 := hr.right
  have h3 := hr.thick
  have e1 := endAt_in h1.2.1 f.left (k % 3)
  have e2 := endAt_in h2.2.1 f.right (k / 3 % 3)
  have e3 := endAt_in h3.2.1 0 (k / 9 % 3)
  refine ⟨?_, ?_, ?_, ?_⟩
  · simp [candT, teethC]; omega
  · simp [candT, teethC]; omega
  · unfold candT lean1; simp only; omega
  · intro x hx
    simp only [candT, teethC] at hx
    obtain ⟨j, hj, rfl⟩ := List.mem_map.1 hx
    have hj := List.mem_range.1 hj
    have := posC_bd hf hr (k / 27) j
    unfold far1
    simp only
    omega
theorem candT_turn {f : Frm} {r : Rul} {n k j : Nat} (hj : j < n) : turn (candT f r n k).1 j = (posC f r (k / 27) j, posC f r (k / 27) j + endAt r.thick 0 (k / 9 % 3)) := by
  have hl : (candT f r n k).1.length = n := by simp [candT, teethC]
  have h1 : (candT f r n k).1[j]? = some (posC f r (k / 27) j, posC f r (k / 27) j + endAt r.thick 0 (k / 9 % 3)) := by simp [candT, teethC, hj]
  have h2 := turn_get (ts := (candT f r n k).1) (i := j) (by omega)
  rw [h1] at h2
  injection h2 with h2
  exact h2.symm
theorem candT_lf {f : Frm} {r : Rul} {n k j : Nat} (hj : j < n) : lf f (candT f r n k) j = 1000 * (4 * dev f r (k / 27) j + f.pitch) := by
  unfold lf
  rw [candT_turn hj]
  unfold dev
  simp only
  rw [Int.mul_assoc 4 (j : Int)]
  omega
theorem candT_rt {f : Frm} {r : Rul} {n k j : Nat} (hj : j < n) : rt f (candT f r n k) j = 1000 * (4 * dev f r (k / 27) j + 4 * endAt r.thick 0 (k / 9 % 3) - f.pitch) := by
  unfold rt
  rw [candT_turn hj]
  unfold dev
  simp only
  rw [Int.mul_assoc 4 (j : Int)]
  omega
theorem mx_mem : ∀ {l : List Int}, l ≠ [] → mx l ∈ l := by
  have key : ∀ (l : List Int) (a : Int), l.foldl max a = a ∨ l.foldl max a ∈ l := by
    intro l
    induction l with
    | nil => intro a; exact .inl rfl
    | cons y l ih =>
      intro a
      simp only [List.foldl_cons]
      rcases ih (max a y) with h | h
      · by_cases hm : a ≤ y
        · right; rw [h, show max a y = y by omega]; simp
        · left; rw [h]; omega
      · right; simp [h]
  intro l h
  cases l with
  | nil => exact absurd rfl h
  | cons x l =>
    rcases key l x with h | h
    · show l.foldl max x ∈ x :: l
      rw [h]; simp
    · show l.foldl max x ∈ x :: l
      simp [h]
/-- What leans add. -/
def outL (f : Frm) (d : Int × Int) (r : Rul) (k : Nat) : Int := mst d (f.left - endAt r.left f.left (k % 3)) + mst d (f.right - endAt r.right f.right (k / 3 % 3))
theorem cand_size {f : Frm} {d : Int × Int} {r : Rul} {n k : Nat} (hn : 0 < n) :
    (∀ i j, i < n → j < n → 4000 * (dev f r (k / 27) j - dev f r (k / 27) i + endAt r.thick 0 (k / 9 % 3)) - 2000 * f.pitch + 4 * outL f d r k ≤ sizeOf3 f d (candT f r n k) 1) ∧
    (∃ i j, i < n ∧ j < n ∧ sizeOf3 f d (candT f r n k) 1 = 4000 * (dev f r (k / 27) j - dev f r (k / 27) i + endAt r.thick 0 (k / 9 % 3)) - 2000 * f.pitch + 4 * outL f d r k) := by
  have hl : (candT f r n k).1.length = n := by simp [candT, teethC]
  have s1 : (candT f r n k).2.1 = endAt r.left f.left (k % 3) := rfl
  have s2 : (candT f r n k).2.2 = endAt r.right f.right (k / 3 % 3) := rfl
  unfold sizeOf3 outL
  rw [hl, s1, s2, Int.one_mul, Int.one_mul]
  generalize mst d (f.left - endAt r.left f.left (k % 3)) = a
  generalize mst d (f.right - endAt r.right f.right (k / 3 % 3)) = b
  constructor
  · intro i j hi hj
    have a1 := le_mx0 (l := lefts f (candT f r n k) 1 n) (x := -1 * lf f (candT f r n k) i) (List.mem_map.2 ⟨i, List.mem_range.2 hi, rfl⟩)
    have a2 := le_mx0 (l := rights f (candT f r n k) 1 n) (x := 1 * rt f (candT f r n k) j) (List.mem_map.2 ⟨j, List.mem_range.2 hj, rfl⟩)
    rw [candT_lf hi] at a1
    rw [candT_rt hj] at a2
    omega
  · have n1 : lefts f (candT f r n k) 1 n ≠ [] := fun e => by
      have := congrArg List.length e
      simp [lefts] at this; omega
    have n2 : rights f (candT f r n k) 1 n ≠ [] := fun e => by
      have := congrArg List.length e
      simp [rights] at this; omega
    have m1 := mx_mem n1
    have m2 := mx_mem n2
    obtain ⟨i, hi, h1⟩ := List.mem_map.1 m1
    obtain ⟨j, hj, h2⟩ := List.mem_map.1 m2
    have hi := List.mem_range.1 hi
    have hj := List.mem_range.1 hj
    refine ⟨i, j, hi, hj, ?_⟩
    rw [candT_lf hi] at h1
    rw [candT_rt hj] at h2
    omega
end Go.Lo

/- Cost: the plain law, ends. -/
namespace Go.Lo
open Go.Proofs
set_option linter.unusedSimpArgs false
set_option maxHeartbeats 8000000
theorem mul_mono {a b x y : Int} (ha : 0 ≤ a) (h1 : a ≤ b) (h2 : x ≤ y) (hy : 0 ≤ y) : a * x ≤ b * y :=
  Int.le_trans (Int.mul_le_mul_of_nonneg_left h2 ha) (Int.mul_le_mul_of_nonneg_right h1 hy)
theorem spread_le {f : Frm} {r : Rul} (hr : RNum r) (rest : Nat) {n i j : Nat} (hi : i < n) (hj : j < n) : dev f r rest j - dev f r rest i ≤ (drf r.step ((n : Int) - 1)).2 := by
  have hs := hr.step
  unfold drf
  simp only
  rcases Nat.le_total i j with h | h
  · obtain ⟨k, rfl⟩ : ∃ k, j = i + k := ⟨j - i, by omega⟩
    have h1 := (dev_diff (f := f) hs.2.1 rest i k).2
    have h2 := mul_mono (a := (k : Int)) (b := (n : Int) - 1) (x := r.step.2) (y := max 0 (max r.step.2 (-r.step.1))) (by omega) (by omega) (by omega) (by omega)
    omega
  · obtain ⟨k, rfl⟩ : ∃ k, i = j + k := ⟨i - j, by omega⟩
    have h1 := (dev_diff (f := f) hs.2.1 rest j k).1
    have h2 := mul_mono (a := (k : Int)) (b := (n : Int) - 1) (x := -r.step.1) (y := max 0 (max r.step.2 (-r.step.1))) (by omega) (by omega) (by omega) (by omega)
    rw [Int.mul_neg] at h2
    omega
theorem spread_ge {f : Frm} {r : Rul} (hr : RNum r) (rest : Nat) {n : Nat} (hn : 0 < n) : ∃ i j, i < n ∧ j < n ∧ (drf r.step ((n : Int) - 1)).1 ≤ dev f r rest j - dev f r rest i := by
  have hs := hr.step
  have h1 := dev_diff (f := f) hs.2.1 rest 0 (n - 1)
  have hc : ((n - 1 : Nat) : Int) = (n : Int) - 1 := by omega
  rw [hc, Nat.zero_add] at h1
  unfold drf
  simp only
  by_cases k1 : 0 < r.step.1
  · refine ⟨0, n - 1, hn, by omega, ?_⟩
    rw [show max 0 (max r.step.1 (-r.step.2)) = r.step.1 by omega]; exact h1.1
  · by_cases k2 : r.step.2 < 0
    · refine ⟨n - 1, 0, by omega, hn, ?_⟩
      rw [show max 0 (max r.step.1 (-r.step.2)) = -r.step.2 by omega, Int.mul_neg]; omega
    · refine ⟨0, 0, hn, hn, ?_⟩
      rw [show max 0 (max r.step.1 (-r.step.2)) = 0 by omega, Int.mul_zero]; omega
theorem lng_in {d : Int × Int} {lean : Int} {s : Int × Int} (c : Nat) : (lng d lean s).1 ≤ mst d (lean - endAt s lean c) ∧ mst d (lean - endAt s lean c) ≤ (lng d lean s).2 := by
  unfold lng endAt
  simp only
  by_cases h0 : c = 0
  · rw [if_pos h0]; omega
  · rw [if_neg h0]
    by_cases h1 : c = 1
    · rw [if_pos h1]; omega
    · rw [if_neg h1]; omega
theorem lng_at {d : Int × Int} {lean : Int} {s : Int × Int} : (∃ c, c < 3 ∧ mst d (lean - endAt s lean c) = (lng d lean s).1) ∧ ∃ c, c < 3 ∧ mst d (lean - endAt s lean c) = (lng d lean s).2 := by
  have e0 : endAt s lean 0 = s.1 := rfl
  have e1 : endAt s lean 1 = s.2 := rfl
  have e2 : endAt s lean 2 = near1 s lean := rfl
  unfold lng
  simp only
  constructor
  · by_cases h1 : mst d (lean - s.1) ≤ mst d (lean - s.2)
    · by_cases h2 : mst d (lean - s.1) ≤ mst d (lean - near1 s lean)
      · exact ⟨0, by omega, by rw [e0]; omega⟩
      · exact ⟨2, by omega, by rw [e2]; omega⟩
    · by_cases h2 : mst d (lean - s.2) ≤ mst d (lean - near1 s lean)
      · exact ⟨1, by omega, by rw [e1]; omega⟩
      · exact ⟨2, by omega, by rw [e2]; omega⟩
  · by_cases h1 : mst d (lean - s.1) ≤ mst d (lean - s.2)
    · by_cases h2 : mst d (lean - s.2) ≤ mst d (lean - near1 s lean)
      · exact ⟨2, by omega, by rw [e2]; omega⟩
      · exact ⟨1, by omega, by rw [e1]; omega⟩
    · by_cases h2 : mst d (lean - s.1) ≤ mst d (lean - near1 s lean)
      · exact ⟨2, by omega, by rw [e2]; omega⟩
      · exact ⟨0, by omega, by rw [e0]; omega⟩
theorem size_in {f : Frm} {d : Int × Int} {r : Rul} (hr : RNum r) {n : Nat} (hn : 0 < n) (k : Nat) :
    2 * costX f d r n (·.1) ≤ sizeOf3 f d (candT f r n k) 1 ∧ sizeOf3 f d (candT f r n k) 1 ≤ 2 * costX f d r n (·.2) := by
  obtain ⟨c1, i, j, hi, hj, c2⟩ := cand_size (f := f) (d := d) (r := r) (n := n) (k := k) hn
  have ht := endAt_in hr.thick.2.1 0 (k / 9 % 3)
  have l1 := lng_in (d := d) (lean := f.left) (s := r.left) (k % 3)
  have l2 := lng_in (d := d) (lean := f.right) (s := r.right) (k / 3 % 3)
  have u := spread_le (f := f) hr (k / 27) hi hj
  obtain ⟨i', j', hi', hj', lo⟩ := spread_ge (f := f) hr (k / 27) hn
  have c1 := c1 i' j' hi' hj'
  unfold costX
  unfold outL at c1 c2
  constructor <;> simp only <;> omega
/-- The digits of a number that is made of one digit. -/
def rp (n : Nat) : Nat := if n = 2 then 1 else if n = 3 then 4 else if n = 4 then 13 else 0
theorem dig {n c : Nat} (hn : 1 ≤ n ∧ n ≤ 4) (hc : c < 3) : c * rp n < 3 ^ (n - 1) ∧ ∀ i, i < n - 1 → c * rp n / 3 ^ i % 3 = c := by
  have key : ∀ n, n < 5 → ∀ c, c < 3 → 1 ≤ n → c * rp n < 3 ^ (n - 1) ∧ ∀ i, i < n - 1 → c * rp n / 3 ^ i % 3 = c := by decide
  exact key n (by omega) c hc hn.1
theorem dev_const {f : Frm} {r : Rul} {rest c m : Nat} (h : ∀ i, i < m → rest / 3 ^ i % 3 = c) : ∀ i, i ≤ m → dev f r rest i = i * endAt r.step 0 c
  | 0, _ => by simp [dev_zero]
  | i + 1, hi => by
    rw [dev_succ, dev_const h i (by omega), h i (by omega), show ((i + 1 : Nat) : Int) = (i : Int) + 1 by omega, Int.add_mul, Int.one_mul]
theorem mul_sub_le {n i j : Nat} (hi : i < n) (hj : j < n) (s : Int) : (j : Int) * s - (i : Int) * s ≤ ((n : Int) - 1) * max s (-s) := by
  rw [← Int.sub_mul]
  rcases Int.le_total 0 s with h | h
  · have := mul_mono (a := max ((j : Int) - i) 0) (b := (n : Int) - 1) (x := s) (y := max s (-s)) (by omega) (by omega) (by omega) (by omega)
    have h2 : ((j : Int) - i) * s ≤ (max ((j : Int) - i) 0) * s := Int.mul_le_mul_of_nonneg_right (by omega) h
    omega
  · have := mul_mono (a := max ((i : Int) - j) 0) (b := (n : Int) - 1) (x := -s) (y := max s (-s)) (by omega) (by omega) (by omega) (by omega)
    have h2 : ((i : Int) - j) * (-s) ≤ (max ((i : Int) - j) 0) * (-s) := Int.mul_le_mul_of_nonneg_right (by omega) (by omega)
    have h3 : ((i : Int) - j) * (-s) = ((j : Int) - i) * s := by rw [Int.mul_neg, ← Int.neg_mul]; congr 1; omega
    omega
theorem size_ends {f : Frm} {d : Int × Int} {r : Rul} (hr : RNum r) {n : Nat} (hn : 1 ≤ n ∧ n ≤ 4) :
    (∃ k, k < 27 * 3 ^ (n - 1) ∧ sizeOf3 f d (candT f r n k) 1 = 2 * costX f d r n (·.1)) ∧ ∃ k, k < 27 * 3 ^ (n - 1) ∧ sizeOf3 f d (candT f r n k) 1 = 2 * costX f d r n (·.2) := by
  obtain ⟨⟨a1, ha1, la1⟩, a2, ha2, la2⟩ := lng_at (d := d) (lean := f.left) (s := r.left)
  obtain ⟨⟨b1, hb1, lb1⟩, b2, hb2, lb2⟩ := lng_at (d := d) (lean := f.right) (s := r.right)
  have hs := hr.step
  have digits : ∀ a b c m, a < 3 → b < 3 → c < 3 → (a + 3 * b + 9 * c + 27 * m) % 3 = a ∧ (a + 3 * b + 9 * c + 27 * m) / 3 % 3 = b ∧ (a + 3 * b + 9 * c + 27 * m) / 9 % 3 = c ∧ (a + 3 * b + 9 * c + 27 * m) / 27 = m := fun a b c m h1 h2 h3 => by omega
  constructor
  · obtain ⟨g1, g2⟩ := dig hn (c := 2) (by omega)
    obtain ⟨q1, q2, q3, q4⟩ := digits a1 b1 0 (2 * rp n) ha1 hb1 (by omega)
    refine ⟨a1 + 3 * b1 + 9 * 0 + 27 * (2 * rp n), by omega, ?_⟩
    have lo := (size_in (f := f) (d := d) hr (n := n) (by omega) (a1 + 3 * b1 + 9 * 0 + 27 * (2 * rp n))).1
    obtain ⟨-, i, j, hi, hj, c2⟩ := cand_size (f := f) (d := d) (r := r) (n := n) (k := a1 + 3 * b1 + 9 * 0 + 27 * (2 * rp n)) (by omega)
    unfold outL at c2
    rw [q1, q2, q3, q4, la1, lb1, dev_const g2 i (by omega), dev_const g2 j (by omega), show endAt r.thick 0 0 = r.thick.1 from rfl] at c2
    have m1 := mul_sub_le hi hj (endAt r.step 0 2)
    have hm : max (endAt r.step 0 2) (-endAt r.step 0 2) = max 0 (max r.step.1 (-r.step.2)) := by
      rw [show endAt r.step 0 2 = near1 r.step 0 from rfl]; unfold near1; omega
    rw [hm] at m1
    unfold costX drf at lo ⊢
    simp only at lo ⊢
    omega
  · by_cases hc : -r.step.1 ≤ r.step.2
    · obtain ⟨g1, g2⟩ := dig hn (c := 1) (by omega)
      obtain ⟨q1, q2, q3, q4⟩ := digits a2 b2 1 (1 * rp n) ha2 hb2 (by omega)
      refine ⟨a2 + 3 * b2 + 9 * 1 + 27 * (1 * rp n), by omega, ?_⟩
      have up := (size_in (f := f) (d := d) hr (n := n) (by omega) (a2 + 3 * b2 + 9 * 1 + 27 * (1 * rp n))).2
      have c2 := (cand_size (f := f) (d := d) (r := r) (n := n) (k := a2 + 3 * b2 + 9 * 1 + 27 * (1 * rp n)) (by omega)).1 0 (n - 1) (by omega) (by omega)
      unfold outL at c2
      rw [q1, q2, q3, q4, la2, lb2, dev_const g2 0 (by omega), dev_const g2 (n - 1) (by omega), show endAt r.thick 0 1 = r.thick.2 from rfl, show endAt r.step 0 1 = r.step.2 from rfl, show ((n - 1 : Nat) : Int) = (n : Int) - 1 by omega] at c2
      have hm : max 0 (max r.step.2 (-r.step.1)) = r.step.2 := by omega
      unfold costX drf at up ⊢
      simp only [hm] at up ⊢
      simp only [Int.natCast_zero, Int.zero_mul] at c2
      omega
    · obtain ⟨g1, g2⟩ := dig hn (c := 0) (by omega)
      obtain ⟨q1, q2, q3, q4⟩ := digits a2 b2 1 (0 * rp n) ha2 hb2 (by omega)
      refine ⟨a2 + 3 * b2 + 9 * 1 + 27 * (0 * rp n), by omega, ?_⟩
      have up := (size_in (f := f) (d := d) hr (n := n) (by omega) (a2 + 3 * b2 + 9 * 1 + 27 * (0 * rp n))).2
      have c2 := (cand_size (f := f) (d := d) (r := r) (n := n) (k := a2 + 3 * b2 + 9 * 1 + 27 * (0 * rp n)) (by omega)).1 (n - 1) 0 (by omega) (by omega)
      unfold outL at c2
      rw [q1, q2, q3, q4, la2, lb2, dev_const g2 0 (by omega), dev_const g2 (n - 1) (by omega), show endAt r.thick 0 1 = r.thick.2 from rfl, show endAt r.step 0 0 = r.step.1 from rfl, show ((n - 1 : Nat) : Int) = (n : Int) - 1 by omega] at c2
      have hm : max 0 (max r.step.2 (-r.step.1)) = -r.step.1 := by omega
      unfold costX drf at up ⊢
      simp only [hm, Int.mul_neg] at up ⊢
      simp only [Int.natCast_zero, Int.zero_mul] at c2
      omega
/-- The least and the greatest of some integers. -/
def mm (v : Nat → Int) : Nat → Int × Int
  | 0 => (0, 0)
  | k + 1 => if k = 0 then (v 0, v 0) else (min (mm v k).1 (v k), max (mm v k).2 (v k))
theorem mm_in (v : Nat → Int) : ∀ n, 0 < n → (∀ k, k < n → (mm v n).1 ≤ v k ∧ v k ≤ (mm v n).2) ∧ (∃ k, k < n ∧ v k = (mm v n).1) ∧ ∃ k, k < n ∧ v k = (mm v n).2
  | 0, h => by omega
  | n + 1, _ => by
    unfold mm
    by_cases h0 : n = 0
    · subst h0
      simp only [if_true]
      refine ⟨fun k hk => ?_, ⟨0, by omega, rfl⟩, 0, by omega, rfl⟩
      have : k = 0 := by omega
      subst this; omega
    · rw [if_neg h0]
      obtain ⟨h1, ⟨a, a1, a2⟩, b, b1, b2⟩ := mm_in v n (by omega)
      refine ⟨fun k hk => ?_, ?_, ?_⟩
      · by_cases hk2 : k = n
        · subst hk2; simp only; omega
        · have := h1 k (by omega); simp only; omega
      · by_cases h : (mm v n).1 ≤ v n
        · exact ⟨a, by omega, by simp only; omega⟩
        · exact ⟨n, by omega, by simp only; omega⟩
      · by_cases h : v n ≤ (mm v n).2
        · exact ⟨b, by omega, by simp only; omega⟩
        · exact ⟨n, by omega, by simp only; omega⟩
theorem mm_eq {v : Nat → Int} {n : Nat} {lo hi : Int} (h : ∀ k, k < n → lo ≤ v k ∧ v k ≤ hi) (h1 : ∃ k, k < n ∧ v k = lo) (h2 : ∃ k, k < n ∧ v k = hi) : mm v n = (lo, hi) := by
  obtain ⟨a, a1, a2⟩ := h1
  obtain ⟨b, b1, b2⟩ := h2
  obtain ⟨k1, ⟨c, c1, c2⟩, e, e1, e2⟩ := mm_in v n (by omega)
  have := k1 a a1
  have := k1 b b1
  have := h c c1
  have := h e e1
  exact Prod.ext (by omega) (by omega)
theorem half_up {X k : Int} : -(-(2 * X) / (4 * k)) = -(-X / (2 * k)) := by
  rw [← Int.mul_neg, show 4 * k = 2 * (2 * k) by omega, Int.mul_ediv_mul_of_pos _ _ (by omega)]
theorem up_mono {a b k : Int} (hk : 0 < k) (h : a ≤ b) : -(-a / k) ≤ -(-b / k) := by
  have := Int.ediv_le_ediv hk (show -b ≤ -a by omega)
  omega
theorem cost_law {f : Frm} (hf : FNum f) (hz : ¬ f.left + f.right = 0) {d : Int × Int} {r : Rul} (hr : RNum r) {n : Nat} (hn : 1 ≤ n ∧ n ≤ 4) :
    mm (fun k => screwV f d (candT f r n k)) (27 * 3 ^ (n - 1)) = costV f d r n := by
  have h2 := hf.left
  have h3 := hf.right
  obtain ⟨⟨a, a1, a2⟩, b, b1, b2⟩ := size_ends (f := f) (d := d) hr hn
  refine mm_eq (fun k _ => ?_) ⟨a, a1, ?_⟩ ⟨b, b1, ?_⟩
  · have := size_in (f := f) (d := d) hr (n := n) (by omega) k
    unfold screwV
    rw [← half_up, ← half_up]
    exact ⟨up_mono (by omega) this.1, up_mono (by omega) this.2⟩
  · unfold screwV; rw [a2, half_up]
  · unfold screwV; rw [b2, half_up]
end Go.Lo

/- Range: the plain law. -/
namespace Go.Lo
open Go.Proofs
set_option linter.unusedSimpArgs false
set_option maxHeartbeats 8000000
/-- Where teeth are whose steps are off by so much. -/
def posG (f : Frm) (st : Nat → Int) : Nat → Int
  | 0 => 0
  | i + 1 => posG f st i + (f.pitch + st (i + 1))
def devG (st : Nat → Int) : Nat → Int
  | 0 => 0
  | i + 1 => devG st i + st (i + 1)
theorem posG_eq (f : Frm) (st : Nat → Int) : ∀ i : Nat, posG f st i = i * f.pitch + devG st i
  | 0 => by simp [posG, devG]
  | i + 1 => by
    have h := posG_eq f st i
    rw [posG, devG, h, show ((i + 1 : Nat) : Int) = (i : Int) + 1 by omega, Int.add_mul, Int.one_mul]
    omega
def teethG (f : Frm) (st th : Nat → Int) (n : Nat) : List (Int × Int) := (List.range n).map fun j => (posG f st j, posG f st j + th j)
def thrG (f : Frm) (st th : Nat → Int) (l r : Int) (n : Nat) : Thr := (teethG f st th n, l, r)
theorem devG_diff {s : Int × Int} {st : Nat → Int} (h : ∀ i, s.1 ≤ st i ∧ st i ≤ s.2) (i : Nat) : ∀ k : Nat, (k : Int) * s.1 ≤ devG st (i + k) - devG st i ∧ devG st (i + k) - devG st i ≤ (k : Int) * s.2
  | 0 => by simp
  | k + 1 => by
    have h1 := devG_diff h i k
    have h2 := h (i + k + 1)
    rw [← Nat.add_assoc, devG, show ((k + 1 : Nat) : Int) = (k : Int) + 1 by omega, Int.add_mul, Int.add_mul, Int.one_mul, Int.one_mul]
    omega
theorem thrG_turn {f : Frm} {st th : Nat → Int} {l r : Int} {n j : Nat} (hj : j < n) : turn (thrG f st th l r n).1 j = (posG f st j, posG f st j + th j) := by
  have hl : (thrG f st th l r n).1.length = n := by simp [thrG, teethG]
  have h1 : (thrG f st th l r n).1[j]? = some (posG f st j, posG f st j + th j) := by simp [thrG, teethG, hj]
  have h2 := turn_get (ts := (thrG f st th l r n).1) (i := j) (by omega)
  rw [h1] at h2
  injection h2 with h2
  exact h2.symm
/-- Steps within a span are apart by so much at most, and at least. -/
theorem sprG_le {s : Int × Int} (hs : s.1 ≤ s.2) {st : Nat → Int} (h : ∀ i, s.1 ≤ st i ∧ st i ≤ s.2) {n i j : Nat} (hi : i < n) (hj : j < n) : devG st j - devG st i ≤ (drf s ((n : Int) - 1)).2 := by
  unfold drf
  simp only
  rcases Nat.le_total i j with h0 | h0
  · obtain ⟨k, rfl⟩ : ∃ k, j = i + k := ⟨j - i, by omega⟩
    have h1 := (devG_diff h i k).2
    have h2 := mul_mono (a := (k : Int)) (b := (n : Int) - 1) (x := s.2) (y := max 0 (max s.2 (-s.1))) (by omega) (by omega) (by omega) (by omega)
    omega
  · obtain ⟨k, rfl⟩ : ∃ k, i = j + k := ⟨i - j, by omega⟩
    have h1 := (devG_diff h j k).1
    have h2 := mul_mono (a := (k : Int)) (b := (n : Int) - 1) (x := -s.1) (y := max 0 (max s.2 (-s.1))) (by omega) (by omega) (by omega) (by omega)
    rw [Int.mul_neg] at h2
    omega
theorem sprG_ge {s : Int × Int} {st : Nat → Int} (h : ∀ i, s.1 ≤ st i ∧ st i ≤ s.2) {n : Nat} (hn : 0 < n) : ∃ i j, i < n ∧ j < n ∧ (drf s ((n : Int) - 1)).1 ≤ devG st j - devG st i := by
  have h1 := devG_diff h 0 (n - 1)
  have hc : ((n - 1 : Nat) : Int) = (n : Int) - 1 := by omega
  rw [hc, Nat.zero_add] at h1
  unfold drf
  simp only
  by_cases k1 : 0 < s.1
  · refine ⟨0, n - 1, hn, by omega, ?_⟩
    rw [show max 0 (max s.1 (-s.2)) = s.1 by have := h 0; omega]; exact h1.1
  · by_cases k2 : s.2 < 0
    · refine ⟨n - 1, 0, by omega, hn, ?_⟩
      rw [show max 0 (max s.1 (-s.2)) = -s.2 by have := h 0; omega, Int.mul_neg]; omega
    · refine ⟨0, 0, hn, hn, ?_⟩
      rw [show max 0 (max s.1 (-s.2)) = 0 by omega, Int.mul_zero]; omega
theorem sizeG {f : Frm} {d : Int × Int} {st th : Nat → Int} {l r : Int} {n : Nat} (hn : 0 < n) :
    (∀ i j, i < n → j < n → 4000 * (devG st j - devG st i + th j) - 2000 * f.pitch + 4 * (mst d (f.left - l) + mst d (f.right - r)) ≤ sizeOf3 f d (thrG f st th l r n) 1) ∧
    (∃ i j, i < n ∧ j < n ∧ sizeOf3 f d (thrG f st th l r n) 1 = 4000 * (devG st j - devG st i + th j) - 2000 * f.pitch + 4 * (mst d (f.left - l) + mst d (f.right - r))) := by
  have hl : (thrG f st th l r n).1.length = n := by simp [thrG, teethG]
  have s1 : (thrG f st th l r n).2.1 = l := rfl
  have s2 : (thrG f st th l r n).2.2 = r := rfl
  have e1 : ∀ k, k < n → lf f (thrG f st th l r n) k = 1000 * (4 * devG st k + f.pitch) := fun k hk => by
    unfold lf
    rw [thrG_turn hk, posG_eq, Int.mul_assoc 4 (k : Int)]
    simp only
    omega
  have e2 : ∀ k, k < n → rt f (thrG f st th l r n) k = 1000 * (4 * devG st k + 4 * th k - f.pitch) := fun k hk => by
    unfold rt
    rw [thrG_turn hk, posG_eq, Int.mul_assoc 4 (k : Int)]
    simp only
    omega
  unfold sizeOf3
  rw [hl, s1, s2, Int.one_mul, Int.one_mul]
  generalize mst d (f.left - l) = a
  generalize mst d (f.right - r) = b
  constructor
  · intro i j hi hj
    have a1 := le_mx0 (l := lefts f (thrG f st th l r n) 1 n) (x := -1 * lf f (thrG f st th l r n) i) (List.mem_map.2 ⟨i, List.mem_range.2 hi, rfl⟩)
    have a2 := le_mx0 (l := rights f (thrG f st th l r n) 1 n) (x := 1 * rt f (thrG f st th l r n) j) (List.mem_map.2 ⟨j, List.mem_range.2 hj, rfl⟩)
    rw [e1 i hi] at a1
    rw [e2 j hj] at a2
    omega
  · have n1 : lefts f (thrG f st th l r n) 1 n ≠ [] := fun e => by
      have := congrArg List.length e
      simp [lefts] at this; omega
    have n2 : rights f (thrG f st th l r n) 1 n ≠ [] := fun e => by
      have := congrArg List.length e
      simp [rights] at this; omega
    have m1 := mx_mem n1
    have m2 := mx_mem n2
    obtain ⟨i, hi, h1⟩ := List.mem_map.1 m1
    obtain ⟨j, hj, h2⟩ := List.mem_map.1 m2
    have hi := List.mem_range.1 hi
    have hj := List.mem_range.1 hj
    refine ⟨i, j, hi, hj, ?_⟩
    rw [e1 i hi] at h1
    rw [e2 j hj] at h2
    omega
/-- A lean within its span sticks out by no less and no more than what is told. -/
theorem lng_all {d : Int × Int} (hd : d.1 ≤ d.2) {lean : Int} {s : Int × Int} {l : Int} (hl : s.1 ≤ l ∧ l ≤ s.2) : (lng d lean s).1 ≤ mst d (lean - l) ∧ mst d (lean - l) ≤ (lng d lean s).2 := by
  have mono1 : ∀ {x y k : Int}, 0 ≤ k → x ≤ y → k * x ≤ k * y := fun h1 h2 => Int.mul_le_mul_of_nonneg_left h2 h1
  have mono2 : ∀ {x y k : Int}, k ≤ 0 → x ≤ y → k * y ≤ k * x := fun h1 h2 => Int.mul_le_mul_of_nonpos_left h1 h2
  have hb1 : lean - s.2 ≤ lean - l := by omega
  have hb2 : lean - l ≤ lean - s.1 := by omega
  unfold lng mst near1
  simp only
  generalize hB1 : lean - s.2 = b1 at *
  generalize hB2 : lean - s.1 = b2 at *
  generalize hB : lean - l = b at *
  have hN : lean - min (max lean s.1) s.2 = if 0 < b1 then b1 else if b2 < 0 then b2 else 0 := by split <;> (try split) <;> omega
  rw [hN]
  rcases Int.le_total 0 d.1 with p1 | p1
  · have p2 : 0 ≤ d.2 := by omega
    have := mono1 p1 hb1
    have := mono1 p1 hb2
    have := mono1 p2 hb1
    have := mono1 p2 hb2
    omega
  · rcases Int.le_total 0 d.2 with p2 | p2
    · have a1 := mono2 p1 hb1
      have a2 := mono2 p1 hb2
      have a3 := mono1 p2 hb1
      have a4 := mono1 p2 hb2
      refine ⟨?_, by omega⟩
      by_cases h1 : 0 < b1
      · have := mono2 (x := 0) p1 (show 0 ≤ b1 by omega)
        have := mono1 (x := 0) p2 (show 0 ≤ b1 by omega)
        simp only [Int.mul_zero] at *
        rw [if_pos h1]; omega
      · by_cases h2 : b2 < 0
        · have := mono2 (y := 0) p1 (show b2 ≤ 0 by omega)
          have := mono1 (y := 0) p2 (show b2 ≤ 0 by omega)
          simp only [Int.mul_zero] at *
          rw [if_neg h1, if_pos h2]; omega
        · rw [if_neg h1, if_neg h2]
          simp only [Int.mul_zero]
          rcases Int.le_total 0 b with h3 | h3
          · have := mono1 (x := 0) p2 h3
            simp only [Int.mul_zero] at this
            omega
          · have := mono2 (y := 0) p1 h3
            simp only [Int.mul_zero] at this
            omega
    · have := mono2 p1 hb1
      have := mono2 p1 hb2
      have := mono2 p2 hb1
      have := mono2 p2 hb2
      omega
theorem sizeG_in {f : Frm} {d : Int × Int} (hd : d.1 ≤ d.2) {r : Rul} (hr : RNum r) {st th : Nat → Int} (hst : ∀ i, r.step.1 ≤ st i ∧ st i ≤ r.step.2) (hth : ∀ i, r.thick.1 ≤ th i ∧ th i ≤ r.thick.2) {l q : Int} (hl : r.left.1 ≤ l ∧ l ≤ r.left.2) (hq : r.right.1 ≤ q ∧ q ≤ r.right.2) {n : Nat} (hn : 0 < n) :
    2 * costX f d r n (·.1) ≤ sizeOf3 f d (thrG f st th l q n) 1 ∧ sizeOf3 f d (thrG f st th l q n) 1 ≤ 2 * costX f d r n (·.2) := by
  obtain ⟨c1, i, j, hi, hj, c2⟩ := sizeG (f := f) (d := d) (st := st) (th := th) (l := l) (r := q) hn
  have l1 := lng_all hd (lean := f.left) hl
  have l2 := lng_all hd (lean := f.right) hq
  have u := sprG_le hr.step.2.1 hst hi hj
  obtain ⟨i', j', hi', hj', lo⟩ := sprG_ge hst hn
  have c1 := c1 i' j' hi' hj'
  have t1 := hth j
  have t2 := hth j'
  unfold costX
  constructor <;> simp only <;> omega
end Go.Lo

/- Range: ends, and threads that are valid. -/
namespace Go.Lo
open Go.Proofs
set_option linter.unusedSimpArgs false
set_option maxHeartbeats 8000000
theorem devG_const (s : Int) : ∀ i : Nat, devG (fun _ => s) i = i * s
  | 0 => by simp [devG]
  | i + 1 => by
    rw [devG, devG_const s i, show ((i + 1 : Nat) : Int) = (i : Int) + 1 by omega, Int.add_mul, Int.one_mul]
def thAt (s : Int × Int) (k : Nat) : Int := if k = 0 then s.1 else s.2
def candR (f : Frm) (r : Rul) (n k : Nat) : Thr := thrG f (fun _ => endAt r.step 0 (k % 3)) (fun _ => thAt r.thick (k / 3 % 2)) (endAt r.left f.left (k / 6 % 3)) (endAt r.right f.right (k / 18)) n
theorem endsR {f : Frm} {d : Int × Int} (hd : d.1 ≤ d.2) {r : Rul} (hr : RNum r) {n : Nat} (hn : 0 < n) :
    (∃ k, k < 54 ∧ sizeOf3 f d (candR f r n k) 1 = 2 * costX f d r n (·.1)) ∧ ∃ k, k < 54 ∧ sizeOf3 f d (candR f r n k) 1 = 2 * costX f d r n (·.2) := by
  obtain ⟨⟨a1, ha1, la1⟩, a2, ha2, la2⟩ := lng_at (d := d) (lean := f.left) (s := r.left)
  obtain ⟨⟨b1, hb1, lb1⟩, b2, hb2, lb2⟩ := lng_at (d := d) (lean := f.right) (s := r.right)
  have hs := hr.step
  have digits : ∀ c t a b, c < 3 → t < 2 → a < 3 → b < 3 → (c + 3 * t + 6 * a + 18 * b) % 3 = c ∧ (c + 3 * t + 6 * a + 18 * b) / 3 % 2 = t ∧ (c + 3 * t + 6 * a + 18 * b) / 6 % 3 = a ∧ (c + 3 * t + 6 * a + 18 * b) / 18 = b := fun c t a b h1 h2 h3 h4 => by omega
  have inn : ∀ k, 2 * costX f d r n (·.1) ≤ sizeOf3 f d (candR f r n k) 1 ∧ sizeOf3 f d (candR f r n k) 1 ≤ 2 * costX f d r n (·.2) := fun k =>
    sizeG_in hd hr (fun _ => endAt_in hr.step.2.1 0 _) (fun _ => by unfold thAt; have := hr.thick; split <;> omega) (endAt_in hr.left.2.1 _ _) (endAt_in hr.right.2.1 _ _) hn
  constructor
  · obtain ⟨q1, q2, q3, q4⟩ := digits 2 0 a1 b1 (by omega) (by omega) ha1 hb1
    refine ⟨2 + 3 * 0 + 6 * a1 + 18 * b1, by omega, ?_⟩
    have lo := (inn (2 + 3 * 0 + 6 * a1 + 18 * b1)).1
    obtain ⟨-, i, j, hi, hj, c2⟩ := sizeG (f := f) (d := d) (st := fun _ => endAt r.step 0 2) (th := fun _ => thAt r.thick 0) (l := endAt r.left f.left a1) (r := endAt r.right f.right b1) (n := n) hn
    unfold candR at lo ⊢
    rw [q1, q2, q3, q4] at lo ⊢
    rw [devG_const, devG_const, la1, lb1, show thAt r.thick 0 = r.thick.1 from rfl] at c2
    have m1 := mul_sub_le hi hj (endAt r.step 0 2)
    have hm : max (endAt r.step 0 2) (-endAt r.step 0 2) = max 0 (max r.step.1 (-r.step.2)) := by
      rw [show endAt r.step 0 2 = near1 r.step 0 from rfl]; unfold near1; omega
    rw [hm] at m1
    rw [show thAt r.thick 0 = r.thick.1 from rfl] at lo ⊢
    unfold costX drf at lo ⊢
    simp only at lo ⊢
    omega
  · by_cases hc : -r.step.1 ≤ r.step.2
    · obtain ⟨q1, q2, q3, q4⟩ := digits 1 1 a2 b2 (by omega) (by omega) ha2 hb2
      refine ⟨1 + 3 * 1 + 6 * a2 + 18 * b2, by omega, ?_⟩
      have up := (inn (1 + 3 * 1 + 6 * a2 + 18 * b2)).2
      have c2 := (sizeG (f := f) (d := d) (st := fun _ => endAt r.step 0 1) (th := fun _ => thAt r.thick 1) (l := endAt r.left f.left a2) (r := endAt r.right f.right b2) (n := n) hn).1 0 (n - 1) (by omega) (by omega)
      unfold candR at up ⊢
      rw [q1, q2, q3, q4] at up ⊢
      rw [devG_const, devG_const, la2, lb2, show thAt r.thick 1 = r.thick.2 from rfl, show endAt r.step 0 1 = r.step.2 from rfl, show ((n - 1 : Nat) : Int) = (n : Int) - 1 by omega] at c2
      have hm : max 0 (max r.step.2 (-r.step.1)) = r.step.2 := by omega
      rw [show endAt r.step 0 1 = r.step.2 from rfl, show thAt r.thick 1 = r.thick.2 from rfl] at up ⊢
      unfold costX drf at up ⊢
      simp only [hm] at up ⊢
      simp only [Int.natCast_zero, Int.zero_mul] at c2
      omega
    · obtain ⟨q1, q2, q3, q4⟩ := digits 0 1 a2 b2 (by omega) (by omega) ha2 hb2
      refine ⟨0 + 3 * 1 + 6 * a2 + 18 * b2, by omega, ?_⟩
      have up := (inn (0 + 3 * 1 + 6 * a2 + 18 * b2)).2
      have c2 := (sizeG (f := f) (d := d) (st := fun _ => endAt r.step 0 0) (th := fun _ => thAt r.thick 1) (l := endAt r.left f.left a2) (r := endAt r.right f.right b2) (n := n) hn).1 (n - 1) 0 (by omega) (by omega)
      unfold candR at up ⊢
      rw [q1, q2, q3, q4] at up ⊢
      rw [devG_const, devG_const, la2, lb2, show thAt r.thick 1 = r.thick.2 from rfl, show endAt r.step 0 0 = r.step.1 from rfl, show ((n - 1 : Nat) : Int) = (n : Int) - 1 by omega] at c2
      have hm : max 0 (max r.step.2 (-r.step.1)) = -r.step.1 := by omega
      rw [show endAt r.step 0 0 = r.step.1 from rfl, show thAt r.thick 1 = r.thick.2 from rfl] at up ⊢
      unfold costX drf at up ⊢
      simp only [hm, Int.mul_neg] at up ⊢
      simp only [Int.natCast_zero, Int.zero_mul] at c2
      omega
/-- The size of a screw within rules lies between those of Cost. -/
theorem costIn {f : Frm} (hf : FNum f) (hz : ¬ f.left + f.right = 0) {d : Int × Int} {r : Rul} {n : Int} {t : Thr} (h : 2 * costX f d r n (·.1) ≤ sizeOf3 f d t 1 ∧ sizeOf3 f d t 1 ≤ 2 * costX f d r n (·.2)) : (costV f d r n).1 ≤ screwV f d t ∧ screwV f d t ≤ (costV f d r n).2 := by
  have h2 := hf.left
  have h3 := hf.right
  unfold screwV costV
  simp only
  rw [← half_up, ← half_up]
  exact ⟨up_mono (by omega) h.1, up_mono (by omega) h.2⟩
theorem costAt {f : Frm} {d : Int × Int} {r : Rul} {n : Int} {t : Thr} {pr : Int × Int → Int} (h : sizeOf3 f d t 1 = 2 * costX f d r n pr) : screwV f d t = -(-costX f d r n pr / (2 * (f.left + f.right))) := by
  unfold screwV
  rw [h, half_up]
theorem chkT_G {f : Frm} (hp : 2000 ≤ f.pitch ∧ f.pitch ≤ 42000) {st th : Nat → Int} (hst : ∀ i, -128 ≤ st i ∧ st i ≤ 127) (hth : ∀ i, 0 ≤ th i ∧ th i ≤ f.pitch / 2 + 127) {l r : Int} (hl : 0 ≤ l ∧ l ≤ 3000) (hr : 0 ≤ r ∧ r ≤ 3000) {n : Nat} (hn : 1 ≤ n ∧ n ≤ 9) : chkT (thrG f st th l r n) = 0 := by
  have hlen : (thrG f st th l r n).1.length = n := by simp [thrG, teethG]
  have hpos : ∀ i : Nat, -(43000 * (i : Int)) ≤ posG f st i ∧ posG f st i ≤ 43000 * (i : Int) := by
    intro i
    induction i with
    | zero => simp [posG]
    | succ i ih =>
      have := hst (i + 1)
      rw [posG]
      omega
  have hne : (thrG f st th l r n).1 ≠ [] := fun e => by rw [e] at hlen; simp at hlen; omega
  have hlean : leanB l r = true := by unfold leanB; rw [decide_eq_true_eq]; omega
  have hall : (List.range (thrG f st th l r n).1.length).all (turnB (thrG f st th l r n).1) = true := by
    rw [List.all_eq_true]
    intro i hi
    rw [hlen] at hi
    have hi := List.mem_range.1 hi
    have h1 := hpos i
    have h2 := hth i
    unfold turnB aftT
    rw [thrG_turn hi, decide_eq_true_eq]
    by_cases h0 : i = 0
    · rw [if_pos h0]; simp only; omega
    · rw [if_neg h0, thrG_turn (by omega : i - 1 < n)]
      obtain ⟨j, rfl⟩ : ∃ j, i = j + 1 := ⟨i - 1, by omega⟩
      have h3 := hth j
      have h4 := hst (j + 1)
      have h5 : posG f st (j + 1) = posG f st j + (f.pitch + st (j + 1)) := rfl
      rw [Nat.add_sub_cancel]
      simp only
      omega
  unfold chkT
  rw [hall, show (thrG f st th l r n).2 = (l, r) from rfl]
  simp only
  rw [hlean]
  have : ¬ 60 < (thrG f st th l r n).1.length := by omega
  simp [this, hne]
end Go.Lo

/- Range: the law's own functions. -/
namespace Go.Lo
open Go.Proofs
set_option linter.unusedSimpArgs false
set_option maxHeartbeats 8000000
abbrev U (n : Int) : V := .int .u8 n
def btw (mid least : Int) (b : Int × Int) : Int × Int := (max least (mid + min b.1 b.2), max least (mid + max b.1 b.2))
theorem p44 {mid least : Int} (hm : -1000000 ≤ mid ∧ mid ≤ 1000000) {b : Int × Int} (h : (-128 ≤ b.1 ∧ b.1 ≤ 127) ∧ (-128 ≤ b.2 ∧ b.2 ≤ 127)) : R 44 [I mid, I least, .agg [J b.1, J b.2]] = some (eS (btw mid least b)) := by
  have w1 := wrap64 (n := min b.1 b.2) (by omega) (by omega)
  have w2 := wrap64 (n := max b.1 b.2) (by omega) (by omega)
  have w3 := wrap64 (n := mid + min b.1 b.2) (by omega) (by omega)
  have w4 := wrap64 (n := mid + max b.1 b.2) (by omega) (by omega)
  unfold btw
  refine run2_body 1 rfl rfl rfl rfl rfl ?_
  simp (maxSteps := 2000000) (disch := first | omega | (simp; done) | (simp; omega)) [-getElem?_pos, -maxL, -minL, maxL2, minL2, l44, w1, w2, w3, w4]
theorem p45 (s : Int × Int) (to : Int) : R 45 [eS s, I to] = some (.agg [I s.1, I s.2, I (near1 s to)]) := by
  have hnear : min (max to s.1) s.2 = near1 s to := rfl
  refine run2_body 1 rfl rfl rfl rfl rfl ?_
  simp (maxSteps := 2000000) (disch := first | omega | (simp; done) | (simp; omega)) [-getElem?_pos, -maxL, -minL, maxL2, minL2, l45, hnear]
/-- Rules in small numbers. -/
structure Rmn where
  step : Int × Int
  thick : Int × Int
  left : Int × Int
  right : Int × Int
  turns : Int
  steps : List Int
abbrev eRm (x : Rmn) : List V := [J x.step.1, J x.step.2, J x.thick.1, J x.thick.2, J x.left.1, J x.left.2, J x.right.1, J x.right.2, U x.turns, S 1 (x.steps.map fun n => [U n])]
abbrev i8p (b : Int × Int) : Prop := (-128 ≤ b.1 ∧ b.1 ≤ 127) ∧ (-128 ≤ b.2 ∧ b.2 ≤ 127)
structure Rmn.Ok (x : Rmn) : Prop where
  step : i8p x.step
  thick : i8p x.thick
  left : i8p x.left
  right : i8p x.right
  turns : 0 ≤ x.turns ∧ x.turns ≤ 255
  steps : ∀ n ∈ x.steps, 0 ≤ n ∧ n ≤ 255
def byV (x : Rmn) (s : Int × Int) (i : Nat) : Int := if x.steps = [] then s.1 else s.1 + x.steps.getD (i % x.steps.length) 0 % (s.2 - s.1 + 1)
theorem byV_in {x : Rmn} {s : Int × Int} (h : s.1 ≤ s.2) (i : Nat) : s.1 ≤ byV x s i ∧ byV x s i ≤ s.2 := by
  unfold byV
  split
  · omega
  · have h1 := Int.emod_nonneg (x.steps.getD (i % x.steps.length) 0) (show s.2 - s.1 + 1 ≠ 0 by omega)
    have h2 := Int.emod_lt_of_pos (x.steps.getD (i % x.steps.length) 0) (show 0 < s.2 - s.1 + 1 by omega)
    omega
theorem p47 {x : Rmn} (hx : x.Ok) {s : Int × Int} (hs : -1000000 ≤ s.1 ∧ s.1 ≤ s.2 ∧ s.2 ≤ 1000000) {i : Nat} (hi : i ≤ 1000) : R 47 [eS s, I i, .cref (eRm x)] = some (I (byV x s i)) := by
  have hb := byV_in (x := x) hs.2.1 i
  unfold byV at hb ⊢
  by_cases h0 : x.steps = []
  · rw [if_pos h0] at hb ⊢
    refine run2_body 1 rfl rfl rfl rfl rfl ?_
    simp (maxSteps := 2000000) (disch := first | omega | (simp; done) | (simp; omega)) [-getElem?_pos, l47, eRm, h0]
  · rw [if_neg h0] at hb ⊢
    have hpos : 0 < x.steps.length := by
      apply Nat.pos_of_ne_zero; intro e; exact h0 (List.length_eq_zero_iff.1 e)
    have hmod : i % x.steps.length < x.steps.length := Nat.mod_lt _ hpos
    have hg : x.steps[i % x.steps.length]? = some (x.steps.getD (i % x.steps.length) 0) := by
      rw [List.getElem?_eq_getElem hmod, List.getD_eq_getElem?_getD, List.getElem?_eq_getElem hmod]; rfl
    have hr := hx.steps _ (List.mem_of_getElem? hg)
    generalize x.steps.getD (i % x.steps.length) 0 = v at *
    have q1 : (i : Int).tmod (x.steps.length : Int) = ((i % x.steps.length : Nat) : Int) := by
      rw [Int.tmod_eq_emod_of_nonneg (by omega)]; omega
    have q2 : v.tmod (s.2 - s.1 + 1) = v % (s.2 - s.1 + 1) := Int.tmod_eq_emod_of_nonneg hr.1
    have hz : ¬ (x.steps.length : Int) = 0 := by omega
    have hz2 : ¬ s.2 - s.1 + 1 = 0 := by omega
    have hz3 : ¬ x.steps.length = 0 := by omega
    have hml : (x.steps.map fun n => [U n]).length = x.steps.length := by simp
    have hmg : (x.steps.map fun n => [U n])[i % x.steps.length]? = some [U v] := by rw [List.getElem?_map, hg]; rfl
    have wv := wrap64 (n := v) (by omega) (by omega)
    have w1 := wrap64 (n := s.2 - s.1) (by omega) (by omega)
    have w2 := wrap64 (n := s.2 - s.1 + 1) (by omega) (by omega)
    have w3 := wrap64 (n := s.1 + v % (s.2 - s.1 + 1)) (by omega) (by omega)
    simp only [eRm]
    generalize hD : s.2 - s.1 + 1 = D at *
    generalize (x.steps.map fun n => [U n]) = es at *
    generalize i % x.steps.length = im at *
    generalize v % D = vm at *
    refine run2_body 1 rfl rfl rfl rfl rfl ?_
    simp (maxSteps := 2000000) (disch := first | omega | (simp; done) | (simp; omega)) [-getElem?_pos, l47, hml, hmg, q1, q2, hz, hz2, hz3, hD, wv, w1, w2, w3]
theorem p48 {x : Rmn} (hx : x.Ok) {r : Rul} (hr : RNum r) {i : Nat} (hi : i ≤ 400) : R 48 [I i, .cref [.fn (.f 47) [.cref (eRm x)]], .cref (eRu r)] = some (I (byV x r.step i)) := by
  have h := hr.step
  have e1 := p47 hx (s := r.step) (by omega) (i := i) (by omega)
  generalize byV x r.step i = z at *
  simp only [eRm, eRu] at e1 ⊢
  refine run2_body 1 rfl rfl rfl rfl rfl ?_
  simp (maxSteps := 2000000) (disch := first | omega | (simp; done) | (simp; omega)) [-getElem?_pos, l48, e1]
theorem p49 {x : Rmn} (hx : x.Ok) {r : Rul} (hr : RNum r) {i : Nat} (hi : i ≤ 400) : R 49 [I i, .cref [.fn (.f 47) [.cref (eRm x)]], .cref (eRu r)] = some (I (byV x r.thick (2 * i))) := by
  have h := hr.thick
  have e1 := p47 hx (s := r.thick) (by omega) (i := 2 * i) (by omega)
  have q : ((2 * i : Nat) : Int) = 2 * (i : Int) := by omega
  rw [q] at e1
  have w := wrap64 (n := 2 * (i : Int)) (by omega) (by omega)
  generalize byV x r.thick (2 * i) = z at *
  simp only [eRm, eRu] at e1 ⊢
  refine run2_body 1 rfl rfl rfl rfl rfl ?_
  simp (maxSteps := 2000000) (disch := first | omega | (simp; done) | (simp; omega)) [-getElem?_pos, l49, e1, w]
theorem p50 (i s : Int) : R 50 [I i, .cref [I s]] = some (I s) := by
  refine run2_body 1 rfl rfl rfl rfl rfl ?_
  simp (maxSteps := 2000000) (disch := first | omega | (simp; done) | (simp; omega)) [-getElem?_pos, l50]
theorem p51 (i s : Int) : R 51 [I i, .cref [I s]] = some (I s) := by
  refine run2_body 1 rfl rfl rfl rfl rfl ?_
  simp (maxSteps := 2000000) (disch := first | omega | (simp; done) | (simp; omega)) [-getElem?_pos, l51]
theorem p46 {f : Frm} (hf : frmB f = true) (hp : 2000 ≤ f.pitch ∧ f.pitch ≤ 42000) (hz : ¬ f.left + f.right = 0) {d : Int × Int} (hd : DOk d) {g h : Nat} {cg ch : List V} (fg : ∀ rd, frzL rd cg = some cg) (fh : ∀ rd, frzL rd ch = some ch) (mg : ∀ a b c, mpL a b c cg = cg) (mh : ∀ a b c, mpL a b c ch = ch) {n : Nat} (hn : 1 ≤ n ∧ n ≤ 9) {st th : Nat → Int}
    (hg : ∀ i : Nat, i < n → R g (I i :: cg) = some (I (st i))) (hh : ∀ i : Nat, i < n → R h (I i :: ch) = some (I (th i))) (hst : ∀ i, -128 ≤ st i ∧ st i ≤ 127) (hth : ∀ i, 0 ≤ th i ∧ th i ≤ f.pitch / 2 + 127) {l q : Int} (hl : 0 ≤ l ∧ l ≤ 3000) (hq : 0 ≤ q ∧ q ≤ 3000) :
    R 46 [.fn (.f g) cg, .fn (.f h) ch, I l, I q, .cref [I n], .cref (eF f), .cref [I d.1, I d.2]] = some (I (screwV f d (thrG f st th l q n))) := by
  have hc := chkT_G hp hst hth hl hq hn
  have e1 := p17 f d (thrG f st th l q n)
  have hsc : scE f d (thrG f st th l q n) = 0 := by
    have h1 : opE f d [thrG f st th l q n] = 0 := by
      unfold opE chkAll
      rw [if_pos hf]
      simp [hc, dOk_iff.2 hd]
    unfold scE
    rw [if_neg (fun x => x h1), if_neg hz]
  rw [hsc] at e1
  have hpos : ∀ i : Nat, -(43000 * (i : Int)) ≤ posG f st i ∧ posG f st i ≤ 43000 * (i : Int) := by
    intro i
    induction i with
    | zero => simp [posG]
    | succ i ih =>
      have := hst (i + 1)
      rw [posG]
      omega
  have L := loop_all (s := fun i => { fr := [(0, .fn (.f g) cg), (1, .fn (.f h) ch), (4, .cref [I n]), (5, .cref (eF f)), (6, .cref [I d.1, I d.2]), (12, .box [.sl (some 2004500) 2 (eS2 (teethG f st th i)), I l, I q]), (13, I (posG f st (i - 1))), (14, I i)], tk := [] }) (f := evC2 R 10 b46_0) (n := n)
    (X := (.exit 0, { fr := [(0, .fn (.f g) cg), (1, .fn (.f h) ch), (4, .cref [I n]), (5, .cref (eF f)), (6, .cref [I d.1, I d.2]), (12, .box [.sl (some 2004500) 2 (eS2 (teethG f st th n)), I l, I q]), (13, I (posG f st (n - 1))), (14, I n), (22, B false)], tk := [] }))
    (fun i hi => by
      have hacc : eS2 (teethG f st th (i + 1)) = eS2 (teethG f st th i) ++ [[I (posG f st i), I (posG f st i + th i)]] := by unfold teethG; rw [List.range_succ, List.map_append, eS2, List.map_append]; rfl
      have hll : (eS2 (teethG f st th i)).length ≤ 9 := by simp [teethG]; omega
      have k1 := hg i hi
      have k2 := hh i hi
      have b1 := hpos i
      have b2 := hst i
      have b3 := hth i
      rw [hacc, Nat.add_sub_cancel]
      generalize eS2 (teethG f st th i) = tl at *
      clear hg hh hc e1 hsc
      by_cases h0 : i = 0
      · subst h0
        simp only [posG, Nat.zero_sub] at *
        have hn0 : (0 : Int) < n := by omega
        have hn1 : 0 < n := by omega
        simp only [Int.natCast_zero] at k1 k2
        generalize th 0 = t0 at *
        simp (maxSteps := 2000000) (disch := first | omega | (simp; done) | (simp; omega)) [-getElem?_pos, b46_0, eF, hn0, hn1, k2, fh, mg, mh, wrap64]
      · obtain ⟨j, rfl⟩ : ∃ j, i = j + 1 := ⟨i - 1, by omega⟩
        have b4 := hpos j
        have hps : posG f st (j + 1) = posG f st j + (f.pitch + st (j + 1)) := rfl
        rw [hps] at b1 ⊢
        rw [Nat.add_sub_cancel]
        have hlt : ((j : Int) + 1) < n := by omega
        have hj0 : (0 : Int) < (j : Int) + 1 := by omega
        simp only [Int.natCast_add, Int.natCast_one] at k1 k2
        generalize st (j + 1) = s1 at *
        generalize th (j + 1) = t1 at *
        generalize posG f st j = ps at *
        clear hpos hst hth
        simp (maxSteps := 2000000) (disch := first | omega | (simp; done) | (simp; omega)) [-getElem?_pos, b46_0, eF, hlt, hj0, k1, k2, fg, fh, mg, mh, wrap64]) (by
      generalize eS2 (teethG f st th n) = tl at *
      generalize posG f st (n - 1) = ps at *
      clear hg hh hpos hst hth e1
      simp (maxSteps := 2000000) (disch := first | omega | (simp; done) | (simp; omega)) [-getElem?_pos, b46_0, eF, mg, mh]) (by simp)
  have L := iter_le (f := evC2 R 10 b46_0) (fun _ _ h => h) (show n + 1 ≤ 10 by omega) L
  have hT : eT (thrG f st th l q n) = [S 2 (eS2 (teethG f st th n)), I l, I q] := rfl
  rw [hT] at e1
  have h00 : eS2 (teethG f st th 0) = [] := rfl
  have h01 : posG f st (0 - 1) = 0 := rfl
  simp only [h00, h01, Int.natCast_zero] at L
  have fl := flat_eS2 (teethG f st th n)
  generalize eS2 (teethG f st th n) = tl at *
  generalize posG f st (n - 1) = ps at *
  generalize screwV f d (thrG f st th l q n) = sv at *
  simp only [eF, if_true] at e1 L ⊢
  clear hg hh hpos hst hth
  refine run2_body 10 rfl rfl rfl rfl rfl ?_
  simp (maxSteps := 2000000) (disch := first | omega | (simp; done) | (simp; omega)) [-getElem?_pos, l46, L, e1, fg, fh, fl, mg, mh]
end Go.Lo

/- Rules in small numbers, as arguments. -/
namespace Go.Lo
open Go.Proofs
set_option linter.unusedSimpArgs false
abbrev rmTy : Ty := .st [arTy 2 .i8, arTy 2 .i8, arTy 2 .i8, arTy 2 .i8, .int .u8, .sl (.int .u8)]
theorem can_rm {v : V} (h : HasV rmTy v) : ∃ x : Rmn, Rel (.agg (eRm x)) noT v ∧ x.Ok := by
  simp only [HasV] at h
  obtain ⟨cs, rfl, h⟩ := h
  obtain ⟨x1, r1, rfl, h1, h⟩ := h.inv
  obtain ⟨x2, r2, rfl, h2, h⟩ := h.inv
  obtain ⟨x3, r3, rfl, h3, h⟩ := h.inv
  obtain ⟨x4, r4, rfl, h4, h⟩ := h.inv
  obtain ⟨x5, r5, rfl, h5, h⟩ := h.inv
  obtain ⟨x6, r6, rfl, h6, h⟩ := h.inv
  rw [HasCs] at h
  subst h
  obtain ⟨a1, b1, rfl, wa1, wb1⟩ := can_ar2 h1
  obtain ⟨a2, b2, rfl, wa2, wb2⟩ := can_ar2 h2
  obtain ⟨a3, b3, rfl, wa3, wb3⟩ := can_ar2 h3
  obtain ⟨a4, b4, rfl, wa4, wb4⟩ := can_ar2 h4
  obtain ⟨t, rfl, wt⟩ := can_k h5
  obtain ⟨s, rfl⟩ := h6.sl1
  obtain ⟨xs, hl, hq⟩ := can_intsK h6
  refine ⟨⟨(a1, b1), (a2, b2), (a3, b3), (a4, b4), t, xs⟩, ?_, ⟨⟨wf_i8 wa1, wf_i8 wb1⟩, ⟨wf_i8 wa2, wf_i8 wb2⟩, ⟨wf_i8 wa3, wf_i8 wb3⟩, ⟨wf_i8 wa4, wf_i8 wb4⟩, wf_u8 wt, fun n hn => wf_u8 (hq n hn)⟩⟩
  rw [Rel]
  refine ⟨_, rfl, RelL.cons (rel_int _ _) (RelL.cons (rel_int _ _) (RelL.cons (rel_int _ _) (RelL.cons (rel_int _ _) (RelL.cons (rel_int _ _) (RelL.cons (rel_int _ _) (RelL.cons (rel_int _ _) (RelL.cons (rel_int _ _) (RelL.cons (rel_int _ _) (RelL.one ?_)))))))))⟩
  exact hl
end Go.Lo

/- FitRange. -/
namespace Go.Lo
open Go.Proofs
set_option linter.unusedSimpArgs false
set_option maxHeartbeats 8000000
theorem y_idx3 {call : Nat → List V → Option V} {bx : Nat → Option (List V)} {ex : List Nat} {d : Nat} {s : Int × Int} {to : Int} {m : Nat} (hm : m < 3) : sem2 call bx ex d (.idx 3 1 none) [.agg [I s.1, I s.2, I (near1 s to)], .int .i64 (m : Int)] = some (.val (I (endAt s to m))) := by
  match m, hm with
  | 0, _ => rfl
  | 1, _ => rfl
  | 2, _ => rfl
theorem y_idx2 {call : Nat → List V → Option V} {bx : Nat → Option (List V)} {ex : List Nat} {d : Nat} {s : Int × Int} {m : Nat} (hm : m < 2) : sem2 call bx ex d (.idx 2 1 none) [.agg [I s.1, I s.2], .int .i64 (m : Int)] = some (.val (I (thAt s m))) := by
  match m, hm with
  | 0, _ => rfl
  | 1, _ => rfl
theorem ytmod (k c : Nat) : (k : Int).tmod (c : Int) = ((k % c : Nat) : Int) := by rw [Int.tmod_eq_emod_of_nonneg (by omega)]; exact (Int.natCast_emod k c).symm
theorem ytdiv (k c : Nat) : (k : Int).tdiv (c : Int) = ((k / c : Nat) : Int) := by rw [Int.tdiv_eq_ediv_of_nonneg (by omega)]; exact (Int.natCast_ediv k c).symm
def hitB (v : Nat → Int) (z : Int) : Nat → Bool
  | 0 => false
  | k + 1 => hitB v z k || decide (v k = z)
theorem hitB_true {v : Nat → Int} {z : Int} : ∀ {n k : Nat}, k < n → v k = z → hitB v z n = true
  | n + 1, k, h, hv => by
    unfold hitB
    by_cases h0 : k = n
    · subst h0; simp [hv]
    · rw [hitB_true (show k < n by omega) hv]; rfl
def madR (a : Mad) (x : Rmn) : Rul := ⟨btw 0 (-1000) x.step, btw ((madF a).pitch / 2) 0 x.thick, btw (madF a).left 0 x.left, btw (madF a).right 0 x.right⟩
theorem madR_num {a : Mad} (ha : a.Ok) {x : Rmn} (hx : x.Ok) : RNum (madR a x) ∧ rulB (madR a x) = true ∧ (-128 ≤ (madR a x).step.1 ∧ (madR a x).step.2 ≤ 127) ∧ (madR a x).thick.2 ≤ (madF a).pitch / 2 + 127 := by
  obtain ⟨hP, hL, hR⟩ := madF_bd ha
  have h1 := hx.step
  have h2 := hx.thick
  have h3 := hx.left
  have h4 := hx.right
  unfold i8p at h1 h2 h3 h4
  have k1 : -1000 ≤ (madR a x).step.1 ∧ (madR a x).step.1 ≤ (madR a x).step.2 ∧ (madR a x).step.2 ≤ 1000 := by simp only [madR, btw]; omega
  have k2 : 0 ≤ (madR a x).thick.1 ∧ (madR a x).thick.1 ≤ (madR a x).thick.2 ∧ (madR a x).thick.2 ≤ 200000 := by simp only [madR, btw]; omega
  have k3 : 0 ≤ (madR a x).left.1 ∧ (madR a x).left.1 ≤ (madR a x).left.2 ∧ (madR a x).left.2 ≤ 3000 := by simp only [madR, btw]; omega
  have k4 : 0 ≤ (madR a x).right.1 ∧ (madR a x).right.1 ≤ (madR a x).right.2 ∧ (madR a x).right.2 ≤ 3000 := by simp only [madR, btw]; omega
  refine ⟨⟨k1, k2, k3, k4⟩, ?_, ?_, ?_⟩
  · unfold rulB spB
    simp only [Bool.and_eq_true, decide_eq_true_eq]
    exact ⟨⟨⟨k1, k2⟩, k3⟩, k4⟩
  · simp only [madR, btw]; omega
  · simp only [madR, btw]; omega
/-- The state of the law's loop. -/
def sR (x : Rmn) (f : Frm) (d : Int × Int) (n : Int) (r : Rul) (lo hi sm : Int) (l h : Bool) (k : Nat) (e : List (Nat × V)) : St :=
  { fr := [(4, .box (eRm x)), (7, .box (eF f)), (8, .box [I d.1, I d.2]), (9, .box [I n]), (10, .box (eRu r)), (11, .box [I lo, I hi]), (13, .fn (.f 45) []), (14, .fn (.f 46) [.ref 9 0, .ref 7 0, .ref 8 0]), (15, .box [.fn (.f 47) [.ref 4 0]]), (16, I sm), (17, B l), (18, B h), (19, I k)] ++ e, tk := [] }
theorem round_R (x : Rmn) {f : Frm} (hf : frmB f = true) (hp : 2000 ≤ f.pitch ∧ f.pitch ≤ 42000) (hz : ¬ f.left + f.right = 0) {d : Int × Int} (hd : DOk d) {n : Nat} (hn : 1 ≤ n ∧ n ≤ 9) {r : Rul} (hr : RNum r) (h8 : -128 ≤ r.step.1 ∧ r.step.2 ≤ 127) (h9 : r.thick.2 ≤ f.pitch / 2 + 127) {lo hi : Int} (sm : Int) (l h : Bool) {k : Nat} (hk : k < 54)
    (hin : lo ≤ screwV f d (candR f r n k) ∧ screwV f d (candR f r n k) ≤ hi) {e : List (Nat × V)} (hu : e = [] ∨ ∃ a b : Int, e = [(20, .box [I a]), (21, .box [I b])]) :
    evC2 R 60 b10_0 (sR x f d n r lo hi sm l h k e) = some (.normal, sR x f d n r lo hi sm (l || decide (screwV f d (candR f r n k) = lo)) (h || decide (screwV f d (candR f r n k) = hi)) (k + 1) [(20, .box [I (endAt r.step 0 (k % 3))]), (21, .box [I (thAt r.thick (k / 3 % 2))])]) := by
  have b1 := endAt_in hr.step.2.1 0 (k % 3)
  have b2 : r.thick.1 ≤ thAt r.thick (k / 3 % 2) ∧ thAt r.thick (k / 3 % 2) ≤ r.thick.2 := by unfold thAt; have := hr.thick; split <;> omega
  have b3 := endAt_in hr.left.2.1 f.left (k / 6 % 3)
  have b4 := endAt_in hr.right.2.1 f.right (k / 18)
  have hl := hr.left
  have hq := hr.right
  have ht := hr.thick
  have e1 := p46 hf hp hz hd (g := 50) (h := 51) (cg := [.cref [I (endAt r.step 0 (k % 3))]]) (ch := [.cref [I (thAt r.thick (k / 3 % 2))]]) (fun _ => rfl) (fun _ => rfl) (fun _ _ _ => rfl) (fun _ _ _ => rfl) hn
    (st := fun _ => endAt r.step 0 (k % 3)) (th := fun _ => thAt r.thick (k / 3 % 2)) (fun i _ => p50 i _) (fun i _ => p51 i _) (fun _ => by omega) (fun _ => by omega) (l := endAt r.left f.left (k / 6 % 3)) (q := endAt r.right f.right (k / 18)) (by omega) (by omega)
  have hc : thrG f (fun _ => endAt r.step 0 (k % 3)) (fun _ => thAt r.thick (k / 3 % 2)) (endAt r.left f.left (k / 6 % 3)) (endAt r.right f.right (k / 18)) n = candR f r n k := rfl
  rw [hc] at e1
  generalize screwV f d (candR f r n k) = z at *
  have g1 := p45 r.step 0
  have g2 := p45 r.left f.left
  have g3 := p45 r.right f.right
  have x1 : ∀ (bx : Nat → Option (List V)) ex d', sem2 R bx ex d' (.idx 3 1 none) [.agg [I r.step.1, I r.step.2, I (near1 r.step 0)], .int .i64 ((k % 3 : Nat) : Int)] = some (.val (I (endAt r.step 0 (k % 3)))) := fun _ _ _ => y_idx3 (Nat.mod_lt _ (by omega))
  have x2 : ∀ (bx : Nat → Option (List V)) ex d', sem2 R bx ex d' (.idx 2 1 none) [.agg [I r.thick.1, I r.thick.2], .int .i64 ((k / 3 % 2 : Nat) : Int)] = some (.val (I (thAt r.thick (k / 3 % 2)))) := fun _ _ _ => y_idx2 (Nat.mod_lt _ (by omega))
  have x3 : ∀ (bx : Nat → Option (List V)) ex d', sem2 R bx ex d' (.idx 3 1 none) [.agg [I r.left.1, I r.left.2, I (near1 r.left f.left)], .int .i64 ((k / 6 % 3 : Nat) : Int)] = some (.val (I (endAt r.left f.left (k / 6 % 3)))) := fun _ _ _ => y_idx3 (Nat.mod_lt _ (by omega))
  have x4 : ∀ (bx : Nat → Option (List V)) ex d', sem2 R bx ex d' (.idx 3 1 none) [.agg [I r.right.1, I r.right.2, I (near1 r.right f.right)], .int .i64 ((k / 18 : Nat) : Int)] = some (.val (I (endAt r.right f.right (k / 18)))) := fun _ _ _ => y_idx3 (by omega)
  have q1 : (k : Int).tmod 3 = ((k % 3 : Nat) : Int) := ytmod k 3
  have q2 : (k : Int).tdiv 3 = ((k / 3 : Nat) : Int) := ytdiv k 3
  have q3 : ((k / 3 : Nat) : Int).tmod 2 = ((k / 3 % 2 : Nat) : Int) := ytmod (k / 3) 2
  have q4 : (k : Int).tdiv 6 = ((k / 6 : Nat) : Int) := ytdiv k 6
  have q5 : ((k / 6 : Nat) : Int).tmod 3 = ((k / 6 % 3 : Nat) : Int) := ytmod (k / 6) 3
  have q6 : (k : Int).tdiv 18 = ((k / 18 : Nat) : Int) := ytdiv k 18
  have w2 : IntKind.i64.wrap ((k / 3 : Nat) : Int) = ((k / 3 : Nat) : Int) := wrap64 (by omega) (by omega)
  have w4 : IntKind.i64.wrap ((k / 6 : Nat) : Int) = ((k / 6 : Nat) : Int) := wrap64 (by omega) (by omega)
  have w6 : IntKind.i64.wrap ((k / 18 : Nat) : Int) = ((k / 18 : Nat) : Int) := wrap64 (by omega) (by omega)
  have w7 : IntKind.i64.wrap ((k : Int) + 1) = (k : Int) + 1 := wrap64 (by omega) (by omega)
  have hlt : (k : Int) < 54 := by omega
  have c1 : ¬ z < lo := by omega
  have c2 : ¬ z > hi := by omega
  have c3 : ¬ hi < z := by omega
  clear b1 b2 b3 b4 hl hq ht hc hn h8 h9 hp hz hd hf hin
  generalize endAt r.step 0 (k % 3) = y1 at *
  generalize thAt r.thick (k / 3 % 2) = y2 at *
  generalize endAt r.left f.left (k / 6 % 3) = y3 at *
  generalize endAt r.right f.right (k / 18) = y4 at *
  generalize k % 3 = m1 at *
  generalize k / 3 % 2 = m2 at *
  generalize k / 6 % 3 = m3 at *
  generalize k / 3 = k3 at *
  generalize k / 6 = k6 at *
  generalize k / 18 = k18 at *
  generalize near1 r.step 0 = z1 at *
  generalize near1 r.left f.left = z2 at *
  generalize near1 r.right f.right = z3 at *
  unfold sR
  simp only [eRm, eF, eRu, List.cons_append, List.nil_append, List.append_nil] at e1 ⊢
  have EQ := fun (_ : Unit) => And.intro q1 (And.intro q2 (And.intro q3 (And.intro q4 (And.intro q5 (And.intro q6 (And.intro w2 (And.intro w4 (And.intro w6 w7))))))))
  clear q1 q2 q3 q4 q5 q6 w2 w4 w6 w7
  have hbz : (z == lo) = decide (z = lo) := by rw [Bool.eq_iff_iff]; simp
  rcases hu with rfl | ⟨ua, va, rfl⟩
  · cases l <;> cases h <;> simp (maxSteps := 2000000) (disch := first | omega | (simp; done) | (simp; omega)) [-getElem?_pos, b10_0, eRm, eF, eRu, e1, g1, g2, g3, x1, x2, x3, x4, hlt, c1, c2, c3, EQ ()]
  · cases l <;> cases h <;> simp (maxSteps := 2000000) (disch := first | omega | (simp; done) | (simp; omega)) [-getElem?_pos, b10_0, eRm, eF, eRu, e1, g1, g2, g3, x1, x2, x3, x4, hlt, c1, c2, c3, EQ ()]
end Go.Lo

/- FitRange: the law. -/
namespace Go.Lo
open Go.Proofs
set_option linter.unusedSimpArgs false
set_option maxHeartbeats 8000000
def exR (r : Rul) (k : Nat) : List (Nat × V) := if k = 0 then [] else [(20, .box [I (endAt r.step 0 ((k - 1) % 3))]), (21, .box [I (thAt r.thick ((k - 1) / 3 % 2))])]
theorem loop_R (x : Rmn) {f : Frm} (hf : frmB f = true) (hp : 2000 ≤ f.pitch ∧ f.pitch ≤ 42000) (hz : ¬ f.left + f.right = 0) {d : Int × Int} (hd : DOk d) {n : Nat} (hn : 1 ≤ n ∧ n ≤ 9) {r : Rul} (hr : RNum r) (h8 : -128 ≤ r.step.1 ∧ r.step.2 ≤ 127) (h9 : r.thick.2 ≤ f.pitch / 2 + 127) (sm : Int) {lo hi : Int}
    (hin : ∀ k, k < 54 → lo ≤ screwV f d (candR f r n k) ∧ screwV f d (candR f r n k) ≤ hi) (h1 : ∃ k, k < 54 ∧ screwV f d (candR f r n k) = lo) (h2 : ∃ k, k < 54 ∧ screwV f d (candR f r n k) = hi) :
    iter (evC2 R 60 b10_0) 60 (sR x f d n r lo hi sm false false 0 []) =
      some (.exit 0, { fr := [(4, .box (eRm x)), (7, .box (eF f)), (8, .box [I d.1, I d.2]), (9, .box [I n]), (10, .box (eRu r)), (11, .box [I lo, I hi]), (13, .fn (.f 45) []), (14, .fn (.f 46) [.ref 9 0, .ref 7 0, .ref 8 0]), (15, .box [.fn (.f 47) [.ref 4 0]]), (16, I sm), (17, B true), (18, B true), (19, I 54), (20, .box [I (endAt r.step 0 2)]), (21, .box [I (thAt r.thick 1)]), (84, B false)], tk := [] }) := by
  obtain ⟨ka, a1, a2⟩ := h1
  obtain ⟨kb, b1, b2⟩ := h2
  have t1 := hitB_true (v := fun k => screwV f d (candR f r n k)) a1 a2
  have t2 := hitB_true (v := fun k => screwV f d (candR f r n k)) b1 b2
  have L := loop_all (s := fun k => sR x f d n r lo hi sm (hitB (fun k => screwV f d (candR f r n k)) lo k) (hitB (fun k => screwV f d (candR f r n k)) hi k) k (exR r k)) (f := evC2 R 60 b10_0) (n := 54)
    (X := (.exit 0, { fr := [(4, .box (eRm x)), (7, .box (eF f)), (8, .box [I d.1, I d.2]), (9, .box [I n]), (10, .box (eRu r)), (11, .box [I lo, I hi]), (13, .fn (.f 45) []), (14, .fn (.f 46) [.ref 9 0, .ref 7 0, .ref 8 0]), (15, .box [.fn (.f 47) [.ref 4 0]]), (16, I sm), (17, B true), (18, B true), (19, I 54), (20, .box [I (endAt r.step 0 2)]), (21, .box [I (thAt r.thick 1)]), (84, B false)], tk := [] }))
    (fun k hk => by
      have h := round_R x hf hp hz hd hn hr h8 h9 sm (hitB (fun k => screwV f d (candR f r n k)) lo k) (hitB (fun k => screwV f d (candR f r n k)) hi k) hk (hin k hk) (e := exR r k) (by
        unfold exR
        by_cases h0 : k = 0
        · left; rw [if_pos h0]
        · right; rw [if_neg h0]; exact ⟨_, _, rfl⟩)
      exact h) (by
      rw [t1, t2]
      unfold sR
      have hu : exR r 54 = [(20, .box [I (endAt r.step 0 2)]), (21, .box [I (thAt r.thick 1)])] := rfl
      rw [hu]
      simp (maxSteps := 2000000) (disch := first | omega | (simp; done) | (simp; omega)) [-getElem?_pos, b10_0]) (by simp)
  have L := iter_le (f := evC2 R 60 b10_0) (fun _ _ h => h) (show 54 + 1 ≤ 60 by omega) L
  exact L
theorem p10_range (hk : R 14 [] = some (B true)) {a : Mad} (ha : a.Ok) {x : Rmn} (hx : x.Ok) {at_ : Int × Int} (hat : (-128 ≤ at_.1 ∧ at_.1 ≤ 127) ∧ (-128 ≤ at_.2 ∧ at_.2 ≤ 127)) :
    R 10 [.agg (eMad a), .agg (eRm x), .agg [J at_.1, J at_.2]] = some (B true) := by
  have hd := madD_ok hat
  have hf := frmB_made ha
  have hF := madF_num ha
  obtain ⟨hP, hL, hR⟩ := madF_bd ha
  have hz : ¬ (madF a).left + (madF a).right = 0 := by omega
  obtain ⟨hr, hrb, h8, h9⟩ := madR_num ha hx
  have ht := hx.turns
  have e1 := p39 ha
  have e2 := p40 hat
  have b1 := p44 (mid := 0) (least := -1000) (by omega) hx.step
  have b2 := p44 (mid := (madF a).pitch / 2) (least := 0) (by omega) hx.thick
  have b3 := p44 (mid := (madF a).left) (least := 0) (by omega) hx.left
  have b4 := p44 (mid := (madF a).right) (least := 0) (by omega) hx.right
  have r1 : btw 0 (-1000) x.step = (madR a x).step := rfl
  have r2 : btw ((madF a).pitch / 2) 0 x.thick = (madR a x).thick := rfl
  have r3 : btw (madF a).left 0 x.left = (madR a x).left := rfl
  have r4 : btw (madF a).right 0 x.right = (madR a x).right := rfl
  rw [r1] at b1
  rw [r2] at b2
  rw [r3] at b3
  rw [r4] at b4
  have q0 : (madF a).pitch.tdiv 2 = (madF a).pitch / 2 := Int.tdiv_eq_ediv_of_nonneg (by omega)
  have q1 : x.turns.tmod 9 = x.turns % 9 := Int.tmod_eq_emod_of_nonneg ht.1
  have w1 := wrap64 (n := x.turns) (by omega) (by omega)
  have w2 := wrap64 (n := (madF a).pitch / 2) (by omega) (by omega)
  obtain ⟨n, hn⟩ : ∃ n : Nat, 1 + x.turns % 9 = n := ⟨(1 + x.turns % 9).toNat, by omega⟩
  have hnn : 1 ≤ n ∧ n ≤ 9 := by omega
  have w3 := wrap64 (n := (n : Int)) (by omega) (by omega)
  have e3 := p35 (madF a) (madD at_) (madR a x) n
  unfold costE at e3
  rw [hf, hrb, dOk_iff.2 hd, if_neg (by simp), if_neg (by omega), if_neg (by simp), if_neg (by simp), if_neg hz] at e3
  have hin : ∀ k, k < 54 → (costV (madF a) (madD at_) (madR a x) n).1 ≤ screwV (madF a) (madD at_) (candR (madF a) (madR a x) n k) ∧ screwV (madF a) (madD at_) (candR (madF a) (madR a x) n k) ≤ (costV (madF a) (madD at_) (madR a x) n).2 := fun k _ =>
    costIn hF hz (sizeG_in hd.le hr (fun _ => endAt_in hr.step.2.1 0 _) (fun _ => by unfold thAt; have := hr.thick; split <;> omega) (endAt_in hr.left.2.1 _ _) (endAt_in hr.right.2.1 _ _) (by omega))
  obtain ⟨⟨ka, a1, a2⟩, kb, c1, c2⟩ := endsR (f := madF a) (d := madD at_) hd.le hr (n := n) (by omega)
  have hlo := hin 0 (by omega)
  have L := fun sm => loop_R x hf hP hz hd hnn hr h8 h9 sm hin ⟨ka, a1, costAt a2⟩ ⟨kb, c1, costAt c2⟩
  have hsl := hr.left
  have hsr := hr.right
  have hst := hr.step
  have hth := hr.thick
  have y1 := byV_in (x := x) hsl.2.1 3
  have y2 := byV_in (x := x) hsr.2.1 5
  have g1 : R 47 [eS (madR a x).left, I 3, .cref (eRm x)] = some (I (byV x (madR a x).left 3)) := p47 hx (s := (madR a x).left) (by omega) (i := 3) (by omega)
  have g2 : R 47 [eS (madR a x).right, I 5, .cref (eRm x)] = some (I (byV x (madR a x).right 5)) := p47 hx (s := (madR a x).right) (by omega) (i := 5) (by omega)
  have hsm := costIn hF hz (n := n) (sizeG_in (f := madF a) (d := madD at_) hd.le hr (st := fun i => byV x (madR a x).step i) (th := fun i => byV x (madR a x).thick (2 * i)) (fun i => byV_in hst.2.1 i) (fun i => byV_in hth.2.1 _) (l := byV x (madR a x).left 3) (q := byV x (madR a x).right 5) y1 y2 (n := n) (by omega))
  have e4 := p46 hf hP hz hd (g := 48) (h := 49) (cg := [.cref [.fn (.f 47) [.cref (eRm x)]], .cref (eRu (madR a x))]) (ch := [.cref [.fn (.f 47) [.cref (eRm x)]], .cref (eRu (madR a x))]) (fun _ => rfl) (fun _ => rfl) (fun _ _ _ => rfl) (fun _ _ _ => rfl) hnn
    (st := fun i => byV x (madR a x).step i) (th := fun i => byV x (madR a x).thick (2 * i)) (fun i _ => p48 hx hr (by omega)) (fun i _ => p49 hx hr (by omega)) (fun i => by have := byV_in (x := x) hst.2.1 i; omega) (fun i => by have := byV_in (x := x) hth.2.1 (2 * i); omega) (l := byV x (madR a x).left 3) (q := byV x (madR a x).right 5) (by omega) (by omega)
  generalize screwV (madF a) (madD at_) (thrG (madF a) (fun i => byV x (madR a x).step i) (fun i => byV x (madR a x).thick (2 * i)) (byV x (madR a x).left 3) (byV x (madR a x).right 5) n) = sm at *
  have L := L sm
  generalize byV x (madR a x).left 3 = z1 at *
  generalize byV x (madR a x).right 5 = z2 at *
  have hle : ¬ (costV (madF a) (madD at_) (madR a x) n).1 > (costV (madF a) (madD at_) (madR a x) n).2 := by omega
  have hle2 : ¬ (costV (madF a) (madD at_) (madR a x) n).2 < (costV (madF a) (madD at_) (madR a x) n).1 := by omega
  clear hin a2 c2 r1 r2 r3 r4
  generalize costV (madF a) (madD at_) (madR a x) n = cv at *
  generalize madR a x = r at *
  generalize madF a = f at *
  generalize madD at_ = d at *
  have EQ := fun (_ : Unit) => And.intro q0 (And.intro q1 (And.intro w1 (And.intro w2 (And.intro w3 hn))))
  clear q0 q1 w1 w2 w3 hn
  unfold sR at L
  simp only [eMad, eRm, eF, eRu, sE, Int.natCast_zero, List.cons_append, List.nil_append, List.append_nil] at e1 e2 e3 e4 b1 b2 b3 b4 g1 g2 L ⊢
  clear hr h8 h9 hF hP hL hR hz hsl hsr hst hth ht hlo hnn y1 y2 hx ha hat hd hf hrb
  refine run2_body 60 rfl rfl rfl rfl rfl ?_
  simp (maxSteps := 2000000) (disch := first | omega | (simp; done) | (simp; omega)) [-getElem?_pos, l10, e1, e2, e3, e4, b1, b2, b3, b4, g1, g2, L, hle, hle2, hsm.1, hsm.2, hk, EQ ()]
  done
end Go.Lo
