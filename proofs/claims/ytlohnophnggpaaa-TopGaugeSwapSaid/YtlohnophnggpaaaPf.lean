/- Texts put together. -/
import Derived.Test.YtlohnophnggpaaaPe
import Derived.Test.YtlohnophnggpaaaProg
import Derived.KernelRfl
/- The functions that are reached, compiled for the plain machine. -/
namespace Go.Lo
open Go.Proofs
def C2 : Nat → Option LFun
  | 4 => some l4
  | 7 => some l7
  | 10 => some l10
  | 11 => some l11
  | 12 => some l12
  | 13 => some l13
  | 14 => some l14
  | 15 => some l15
  | 16 => some l16
  | 17 => some l17
  | 18 => some l18
  | 19 => some l19
  | 29 => some l29
  | 30 => some l30
  | 31 => some l31
  | 32 => some l32
  | 33 => some l33
  | 34 => some l34
  | 35 => some l35
  | 36 => some l36
  | 37 => some l37
  | 38 => some l38
  | 39 => some l39
  | 40 => some l40
  | 42 => some l42
  | 49 => some l49
  | 50 => some l50
  | 51 => some l51
  | 52 => some l52
  | 56 => some l56
  | 57 => some l57
  | 58 => some l58
  | 59 => some l59
  | 60 => some l60
  | 61 => some l61
  | 62 => some l62
  | 63 => some l63
  | 64 => some l64
  | 65 => some l65
  | 66 => some l66
  | 67 => some l67
  | 68 => some l68
  | 69 => some l69
  | 70 => some l70
  | 71 => some l71
  | 72 => some l72
  | 73 => some l73
  | 74 => some l74
  | 75 => some l75
  | 81 => some l81
  | 85 => some l85
  | 90 => some l90
  | 92 => some l92
  | 93 => some l93
  | 94 => some l94
  | 95 => some l95
  | 96 => some l96
  | 97 => some l97
  | 103 => some l103
  | 105 => some l105
  | 106 => some l106
  | 107 => some l107
  | 108 => some l108
  | 109 => some l109
  | 111 => some l111
  | 112 => some l112
  | 113 => some l113
  | _ => none
def Ct : Nat → Option LFun := fun k => (C2 k).map unF
def Ft : Nat → Option (List V → Option V) := fun _ => none
theorem tabOk : TabOk Try.prog Ft Ct where
  mixed := by kernel_rfl
  told _ _ _ _ h := by cases h
  code f lf h := by
    unfold Ct at h
    obtain ⟨l, hl, rfl⟩ := Option.map_eq_some_iff.1 h
    unfold C2 at hl
    split at hl
    · injection hl with hl; subst hl; exact ⟨_, _, Try.func4, of_decide_eq_true (by kernel_rfl), c4⟩
    · injection hl with hl; subst hl; exact ⟨_, _, Try.func7, of_decide_eq_true (by kernel_rfl), c7⟩
    · injection hl with hl; subst hl; exact ⟨_, _, Try.func10, of_decide_eq_true (by kernel_rfl), c10⟩
    · injection hl with hl; subst hl; exact ⟨_, _, Try.func11, of_decide_eq_true (by kernel_rfl), c11⟩
    · injection hl with hl; subst hl; exact ⟨_, _, Try.func12, of_decide_eq_true (by kernel_rfl), c12⟩
    · injection hl with hl; subst hl; exact ⟨_, _, Try.func13, of_decide_eq_true (by kernel_rfl), c13⟩
    · injection hl with hl; subst hl; exact ⟨_, _, Try.func14, of_decide_eq_true (by kernel_rfl), c14⟩
    · injection hl with hl; subst hl; exact ⟨_, _, Try.func15, of_decide_eq_true (by kernel_rfl), c15⟩
    · injection hl with hl; subst hl; exact ⟨_, _, Try.func16, of_decide_eq_true (by kernel_rfl), c16⟩
    · injection hl with hl; subst hl; exact ⟨_, _, Try.func17, of_decide_eq_true (by kernel_rfl), c17⟩
    · injection hl with hl; subst hl; exact ⟨_, _, Try.func18, of_decide_eq_true (by kernel_rfl), c18⟩
    · injection hl with hl; subst hl; exact ⟨_, _, Try.func19, of_decide_eq_true (by kernel_rfl), c19⟩
    · injection hl with hl; subst hl; exact ⟨_, _, Try.func29, of_decide_eq_true (by kernel_rfl), c29⟩
    · injection hl with hl; subst hl; exact ⟨_, _, Try.func30, of_decide_eq_true (by kernel_rfl), c30⟩
    · injection hl with hl; subst hl; exact ⟨_, _, Try.func31, of_decide_eq_true (by kernel_rfl), c31⟩
    · injection hl with hl; subst hl; exact ⟨_, _, Try.func32, of_decide_eq_true (by kernel_rfl), c32⟩
    · injection hl with hl; subst hl; exact ⟨_, _, Try.func33, of_decide_eq_true (by kernel_rfl), c33⟩
    · injection hl with hl; subst hl; exact ⟨_, _, Try.func34, of_decide_eq_true (by kernel_rfl), c34⟩
    · injection hl with hl; subst hl; exact ⟨_, _, Try.func35, of_decide_eq_true (by kernel_rfl), c35⟩
    · injection hl with hl; subst hl; exact ⟨_, _, Try.func36, of_decide_eq_true (by kernel_rfl), c36⟩
    · injection hl with hl; subst hl; exact ⟨_, _, Try.func37, of_decide_eq_true (by kernel_rfl), c37⟩
    · injection hl with hl; subst hl; exact ⟨_, _, Try.func38, of_decide_eq_true (by kernel_rfl), c38⟩
    · injection hl with hl; subst hl; exact ⟨_, _, Try.func39, of_decide_eq_true (by kernel_rfl), c39⟩
    · injection hl with hl; subst hl; exact ⟨_, _, Try.func40, of_decide_eq_true (by kernel_rfl), c40⟩
    · injection hl with hl; subst hl; exact ⟨_, _, Try.func42, of_decide_eq_true (by kernel_rfl), c42⟩
    · injection hl with hl; subst hl; exact ⟨_, _, Try.func49, of_decide_eq_true (by kernel_rfl), c49⟩
    · injection hl with hl; subst hl; exact ⟨_, _, Try.func50, of_decide_eq_true (by kernel_rfl), c50⟩
    · injection hl with hl; subst hl; exact ⟨_, _, Try.func51, of_decide_eq_true (by kernel_rfl), c51⟩
    · injection hl with hl; subst hl; exact ⟨_, _, Try.func52, of_decide_eq_true (by kernel_rfl), c52⟩
    · injection hl with hl; subst hl; exact ⟨_, _, Try.func56, of_decide_eq_true (by kernel_rfl), c56⟩
    · injection hl with hl; subst hl; exact ⟨_, _, Try.func57, of_decide_eq_true (by kernel_rfl), c57⟩
    · injection hl with hl; subst hl; exact ⟨_, _, Try.func58, of_decide_eq_true (by kernel_rfl), c58⟩
    · injection hl with hl; subst hl; exact ⟨_, _, Try.func59, of_decide_eq_true (by kernel_rfl), c59⟩
    · injection hl with hl; subst hl; exact ⟨_, _, Try.func60, of_decide_eq_true (by kernel_rfl), c60⟩
    · injection hl with hl; subst hl; exact ⟨_, _, Try.func61, of_decide_eq_true (by kernel_rfl), c61⟩
    · injection hl with hl; subst hl; exact ⟨_, _, Try.func62, of_decide_eq_true (by kernel_rfl), c62⟩
    · injection hl with hl; subst hl; exact ⟨_, _, Try.func63, of_decide_eq_true (by kernel_rfl), c63⟩
    · injection hl with hl; subst hl; exact ⟨_, _, Try.func64, of_decide_eq_true (by kernel_rfl), c64⟩
    · injection hl with hl; subst hl; exact ⟨_, _, Try.func65, of_decide_eq_true (by kernel_rfl), c65⟩
    · injection hl with hl; subst hl; exact ⟨_, _, Try.func66, of_decide_eq_true (by kernel_rfl), c66⟩
    · injection hl with hl; subst hl; exact ⟨_, _, Try.func67, of_decide_eq_true (by kernel_rfl), c67⟩
    · injection hl with hl; subst hl; exact ⟨_, _, Try.func68, of_decide_eq_true (by kernel_rfl), c68⟩
    · injection hl with hl; subst hl; exact ⟨_, _, Try.func69, of_decide_eq_true (by kernel_rfl), c69⟩
    · injection hl with hl; subst hl; exact ⟨_, _, Try.func70, of_decide_eq_true (by kernel_rfl), c70⟩
    · injection hl with hl; subst hl; exact ⟨_, _, Try.func71, of_decide_eq_true (by kernel_rfl), c71⟩
    · injection hl with hl; subst hl; exact ⟨_, _, Try.func72, of_decide_eq_true (by kernel_rfl), c72⟩
    · injection hl with hl; subst hl; exact ⟨_, _, Try.func73, of_decide_eq_true (by kernel_rfl), c73⟩
    · injection hl with hl; subst hl; exact ⟨_, _, Try.func74, of_decide_eq_true (by kernel_rfl), c74⟩
    · injection hl with hl; subst hl; exact ⟨_, _, Try.func75, of_decide_eq_true (by kernel_rfl), c75⟩
    · injection hl with hl; subst hl; exact ⟨_, _, Try.func81, of_decide_eq_true (by kernel_rfl), c81⟩
    · injection hl with hl; subst hl; exact ⟨_, _, Try.func85, of_decide_eq_true (by kernel_rfl), c85⟩
    · injection hl with hl; subst hl; exact ⟨_, _, Try.func90, of_decide_eq_true (by kernel_rfl), c90⟩
    · injection hl with hl; subst hl; exact ⟨_, _, Try.func92, of_decide_eq_true (by kernel_rfl), c92⟩
    · injection hl with hl; subst hl; exact ⟨_, _, Try.func93, of_decide_eq_true (by kernel_rfl), c93⟩
    · injection hl with hl; subst hl; exact ⟨_, _, Try.func94, of_decide_eq_true (by kernel_rfl), c94⟩
    · injection hl with hl; subst hl; exact ⟨_, _, Try.func95, of_decide_eq_true (by kernel_rfl), c95⟩
    · injection hl with hl; subst hl; exact ⟨_, _, Try.func96, of_decide_eq_true (by kernel_rfl), c96⟩
    · injection hl with hl; subst hl; exact ⟨_, _, Try.func97, of_decide_eq_true (by kernel_rfl), c97⟩
    · injection hl with hl; subst hl; exact ⟨_, _, Try.func103, of_decide_eq_true (by kernel_rfl), c103⟩
    · injection hl with hl; subst hl; exact ⟨_, _, Try.func105, of_decide_eq_true (by kernel_rfl), c105⟩
    · injection hl with hl; subst hl; exact ⟨_, _, Try.func106, of_decide_eq_true (by kernel_rfl), c106⟩
    · injection hl with hl; subst hl; exact ⟨_, _, Try.func107, of_decide_eq_true (by kernel_rfl), c107⟩
    · injection hl with hl; subst hl; exact ⟨_, _, Try.func108, of_decide_eq_true (by kernel_rfl), c108⟩
    · injection hl with hl; subst hl; exact ⟨_, _, Try.func109, of_decide_eq_true (by kernel_rfl), c109⟩
    · injection hl with hl; subst hl; exact ⟨_, _, Try.func111, of_decide_eq_true (by kernel_rfl), c111⟩
    · injection hl with hl; subst hl; exact ⟨_, _, Try.func112, of_decide_eq_true (by kernel_rfl), c112⟩
    · injection hl with hl; subst hl; exact ⟨_, _, Try.func113, of_decide_eq_true (by kernel_rfl), c113⟩
    · cases hl
theorem tabC (f : Nat) (lf : LFun) (h : C2 f = some lf) : Ct f = some (unF lf) ∧ okC lf.body = true ∧ lf.sl = [] := by
  refine ⟨by unfold Ct; rw [h]; rfl, ?_⟩
  unfold C2 at h
  split at h
  · injection h with h; subst h; exact ⟨by kernel_rfl, rfl⟩
  · injection h with h; subst h; exact ⟨by kernel_rfl, rfl⟩
  · injection h with h; subst h; exact ⟨by kernel_rfl, rfl⟩
  · injection h with h; subst h; exact ⟨by kernel_rfl, rfl⟩
  · injection h with h; subst h; exact ⟨by kernel_rfl, rfl⟩
  · injection h with h; subst h; exact ⟨by kernel_rfl, rfl⟩
  · injection h with h; subst h; exact ⟨by kernel_rfl, rfl⟩
  · injection h with h; subst h; exact ⟨by kernel_rfl, rfl⟩
  · injection h with h; subst h; exact ⟨by kernel_rfl, rfl⟩
  · injection h with h; subst h; exact ⟨by kernel_rfl, rfl⟩
  · injection h with h; subst h; exact ⟨by kernel_rfl, rfl⟩
  · injection h with h; subst h; exact ⟨by kernel_rfl, rfl⟩
  · injection h with h; subst h; exact ⟨by kernel_rfl, rfl⟩
  · injection h with h; subst h; exact ⟨by kernel_rfl, rfl⟩
  · injection h with h; subst h; exact ⟨by kernel_rfl, rfl⟩
  · injection h with h; subst h; exact ⟨by kernel_rfl, rfl⟩
  · injection h with h; subst h; exact ⟨by kernel_rfl, rfl⟩
  · injection h with h; subst h; exact ⟨by kernel_rfl, rfl⟩
  · injection h with h; subst h; exact ⟨by kernel_rfl, rfl⟩
  · injection h with h; subst h; exact ⟨by kernel_rfl, rfl⟩
  · injection h with h; subst h; exact ⟨by kernel_rfl, rfl⟩
  · injection h with h; subst h; exact ⟨by kernel_rfl, rfl⟩
  · injection h with h; subst h; exact ⟨by kernel_rfl, rfl⟩
  · injection h with h; subst h; exact ⟨by kernel_rfl, rfl⟩
  · injection h with h; subst h; exact ⟨by kernel_rfl, rfl⟩
  · injection h with h; subst h; exact ⟨by kernel_rfl, rfl⟩
  · injection h with h; subst h; exact ⟨by kernel_rfl, rfl⟩
  · injection h with h; subst h; exact ⟨by kernel_rfl, rfl⟩
  · injection h with h; subst h; exact ⟨by kernel_rfl, rfl⟩
  · injection h with h; subst h; exact ⟨by kernel_rfl, rfl⟩
  · injection h with h; subst h; exact ⟨by kernel_rfl, rfl⟩
  · injection h with h; subst h; exact ⟨by kernel_rfl, rfl⟩
  · injection h with h; subst h; exact ⟨by kernel_rfl, rfl⟩
  · injection h with h; subst h; exact ⟨by kernel_rfl, rfl⟩
  · injection h with h; subst h; exact ⟨by kernel_rfl, rfl⟩
  · injection h with h; subst h; exact ⟨by kernel_rfl, rfl⟩
  · injection h with h; subst h; exact ⟨by kernel_rfl, rfl⟩
  · injection h with h; subst h; exact ⟨by kernel_rfl, rfl⟩
  · injection h with h; subst h; exact ⟨by kernel_rfl, rfl⟩
  · injection h with h; subst h; exact ⟨by kernel_rfl, rfl⟩
  · injection h with h; subst h; exact ⟨by kernel_rfl, rfl⟩
  · injection h with h; subst h; exact ⟨by kernel_rfl, rfl⟩
  · injection h with h; subst h; exact ⟨by kernel_rfl, rfl⟩
  · injection h with h; subst h; exact ⟨by kernel_rfl, rfl⟩
  · injection h with h; subst h; exact ⟨by kernel_rfl, rfl⟩
  · injection h with h; subst h; exact ⟨by kernel_rfl, rfl⟩
  · injection h with h; subst h; exact ⟨by kernel_rfl, rfl⟩
  · injection h with h; subst h; exact ⟨by kernel_rfl, rfl⟩
  · injection h with h; subst h; exact ⟨by kernel_rfl, rfl⟩
  · injection h with h; subst h; exact ⟨by kernel_rfl, rfl⟩
  · injection h with h; subst h; exact ⟨by kernel_rfl, rfl⟩
  · injection h with h; subst h; exact ⟨by kernel_rfl, rfl⟩
  · injection h with h; subst h; exact ⟨by kernel_rfl, rfl⟩
  · injection h with h; subst h; exact ⟨by kernel_rfl, rfl⟩
  · injection h with h; subst h; exact ⟨by kernel_rfl, rfl⟩
  · injection h with h; subst h; exact ⟨by kernel_rfl, rfl⟩
  · injection h with h; subst h; exact ⟨by kernel_rfl, rfl⟩
  · injection h with h; subst h; exact ⟨by kernel_rfl, rfl⟩
  · injection h with h; subst h; exact ⟨by kernel_rfl, rfl⟩
  · injection h with h; subst h; exact ⟨by kernel_rfl, rfl⟩
  · injection h with h; subst h; exact ⟨by kernel_rfl, rfl⟩
  · injection h with h; subst h; exact ⟨by kernel_rfl, rfl⟩
  · injection h with h; subst h; exact ⟨by kernel_rfl, rfl⟩
  · injection h with h; subst h; exact ⟨by kernel_rfl, rfl⟩
  · injection h with h; subst h; exact ⟨by kernel_rfl, rfl⟩
  · injection h with h; subst h; exact ⟨by kernel_rfl, rfl⟩
  · injection h with h; subst h; exact ⟨by kernel_rfl, rfl⟩
  · cases h
end Go.Lo

/- The rules of a gauge, on the first machine. -/
namespace Go.Lo.G1
open Go.Lo Go.Proofs
set_option linter.unusedSimpArgs false
set_option maxHeartbeats 8000000
set_option maxRecDepth 20000
abbrev I (n : Int) : V := .int .i64 n
abbrev B (b : Bool) : V := .bool b
/-- Told on the first machine: Repeat. -/
def repG : List V → Option V
  | [.sl none 1 [[.int .i64 x]], .int .i64 n] => if 1 ≤ n ∧ n ≤ 200 then some (.sl (some 0) 1 (List.replicate n.toNat [.int .i64 x])) else none
  | _ => none
def F1 : Nat → Option (List V → Option V)
  | 91 => some repG
  | _ => none
noncomputable abbrev R1 : Nat → List V → Option V := run F1 Ct
abbrev rl (r : Int × Int × Int) : List V := [I r.1, I r.2.1, I r.2.2]
def finB (σ : St) : Option V := match get σ.fr 0 with
  | some (.box cs) => (match finL σ.tk cs ([], []) with
    | some (cs', _) => some (.tup [.box cs', .tup []])
    | none => none)
  | _ => none
def endB : Option (Ex × St) → Option V
  | some (.normal, σ) => finB σ
  | some (.ret, σ) => finB σ
  | _ => none
theorem run_io {F : Nat → Option (List V → Option V)} {C : Nat → Option LFun} (N : Nat) {f : Nat} {lf : LFun} {cs rest : List V} {R : V} (hF : F f = none) (hC : C f = some lf) (hl : (V.box cs :: rest).length = lf.np) (hr : ranged (V.box cs :: rest) = false) (hres : lf.res.isEmpty = true) (hm : memN 0 (dstsC lf.body) = false)
    (h : endB (evC (run F C) N lf.body { fr := params 0 (.box cs :: rest) ++ deadL lf.sl, tk := addT (tksL cs) [], tr := none }) = some R) : run F C f (.box cs :: rest) = some R := by
  refine run_of_body (N := N) hF hC ?_
  have he : ∀ σ, evEnd lf (V.box cs :: rest) σ = finB σ := fun σ => by
    unfold evEnd finIo finB
    simp only [ioArg, if_true, hres, hm, and_self]
    rfl
  unfold evBody
  rw [if_pos ⟨hl, fun _ => hr⟩, hr]
  simp only [he, ioTk, Bool.false_eq_true, if_false]
  unfold endB at h
  exact h
theorem between_nil {ring : Bool} {n1 n2 w1 w2 now size than lo hi : Int} {mv : V} (hm : mv = .nil ∨ ∃ es, mv = .sl none 2 es) (hw : IntKind.i64.wrap (-lo) = -lo) :
    R1 59 [.box [B ring, I n1, I n2, I w1, I w2, mv, .nil, I now], I size, I than, .agg [I lo, I hi]] = some (.tup [.box [B ring, I n1, I n2, I w1, I w2, mv, .sl (some 1) 3 [rl (size, than, hi), rl (than, size, -lo)], I now], .tup []]) := by
  refine run_of_body (N := 1) rfl rfl ?_
  rcases hm with rfl | ⟨es, rfl⟩
  · simp (maxSteps := 2000000) (disch := first | omega | (simp; done) | (simp; omega)) [l59, evBody, params, deadL, evC, prep, prepF, prepT, V.prep, prepL, stepL, stepI, wanted, opds, opd, get, put, putO, sem, callE, loadV, partV, valO, binV, binI, binS, unV, nilCmp, apply, keepL, memN, bxOf, tkOf, bxF, frzL, V.frz, frzEL, V.frzE, V.pureR, pureRL, V.tks, tksL, V.al, alL, V.rn, rnL, addT, protT, protAll, distinctN, fill, splice, fillE, V.cells, V.cellOk, V.pm, eqSh, intsOf, maxL, minL, bounds, ranged, finish, result, rvs, finL, V.fin, one, goesOn, lenT, unF, unC, unI, unO, unK, V.unV, unVL, ioArg, ioTk, evEnd, finIo, ioL, V.ioV, unioL, killSF, V.killS, killSL, dumOk, dumT, V.prep, prepL, dstsC, givL, V.giv, givB, givC, V.plainR, plainRL, hw]
    rfl
  · simp (maxSteps := 2000000) (disch := first | omega | (simp; done) | (simp; omega)) [l59, evBody, params, deadL, evC, prep, prepF, prepT, V.prep, prepL, stepL, stepI, wanted, opds, opd, get, put, putO, sem, callE, loadV, partV, valO, binV, binI, binS, unV, nilCmp, apply, keepL, memN, bxOf, tkOf, bxF, frzL, V.frz, frzEL, V.frzE, V.pureR, pureRL, V.tks, tksL, V.al, alL, V.rn, rnL, addT, protT, protAll, distinctN, fill, splice, fillE, V.cells, V.cellOk, V.pm, eqSh, intsOf, maxL, minL, bounds, ranged, finish, result, rvs, finL, V.fin, one, goesOn, lenT, unF, unC, unI, unO, unK, V.unV, unVL, ioArg, ioTk, evEnd, finIo, ioL, V.ioV, unioL, killSF, V.killS, killSL, dumOk, dumT, V.prep, prepL, dstsC, givL, V.giv, givB, givC, V.plainR, plainRL, hw]
    rfl
theorem between_some {ring : Bool} {n1 n2 w1 w2 now size than lo hi : Int} {mv : V} {L : List (List V)} (hm : mv = .nil ∨ ∃ es, mv = .sl none 2 es) (hw : IntKind.i64.wrap (-lo) = -lo) (_hl : L.length ≤ 1000000) (h24 : (L.length + 2) * 24 ≤ 140737488355328) :
    R1 59 [.box [B ring, I n1, I n2, I w1, I w2, mv, .sl (some 1) 3 L, I now], I size, I than, .agg [I lo, I hi]] = some (.tup [.box [B ring, I n1, I n2, I w1, I w2, mv, .sl (some 1) 3 (L ++ [rl (size, than, hi), rl (than, size, -lo)]), I now], .tup []]) := by
  refine run_of_body (N := 1) rfl rfl ?_
  rcases hm with rfl | ⟨es, rfl⟩
  · simp (maxSteps := 200000) [l59, evBody, params, deadL, evC, prep, prepF, prepT, V.prep, prepL, stepL, stepI, wanted, opds, opd, get, put, putO, sem, callE, loadV, partV, valO, binV, binI, binS, unV, nilCmp, apply, keepL, memN, bxOf, tkOf, bxF, frzL, V.frz, frzEL, V.frzE, V.pureR, pureRL, V.tks, tksL, V.al, alL, V.rn, rnL, addT, protT, protAll, distinctN, fill, splice, fillE, V.cells, V.cellOk, V.pm, eqSh, intsOf, maxL, minL, bounds, ranged, finish, result, rvs, finL, V.fin, one, goesOn, lenT, unF, unC, unI, unO, unK, V.unV, unVL, ioArg, ioTk, evEnd, finIo, ioL, V.ioV, unioL, killSF, V.killS, killSL, dumOk, dumT, V.prep, prepL, dstsC, givL, V.giv, givB, givC, V.plainR, plainRL, h24, hw]
  · simp (maxSteps := 200000) [l59, evBody, params, deadL, evC, prep, prepF, prepT, V.prep, prepL, stepL, stepI, wanted, opds, opd, get, put, putO, sem, callE, loadV, partV, valO, binV, binI, binS, unV, nilCmp, apply, keepL, memN, bxOf, tkOf, bxF, frzL, V.frz, frzEL, V.frzE, V.pureR, pureRL, V.tks, tksL, V.al, alL, V.rn, rnL, addT, protT, protAll, distinctN, fill, splice, fillE, V.cells, V.cellOk, V.pm, eqSh, intsOf, maxL, minL, bounds, ranged, finish, result, rvs, finL, V.fin, one, goesOn, lenT, unF, unC, unI, unO, unK, V.unV, unVL, ioArg, ioTk, evEnd, finIo, ioL, V.ioV, unioL, killSF, V.killS, killSL, dumOk, dumT, V.prep, prepL, dstsC, givL, V.giv, givB, givC, V.plainR, plainRL, h24, hw]
/-- A list that may be nil. -/
def lsV (t : Nat) : List (List V) → V
  | [] => .nil
  | x :: l => .sl (some t) 3 (x :: l)
def mvOk (mv : V) : Prop := mv = .nil ∨ ∃ es, mv = .sl none 2 es
theorem between1 {ring : Bool} {n1 n2 w1 w2 now size than lo hi : Int} {mv : V} {L : List (List V)} (hm : mvOk mv) (hw : IntKind.i64.wrap (-lo) = -lo) (hl : L.length ≤ 1000000) :
    R1 59 [.box [B ring, I n1, I n2, I w1, I w2, mv, lsV 1 L, I now], I size, I than, .agg [I lo, I hi]] = some (.tup [.box [B ring, I n1, I n2, I w1, I w2, mv, lsV 1 (L ++ [rl (size, than, hi), rl (than, size, -lo)]), I now], .tup []]) := by
  cases L with
  | nil => exact between_nil hm hw
  | cons x L =>
    have := between_some (n1 := n1) (n2 := n2) (w1 := w1) (w2 := w2) (now := now) (size := size) (than := than) (hi := hi) (ring := ring) (L := x :: L) hm hw hl (by omega)
    exact this
theorem master1 {n : Int} (hw : IntKind.i64.wrap (n + 1) = n + 1) : R1 58 [I n] = some (I (n + 1)) := by
  refine run_of_body (N := 1) rfl rfl ?_
  simp (maxSteps := 200000) [l58, evBody, params, deadL, evC, prep, prepF, prepT, V.prep, prepL, stepL, stepI, wanted, opds, opd, get, put, putO, sem, callE, loadV, partV, valO, binV, binI, binS, unV, nilCmp, apply, keepL, memN, bxOf, tkOf, bxF, frzL, V.frz, frzEL, V.frzE, V.pureR, pureRL, V.tks, tksL, V.al, alL, V.rn, rnL, addT, protT, protAll, distinctN, fill, splice, fillE, V.cells, V.cellOk, V.pm, eqSh, intsOf, maxL, minL, bounds, ranged, finish, result, rvs, finL, V.fin, one, goesOn, lenT, unF, unC, unI, unO, unK, V.unV, unVL, ioArg, ioTk, evEnd, finIo, ioL, V.ioV, unioL, killSF, V.killS, killSL, dumOk, dumT, V.prep, prepL, dstsC, givL, V.giv, givB, givC, V.plainR, plainRL, hw]
theorem worn1 {a b p : Int} (h1 : IntKind.i64.wrap (a * p) = a * p) (h2 : IntKind.i64.wrap (b * p) = b * p) (h3 : IntKind.i64.wrap (b * p + 1000) = b * p + 1000) (h4 : IntKind.i64.wrap (b * p + 1000 - 1) = b * p + 1000 - 1)
    (h5 : IntKind.i64.wrap ((a * p).tdiv 1000) = (a * p).tdiv 1000) (h6 : IntKind.i64.wrap ((b * p + 1000 - 1).tdiv 1000) = (b * p + 1000 - 1).tdiv 1000) :
    R1 51 [.agg [I a, I b], I p] = some (.agg [I ((a * p).tdiv 1000), I ((b * p + 1000 - 1).tdiv 1000)]) := by
  refine run_of_body (N := 1) rfl rfl ?_
  generalize hx : a * p = x at *
  generalize hy : b * p = y at *
  simp (maxSteps := 200000) [l51, evBody, params, deadL, evC, prep, prepF, prepT, V.prep, prepL, stepL, stepI, wanted, opds, opd, get, put, putO, sem, callE, loadV, partV, valO, binV, binI, binS, unV, nilCmp, apply, keepL, memN, bxOf, tkOf, bxF, frzL, V.frz, frzEL, V.frzE, V.pureR, pureRL, V.tks, tksL, V.al, alL, V.rn, rnL, addT, protT, protAll, distinctN, fill, splice, fillE, V.cells, V.cellOk, V.pm, eqSh, intsOf, maxL, minL, bounds, ranged, finish, result, rvs, finL, V.fin, one, goesOn, lenT, unF, unC, unI, unO, unK, V.unV, unVL, ioArg, ioTk, evEnd, finIo, ioL, V.ioV, unioL, killSF, V.killS, killSL, dumOk, dumT, V.prep, prepL, dstsC, givL, V.giv, givB, givC, V.plainR, plainRL, hx, hy, h1, h2, h3, h4, h5, h6]
def tnS (ring : Bool) (a b : Int) : V := if ring = true then .agg [I (-b), I (-a)] else .agg [I a, I b]
theorem turned_t {n1 n2 w1 w2 now a b : Int} {mv lv : V} (h1 : IntKind.i64.wrap (-a) = -a) (h2 : IntKind.i64.wrap (-b) = -b) :
    R1 60 [.cref [B true, I n1, I n2, I w1, I w2, mv, lv, I now], .agg [I a, I b]] = some (.agg [I (-b), I (-a)]) := by
  refine run_of_body (N := 1) rfl rfl ?_
  simp (maxSteps := 200000) [l60, evBody, params, deadL, evC, prep, prepF, prepT, V.prep, prepL, stepL, stepI, wanted, opds, opd, get, put, putO, sem, callE, loadV, partV, valO, binV, binI, binS, unV, nilCmp, apply, keepL, memN, bxOf, tkOf, bxF, frzL, V.frz, frzEL, V.frzE, V.pureR, pureRL, V.tks, tksL, V.al, alL, V.rn, rnL, addT, protT, protAll, distinctN, fill, splice, fillE, V.cells, V.cellOk, V.pm, eqSh, intsOf, maxL, minL, bounds, ranged, finish, result, rvs, finL, V.fin, one, goesOn, lenT, unF, unC, unI, unO, unK, V.unV, unVL, ioArg, ioTk, evEnd, finIo, ioL, V.ioV, unioL, killSF, V.killS, killSL, dumOk, dumT, V.prep, prepL, dstsC, givL, V.giv, givB, givC, V.plainR, plainRL, h1, h2]
theorem turned_f {n1 n2 w1 w2 now a b : Int} {mv lv : V} :
    R1 60 [.cref [B false, I n1, I n2, I w1, I w2, mv, lv, I now], .agg [I a, I b]] = some (.agg [I a, I b]) := by
  refine run_of_body (N := 1) rfl rfl ?_
  simp (maxSteps := 200000) [l60, evBody, params, deadL, evC, prep, prepF, prepT, V.prep, prepL, stepL, stepI, wanted, opds, opd, get, put, putO, sem, callE, loadV, partV, valO, binV, binI, binS, unV, nilCmp, apply, keepL, memN, bxOf, tkOf, bxF, frzL, V.frz, frzEL, V.frzE, V.pureR, pureRL, V.tks, tksL, V.al, alL, V.rn, rnL, addT, protT, protAll, distinctN, fill, splice, fillE, V.cells, V.cellOk, V.pm, eqSh, intsOf, maxL, minL, bounds, ranged, finish, result, rvs, finL, V.fin, one, goesOn, lenT, unF, unC, unI, unO, unK, V.unV, unVL, ioArg, ioTk, evEnd, finIo, ioL, V.ioV, unioL, killSF, V.killS, killSL, dumOk, dumT, V.prep, prepL, dstsC, givL, V.giv, givB, givC, V.plainR, plainRL]
theorem turned1 {ring : Bool} {n1 n2 w1 w2 now a b : Int} {mv lv : V} (h1 : IntKind.i64.wrap (-a) = -a) (h2 : IntKind.i64.wrap (-b) = -b) :
    R1 60 [.cref [B ring, I n1, I n2, I w1, I w2, mv, lv, I now], .agg [I a, I b]] = some (tnS ring a b) := by
  cases ring
  · exact turned_f
  · exact turned_t h1 h2
end Go.Lo.G1

/- An event is added, on the first machine. -/
namespace Go.Lo.G1
open Go.Lo Go.Proofs
set_option linter.unusedSimpArgs false
set_option maxHeartbeats 8000000
set_option maxRecDepth 20000
def tkL (t : Nat) (L : List (List V)) : List (Nat × Nat × Bool) := if L = [] then [] else [(t, L.length, true)]
theorem ls_tk (L : List (List V)) (t : Nat) : addT (tksL [lsV t L]) [] = tkL t L := by
  cases L <;> simp [lsV, tksL, V.tks, addT, tkL, put]
abbrev bx (ring : Bool) (n1 n2 w1 w2 : Int) (mv : V) (L : List (List V)) (now : Int) : List V := [B ring, I n1, I n2, I w1, I w2, mv, lsV 1 L, I now]
theorem a_g0 {call : Nat → List V → Option V} {p m : Int} {g : Bool} {ring : Bool} {n1 n2 w1 w2 now : Int} {mv : V} {L : List (List V)} :
    evC call 1 (unC g61_0) { fr := [(0, .box (bx ring n1 n2 w1 w2 mv L now)), (1, .agg [I p, I m, B g])], tk := tkL 1 L, tr := none } = some (.normal, { fr := [(0, .box (bx ring n1 n2 w1 w2 mv L now)), (3, .box [I p, I m, B g])], tk := tkL 1 L, tr := none }) := by
  generalize lsV 1 L = lv
  simp (maxSteps := 200000) [g61_0, evC, prep, prepF, prepT, V.prep, prepL, stepL, stepI, wanted, opds, opd, get, put, putO, sem, callE, loadV, partV, valO, binV, binI, binS, unV, nilCmp, apply, keepL, memN, bxOf, tkOf, frzL, V.frz, frzEL, V.frzE, V.pureR, pureRL, V.tks, tksL, V.al, alL, V.rn, rnL, addT, protT, protAll, distinctN, fill, splice, fillE, V.cells, V.cellOk, V.pm, eqSh, intsOf, maxL, minL, bounds, finL, V.fin, one, goesOn, lenT, unF, unC, unI, unO, unK, V.unV, unVL, unioL, killSF, V.killS, killSL, ioL, V.ioV]
theorem a_g1 {call : Nat → List V → Option V} {p m k : Int} {g : Bool} {ring : Bool} {n1 n2 w1 w2 now : Int} {mv : V} {L : List (List V)} (hk : call 57 [.agg [I p, I m, B g]] = some (I k)) :
    evC call 1 (unC g61_1) { fr := [(0, .box (bx ring n1 n2 w1 w2 mv L now)), (3, .box [I p, I m, B g])], tk := tkL 1 L, tr := none } = some (.normal, { fr := [(0, .box (bx ring n1 n2 w1 w2 mv L now)), (3, .box [I p, I m, B g]), (5, I k)], tk := tkL 1 L, tr := none }) := by
  generalize lsV 1 L = lv
  simp (maxSteps := 200000) [g61_1, evC, prep, prepF, prepT, V.prep, prepL, stepL, stepI, wanted, opds, opd, get, put, putO, sem, callE, loadV, partV, valO, binV, binI, binS, unV, nilCmp, apply, keepL, memN, bxOf, tkOf, frzL, V.frz, frzEL, V.frzE, V.pureR, pureRL, V.tks, tksL, V.al, alL, V.rn, rnL, addT, protT, protAll, distinctN, fill, splice, fillE, V.cells, V.cellOk, V.pm, eqSh, intsOf, maxL, minL, bounds, finL, V.fin, one, goesOn, lenT, unF, unC, unI, unO, unK, V.unV, unVL, unioL, killSF, V.killS, killSL, ioL, V.ioV, hk]
theorem a_g3 {call : Nat → List V → Option V} {p m k : Int} {g : Bool} {ring : Bool} {n1 n2 w1 w2 now : Int} {mv : V} {L : List (List V)} (h1 : IntKind.i64.wrap (now + 1) = now + 1) :
    evC call 1 (unC g61_3) { fr := [(0, .box (bx ring n1 n2 w1 w2 mv L now)), (3, .box [I p, I m, B g]), (5, I k), (6, B true)], tk := tkL 1 L, tr := none } = some (.normal, { fr := [(0, .box (bx ring n1 n2 w1 w2 mv L (now + 1))), (3, .box [I p, I m, B g])], tk := tkL 1 L, tr := none }) := by
  cases L with
  | nil => simp (maxSteps := 200000) [g61_3, evC, prep, prepF, prepT, V.prep, prepL, stepL, stepI, wanted, opds, opd, get, put, putO, sem, callE, loadV, partV, valO, binV, binI, binS, unV, nilCmp, apply, keepL, memN, bxOf, tkOf, frzL, V.frz, frzEL, V.frzE, V.pureR, pureRL, V.tks, tksL, V.al, alL, V.rn, rnL, addT, protT, protAll, distinctN, fill, splice, fillE, V.cells, V.cellOk, V.pm, eqSh, intsOf, maxL, minL, bounds, finL, V.fin, one, goesOn, lenT, unF, unC, unI, unO, unK, V.unV, unVL, unioL, killSF, V.killS, killSL, ioL, V.ioV, h1, lsV, tkL]
  | cons x L => simp (maxSteps := 200000) [g61_3, evC, prep, prepF, prepT, V.prep, prepL, stepL, stepI, wanted, opds, opd, get, put, putO, sem, callE, loadV, partV, valO, binV, binI, binS, unV, nilCmp, apply, keepL, memN, bxOf, tkOf, frzL, V.frz, frzEL, V.frzE, V.pureR, pureRL, V.tks, tksL, V.al, alL, V.rn, rnL, addT, protT, protAll, distinctN, fill, splice, fillE, V.cells, V.cellOk, V.pm, eqSh, intsOf, maxL, minL, bounds, finL, V.fin, one, goesOn, lenT, unF, unC, unI, unO, unK, V.unV, unVL, unioL, killSF, V.killS, killSL, ioL, V.ioV, h1, lsV, tkL]
theorem a_g4 {call : Nat → List V → Option V} {p m a b : Int} {g : Bool} {ring : Bool} {n1 n2 w1 w2 now : Int} {mv : V} {L : List (List V)} (hm : mvOk mv) (hwn : call 51 [.agg [I w1, I w2], I p] = some (.agg [I a, I b])) (h2 : IntKind.i64.wrap now = now)
    (e1 : call 59 [.box (bx ring n1 n2 w1 w2 mv L (now + 1)), I now, I (now + 1), .agg [I a, I b]] = some (.tup [.box (bx ring n1 n2 w1 w2 mv (L ++ [rl (now, now + 1, b), rl (now + 1, now, -a)]) (now + 1)), .tup []])) :
    evC call 1 (unC g61_4) { fr := [(0, .box (bx ring n1 n2 w1 w2 mv L (now + 1))), (3, .box [I p, I m, B g])], tk := tkL 1 L, tr := none } =
      some (.normal, { fr := [(0, .box (bx ring n1 n2 w1 w2 mv (L ++ [rl (now, now + 1, b), rl (now + 1, now, -a)]) (now + 1)))], tk := tkL 1 (L ++ [rl (now, now + 1, b), rl (now + 1, now, -a)]), tr := none }) := by
  have h3 : now + 1 - 1 = now := by omega
  cases L with
  | nil =>
    simp only [bx, lsV, List.nil_append] at e1 ⊢
    rcases hm with rfl | ⟨es, rfl⟩ <;> simp (maxSteps := 200000) [g61_4, evC, prep, prepF, prepT, V.prep, prepL, stepL, stepI, wanted, opds, opd, get, put, putO, sem, callE, loadV, partV, valO, binV, binI, binS, unV, nilCmp, apply, keepL, memN, bxOf, tkOf, frzL, V.frz, frzEL, V.frzE, V.pureR, pureRL, V.tks, tksL, V.al, alL, V.rn, rnL, addT, protT, protAll, distinctN, fill, splice, fillE, V.cells, V.cellOk, V.pm, eqSh, intsOf, maxL, minL, bounds, finL, V.fin, one, goesOn, lenT, unF, unC, unI, unO, unK, V.unV, unVL, unioL, killSF, V.killS, killSL, ioL, V.ioV, hwn, h2, h3, e1, tkL]
  | cons x L =>
    simp only [bx, lsV, List.cons_append] at e1 ⊢
    rcases hm with rfl | ⟨es, rfl⟩ <;> simp (maxSteps := 200000) [g61_4, evC, prep, prepF, prepT, V.prep, prepL, stepL, stepI, wanted, opds, opd, get, put, putO, sem, callE, loadV, partV, valO, binV, binI, binS, unV, nilCmp, apply, keepL, memN, bxOf, tkOf, frzL, V.frz, frzEL, V.frzE, V.pureR, pureRL, V.tks, tksL, V.al, alL, V.rn, rnL, addT, protT, protAll, distinctN, fill, splice, fillE, V.cells, V.cellOk, V.pm, eqSh, intsOf, maxL, minL, bounds, finL, V.fin, one, goesOn, lenT, unF, unC, unI, unO, unK, V.unV, unVL, unioL, killSF, V.killS, killSL, ioL, V.ioV, hwn, h2, h3, e1, tkL]
theorem bx_tk {ring : Bool} {n1 n2 w1 w2 now : Int} {mv : V} {L : List (List V)} (hm : mvOk mv) : addT (tksL (bx ring n1 n2 w1 w2 mv L now)) [] = tkL 1 L := by
  rcases hm with rfl | ⟨es, rfl⟩ <;> cases L <;> simp [lsV, tksL, V.tks, addT, tkL, put]
theorem fin_bx {ring : Bool} {n1 n2 w1 w2 now : Int} {mv : V} {L : List (List V)} (hm : mvOk mv) : ∃ us, finL (tkL 1 L) (bx ring n1 n2 w1 w2 mv L now) ([], []) = some (bx ring n1 n2 w1 w2 mv L now, us) := by
  rcases hm with rfl | ⟨es, rfl⟩ <;> cases L <;> simp [lsV, finL, V.fin, tkL, dumOk, dumT, memN, get]
theorem a_g2t {call : Nat → List V → Option V} {p m : Int} {g : Bool} {c : List V} {tk : List (Nat × Nat × Bool)} :
    evC call 1 (unC g61_2) { fr := [(0, .box c), (3, .box [I p, I m, B g]), (5, I 1)], tk := tk, tr := none } = some (.normal, { fr := [(0, .box c), (3, .box [I p, I m, B g]), (5, I 1), (6, B true)], tk := tk, tr := none }) := by rfl
theorem a_g2f {call : Nat → List V → Option V} {p m k : Int} {g : Bool} {c : List V} {tk : List (Nat × Nat × Bool)} (hk : k ≠ 1) :
    evC call 1 (unC g61_2) { fr := [(0, .box c), (3, .box [I p, I m, B g]), (5, I k)], tk := tk, tr := none } = some (.normal, { fr := [(0, .box c), (3, .box [I p, I m, B g]), (5, I k), (6, B false)], tk := tk, tr := none }) := by
  simp (maxSteps := 200000) [g61_2, evC, prep, prepF, prepT, V.prep, prepL, stepL, stepI, wanted, opds, opd, get, put, putO, sem, callE, loadV, partV, valO, binV, binI, binS, unV, nilCmp, apply, keepL, memN, bxOf, tkOf, frzL, V.frz, frzEL, V.frzE, V.pureR, pureRL, V.tks, tksL, V.al, alL, V.rn, rnL, addT, protT, protAll, distinctN, fill, splice, fillE, V.cells, V.cellOk, V.pm, eqSh, intsOf, maxL, minL, bounds, finL, V.fin, one, goesOn, lenT, unF, unC, unI, unO, unK, V.unV, unVL, unioL, killSF, V.killS, killSL, ioL, V.ioV, hk]
theorem a_g5t {call : Nat → List V → Option V} {p m : Int} {g : Bool} {c : List V} {tk : List (Nat × Nat × Bool)} :
    evC call 1 (unC g61_5) { fr := [(0, .box c), (3, .box [I p, I m, B g]), (5, I 2), (6, B false)], tk := tk, tr := none } = some (.normal, { fr := [(0, .box c), (3, .box [I p, I m, B g]), (5, I 2), (34, B true)], tk := tk, tr := none }) := by rfl
theorem a_g5f {call : Nat → List V → Option V} {p m : Int} {g : Bool} {c : List V} {tk : List (Nat × Nat × Bool)} :
    evC call 1 (unC g61_5) { fr := [(0, .box c), (3, .box [I p, I m, B g]), (5, I 3), (6, B false)], tk := tk, tr := none } = some (.normal, { fr := [(0, .box c), (3, .box [I p, I m, B g]), (5, I 3), (34, B false)], tk := tk, tr := none }) := by rfl
theorem a_g7 {call : Nat → List V → Option V} {p m : Int} {g : Bool} {c : List V} {tk : List (Nat × Nat × Bool)} :
    evC call 1 (unC g61_7) { fr := [(0, .box c), (3, .box [I p, I m, B g]), (5, I 3), (34, B false)], tk := tk, tr := none } = some (.normal, { fr := [(0, .box c), (3, .box [I p, I m, B g]), (53, B true)], tk := tk, tr := none }) := by rfl
theorem a_g6 {call : Nat → List V → Option V} {p m k : Int} {g : Bool} {ring : Bool} {n1 n2 w1 w2 now : Int} {mv : V} {L : List (List V)} (hm : mvOk mv) (e1 : call 58 [I m] = some (I (m + 1))) (h24 : (L.length + 1) * 24 ≤ 140737488355328) :
    evC call 1 (unC g61_6) { fr := [(0, .box (bx ring n1 n2 w1 w2 mv L now)), (3, .box [I p, I m, B g]), (5, I k), (34, B true)], tk := tkL 1 L, tr := none } =
      some (.normal, { fr := [(0, .box [B ring, I n1, I n2, I w1, I w2, mv, .sl (some (if L = [] then 5000 else 1)) 3 (L ++ [rl (now, m + 1, 0)]), I now])], tk := if L = [] then [(4900, 1, true), (5000, 1, true)] else [(1, L.length + 1, true), (4900, 1, true)], tr := none }) := by
  cases L with
  | nil => rcases hm with rfl | ⟨es, rfl⟩ <;> simp (maxSteps := 200000) [g61_6, evC, prep, prepF, prepT, V.prep, prepL, stepL, stepI, wanted, opds, opd, get, put, putO, sem, callE, loadV, partV, valO, binV, binI, binS, unV, nilCmp, apply, keepL, memN, bxOf, tkOf, frzL, V.frz, frzEL, V.frzE, V.pureR, pureRL, V.tks, tksL, V.al, alL, V.rn, rnL, addT, protT, protAll, distinctN, fill, splice, fillE, V.cells, V.cellOk, V.pm, eqSh, intsOf, maxL, minL, bounds, finL, V.fin, one, goesOn, lenT, unF, unC, unI, unO, unK, V.unV, unVL, unioL, killSF, V.killS, killSL, ioL, V.ioV, e1, lsV, tkL]
  | cons x L =>
    simp only [List.length_cons] at h24
    rcases hm with rfl | ⟨es, rfl⟩ <;> simp (maxSteps := 200000) [g61_6, evC, prep, prepF, prepT, V.prep, prepL, stepL, stepI, wanted, opds, opd, get, put, putO, sem, callE, loadV, partV, valO, binV, binI, binS, unV, nilCmp, apply, keepL, memN, bxOf, tkOf, frzL, V.frz, frzEL, V.frzE, V.pureR, pureRL, V.tks, tksL, V.al, alL, V.rn, rnL, addT, protT, protAll, distinctN, fill, splice, fillE, V.cells, V.cellOk, V.pm, eqSh, intsOf, maxL, minL, bounds, finL, V.fin, one, goesOn, lenT, unF, unC, unI, unO, unK, V.unV, unVL, unioL, killSF, V.killS, killSL, ioL, V.ioV, e1, lsV, tkL, h24]
theorem a_g8 {call : Nat → List V → Option V} {p m : Int} {g : Bool} {ring : Bool} {n1 n2 w1 w2 now : Int} {mv : V} {L : List (List V)} (hm : mvOk mv) (e1 : call 58 [I m] = some (I (m + 1))) (h24 : (L.length + 1) * 24 ≤ 140737488355328) :
    evC call 1 (unC g61_8) { fr := [(0, .box (bx ring n1 n2 w1 w2 mv L now)), (3, .box [I p, I m, B g]), (53, B true)], tk := tkL 1 L, tr := none } =
      some (.normal, { fr := [(0, .box [B ring, I n1, I n2, I w1, I w2, mv, .sl (some (if L = [] then 6900 else 1)) 3 (L ++ [rl (m + 1, now, -1)]), I now])], tk := if L = [] then [(6800, 1, true), (6900, 1, true)] else [(1, L.length + 1, true), (6800, 1, true)], tr := none }) := by
  cases L with
  | nil => rcases hm with rfl | ⟨es, rfl⟩ <;> simp (maxSteps := 200000) [g61_8, evC, prep, prepF, prepT, V.prep, prepL, stepL, stepI, wanted, opds, opd, get, put, putO, sem, callE, loadV, partV, valO, binV, binI, binS, unV, nilCmp, apply, keepL, memN, bxOf, tkOf, frzL, V.frz, frzEL, V.frzE, V.pureR, pureRL, V.tks, tksL, V.al, alL, V.rn, rnL, addT, protT, protAll, distinctN, fill, splice, fillE, V.cells, V.cellOk, V.pm, eqSh, intsOf, maxL, minL, bounds, finL, V.fin, one, goesOn, lenT, unF, unC, unI, unO, unK, V.unV, unVL, unioL, killSF, V.killS, killSL, ioL, V.ioV, e1, lsV, tkL]
  | cons x L =>
    simp only [List.length_cons] at h24
    rcases hm with rfl | ⟨es, rfl⟩ <;> simp (maxSteps := 200000) [g61_8, evC, prep, prepF, prepT, V.prep, prepL, stepL, stepI, wanted, opds, opd, get, put, putO, sem, callE, loadV, partV, valO, binV, binI, binS, unV, nilCmp, apply, keepL, memN, bxOf, tkOf, frzL, V.frz, frzEL, V.frzE, V.pureR, pureRL, V.tks, tksL, V.al, alL, V.rn, rnL, addT, protT, protAll, distinctN, fill, splice, fillE, V.cells, V.cellOk, V.pm, eqSh, intsOf, maxL, minL, bounds, finL, V.fin, one, goesOn, lenT, unF, unC, unI, unO, unK, V.unV, unVL, unioL, killSF, V.killS, killSL, ioL, V.ioV, e1, lsV, tkL, h24]
theorem add_batch {ring : Bool} {n1 n2 w1 w2 now p m a b : Int} {g : Bool} {mv : V} {L : List (List V)} (hm : mvOk mv) (hk : R1 57 [.agg [I p, I m, B g]] = some (I 1)) (hwn : R1 51 [.agg [I w1, I w2], I p] = some (.agg [I a, I b])) (hw : IntKind.i64.wrap (-a) = -a)
    (h1 : IntKind.i64.wrap (now + 1) = now + 1) (h2 : IntKind.i64.wrap now = now) (hl : L.length ≤ 1000000) :
    R1 61 [.box (bx ring n1 n2 w1 w2 mv L now), .agg [I p, I m, B g]] = some (.tup [.box (bx ring n1 n2 w1 w2 mv (L ++ [rl (now, now + 1, b), rl (now + 1, now, -a)]) (now + 1)), .tup []]) := by
  refine run_io 1 rfl rfl rfl rfl rfl rfl ?_
  rw [bx_tk hm]
  have e1 := between1 (ring := ring) (n1 := n1) (n2 := n2) (w1 := w1) (w2 := w2) (now := now + 1) (size := now) (than := now + 1) (lo := a) (hi := b) hm hw hl
  obtain ⟨us, hf⟩ := fin_bx (ring := ring) (n1 := n1) (n2 := n2) (w1 := w1) (w2 := w2) (now := now + 1) (L := L ++ [rl (now, now + 1, b), rl (now + 1, now, -a)]) hm
  have f1 := a_g1 (ring := ring) (n1 := n1) (n2 := n2) (w1 := w1) (w2 := w2) (now := now) (mv := mv) (L := L) hk
  have f3 := a_g3 (call := R1) (p := p) (m := m) (k := 1) (g := g) (ring := ring) (n1 := n1) (n2 := n2) (w1 := w1) (w2 := w2) (mv := mv) (L := L) h1
  have f4 := a_g4 (p := p) (m := m) (g := g) hm hwn h2 e1
  simp only [Nat.zero_add, l61, unF, unC, unO, params, deadL, List.append_nil, evC, a_g0, f1, a_g2t, f3, f4, opd, get, Nat.reduceEqDiff, reduceIte, endB, finB, hf]
theorem end_bx {ring : Bool} {n1 n2 w1 w2 now : Int} {mv : V} {t : Nat} {L : List (List V)} {e : List V} {tk : List (Nat × Nat × Bool)} (hm : mvOk mv) (ht : 1000000000 ≠ t) (hg : get tk t = some (L.length + 1, true)) :
    ∃ us, finL tk [B ring, I n1, I n2, I w1, I w2, mv, .sl (some t) 3 (L ++ [e]), I now] ([], []) = some (bx ring n1 n2 w1 w2 mv (L ++ [e]) now, us) := by
  rcases hm with rfl | ⟨es, rfl⟩ <;> cases L <;> simp_all [lsV, finL, V.fin, dumOk, dumT, memN]
theorem add_went {ring : Bool} {n1 n2 w1 w2 now p m : Int} {g : Bool} {mv : V} {L : List (List V)} (hm : mvOk mv) (hk : R1 57 [.agg [I p, I m, B g]] = some (I 2)) (e1 : R1 58 [I m] = some (I (m + 1))) (hl : L.length ≤ 1000000) :
    R1 61 [.box (bx ring n1 n2 w1 w2 mv L now), .agg [I p, I m, B g]] = some (.tup [.box (bx ring n1 n2 w1 w2 mv (L ++ [rl (now, m + 1, 0)]) now), .tup []]) := by
  refine run_io 1 rfl rfl rfl rfl rfl rfl ?_
  rw [bx_tk hm]
  have f1 := a_g1 (ring := ring) (n1 := n1) (n2 := n2) (w1 := w1) (w2 := w2) (now := now) (mv := mv) (L := L) hk
  have f6 := a_g6 (k := 2) (p := p) (g := g) (ring := ring) (n1 := n1) (n2 := n2) (w1 := w1) (w2 := w2) (now := now) (L := L) hm e1 (by omega)
  obtain ⟨us, hf⟩ := end_bx (ring := ring) (n1 := n1) (n2 := n2) (w1 := w1) (w2 := w2) (now := now) (t := if L = [] then 5000 else 1) (L := L) (e := rl (now, m + 1, 0)) (tk := if L = [] then [(4900, 1, true), (5000, 1, true)] else [(1, L.length + 1, true), (4900, 1, true)]) hm (by split <;> decide) (by by_cases h : L = [] <;> simp [h, get])
  simp only [Nat.zero_add, l61, unF, unC, unO, params, deadL, List.append_nil, evC, a_g0, f1, a_g2f (show (2 : Int) ≠ 1 by decide), a_g5t, f6, opd, get, Nat.reduceEqDiff, reduceIte, Bool.false_eq_true, endB, finB, hf]
theorem add_stuck {ring : Bool} {n1 n2 w1 w2 now p m : Int} {g : Bool} {mv : V} {L : List (List V)} (hm : mvOk mv) (hk : R1 57 [.agg [I p, I m, B g]] = some (I 3)) (e1 : R1 58 [I m] = some (I (m + 1))) (hl : L.length ≤ 1000000) :
    R1 61 [.box (bx ring n1 n2 w1 w2 mv L now), .agg [I p, I m, B g]] = some (.tup [.box (bx ring n1 n2 w1 w2 mv (L ++ [rl (m + 1, now, -1)]) now), .tup []]) := by
  refine run_io 1 rfl rfl rfl rfl rfl rfl ?_
  rw [bx_tk hm]
  have f1 := a_g1 (ring := ring) (n1 := n1) (n2 := n2) (w1 := w1) (w2 := w2) (now := now) (mv := mv) (L := L) hk
  have f8 := a_g8 (p := p) (g := g) (ring := ring) (n1 := n1) (n2 := n2) (w1 := w1) (w2 := w2) (now := now) (L := L) hm e1 (by omega)
  obtain ⟨us, hf⟩ := end_bx (ring := ring) (n1 := n1) (n2 := n2) (w1 := w1) (w2 := w2) (now := now) (t := if L = [] then 6900 else 1) (L := L) (e := rl (m + 1, now, -1)) (tk := if L = [] then [(6800, 1, true), (6900, 1, true)] else [(1, L.length + 1, true), (6800, 1, true)]) hm (by split <;> decide) (by by_cases h : L = [] <;> simp [h, get])
  simp only [Nat.zero_add, l61, unF, unC, unO, params, deadL, List.append_nil, evC, a_g0, f1, a_g2f (show (3 : Int) ≠ 1 by decide), a_g5f, a_g7, f8, opd, get, Nat.reduceEqDiff, reduceIte, Bool.false_eq_true, endB, finB, hf]
end Go.Lo.G1

/- The rules of a gauge and of events, on the first machine. -/
namespace Go.Lo.G1
open Go.Lo Go.Proofs
set_option linter.unusedSimpArgs false
set_option maxHeartbeats 8000000
set_option maxRecDepth 20000
abbrev b6 (ring : Bool) (n1 n2 w1 w2 : Int) (mv : V) : List V := [B ring, I n1, I n2, I w1, I w2, mv]
abbrev nb (ring : Bool) (n1 n2 w1 w2 : Int) (mv : V) (L : List (List V)) (now : Int) : List V := [B ring, I n1, I n2, I w1, I w2, mv, lsV 1601 L, I now]
def evOk (v : V) : Prop := v = .nil ∨ ∃ es, v = .sl none 3 es
def lsF (L : List (List V)) : V := if L = [] then .nil else .sl none 3 L
theorem bx16 {bx : Nat → Option (List V)} {ring : Bool} {n1 n2 w1 w2 now : Int} {mv lv : V} {L : List (List V)} (hm : mvOk mv) (hl : lv = lsV 1601 L) (h : bx 16 = some [B ring, I n1, I n2, I w1, I w2, mv, lv, I now]) : bxF bx 4 16 = some [B ring, I n1, I n2, I w1, I w2, mv, lsF L, I now] := by
  subst hl
  rcases hm with rfl | ⟨es, rfl⟩ <;> cases L <;> simp [bxF, h, frzL, V.frz, lsV, lsF]
section
variable {call : Nat → List V → Option V} {ring : Bool} {n1 n2 w1 w2 now : Int} {mv ev : V} {L : List (List V)}
theorem n_g0 (hm : mvOk mv) :
    evC call 1 (unC g32_0) { fr := [(0, .agg (b6 ring n1 n2 w1 w2 mv)), (1, ev)], tk := [], tr := none } = some (.normal, { fr := [(1, ev), (2, .box (b6 ring n1 n2 w1 w2 mv))], tk := [], tr := none }) := by
  rcases hm with rfl | ⟨es, rfl⟩ <;> simp (maxSteps := 200000) [g32_0, evC, prep, prepF, prepT, V.prep, prepL, stepL, stepI, wanted, opds, opd, get, put, putO, sem, callE, loadV, partV, valO, binV, binI, binS, unV, nilCmp, apply, keepL, memN, bxOf, tkOf, frzL, V.frz, frzEL, V.frzE, V.pureR, pureRL, V.tks, tksL, V.al, alL, V.rn, rnL, addT, protT, protAll, distinctN, fill, splice, fillE, V.cells, V.cellOk, V.pm, eqSh, intsOf, maxL, minL, bounds, finL, V.fin, one, goesOn, lenT, unF, unC, unI, unO, unK, V.unV, unVL, unioL, killSF, V.killS, killSL, ioL, V.ioV]
theorem n_g1 {n : Nat} (hm : mv = .nil ∧ n = 0 ∨ ∃ es, mv = .sl none 2 es ∧ es.length = n) (e1 : call 58 [I n] = some (I (n + 1))) :
    evC call 1 (unC g32_1) { fr := [(1, ev), (2, .box (b6 ring n1 n2 w1 w2 mv))], tk := [], tr := none } = some (.normal, { fr := [(1, ev), (2, .box (b6 ring n1 n2 w1 w2 mv)), (5, .ref 16 0), (16, .box (nb ring n1 n2 w1 w2 mv [] (n + 1)))], tk := [], tr := none }) := by
  rcases hm with ⟨rfl, rfl⟩ | ⟨es, rfl, rfl⟩ <;> simp (maxSteps := 200000) [g32_1, evC, prep, prepF, prepT, V.prep, prepL, stepL, stepI, wanted, opds, opd, get, put, putO, sem, callE, loadV, partV, valO, binV, binI, binS, unV, nilCmp, apply, keepL, memN, bxOf, tkOf, frzL, V.frz, frzEL, V.frzE, V.pureR, pureRL, V.tks, tksL, V.al, alL, V.rn, rnL, addT, protT, protAll, distinctN, fill, splice, fillE, V.cells, V.cellOk, V.pm, eqSh, intsOf, maxL, minL, bounds, finL, V.fin, one, goesOn, lenT, unF, unC, unI, unO, unK, V.unV, unVL, unioL, killSF, V.killS, killSL, ioL, V.ioV, lsV] at e1 ⊢ <;> simp (maxSteps := 200000) [g32_1, evC, prep, prepF, prepT, V.prep, prepL, stepL, stepI, wanted, opds, opd, get, put, putO, sem, callE, loadV, partV, valO, binV, binI, binS, unV, nilCmp, apply, keepL, memN, bxOf, tkOf, frzL, V.frz, frzEL, V.frzE, V.pureR, pureRL, V.tks, tksL, V.al, alL, V.rn, rnL, addT, protT, protAll, distinctN, fill, splice, fillE, V.cells, V.cellOk, V.pm, eqSh, intsOf, maxL, minL, bounds, finL, V.fin, one, goesOn, lenT, unF, unC, unI, unO, unK, V.unV, unVL, unioL, killSF, V.killS, killSL, ioL, V.ioV, lsV, e1]
theorem n_g2 {n : Nat} (hm : mv = .nil ∧ n = 0 ∨ ∃ es, mv = .sl none 2 es ∧ es.length = n) :
    evC call 1 (unC g32_2) { fr := [(1, ev), (2, .box (b6 ring n1 n2 w1 w2 mv)), (5, .ref 16 0), (16, .box (nb ring n1 n2 w1 w2 mv [] now))], tk := [], tr := none } = some (.normal, { fr := [(1, ev), (2, .box (b6 ring n1 n2 w1 w2 mv)), (5, .ref 16 0), (16, .box (nb ring n1 n2 w1 w2 mv [] now)), (18, mv), (19, I n), (20, I 0)], tk := [], tr := none }) := by
  rcases hm with ⟨rfl, rfl⟩ | ⟨es, rfl, rfl⟩ <;> simp (maxSteps := 200000) [g32_2, evC, prep, prepF, prepT, V.prep, prepL, stepL, stepI, wanted, opds, opd, get, put, putO, sem, callE, loadV, partV, valO, binV, binI, binS, unV, nilCmp, apply, keepL, memN, bxOf, tkOf, frzL, V.frz, frzEL, V.frzE, V.pureR, pureRL, V.tks, tksL, V.al, alL, V.rn, rnL, addT, protT, protAll, distinctN, fill, splice, fillE, V.cells, V.cellOk, V.pm, eqSh, intsOf, maxL, minL, bounds, finL, V.fin, one, goesOn, lenT, unF, unC, unI, unO, unK, V.unV, unVL, unioL, killSF, V.killS, killSL, ioL, V.ioV, lsV]
abbrev sM (ring : Bool) (n1 n2 w1 w2 now : Int) (mv ev : V) (n : Nat) (L : List (List V)) (i : Nat) (r : List (Nat × V)) : St := { fr := [(1, ev), (2, .box (b6 ring n1 n2 w1 w2 mv)), (5, .ref 16 0), (16, .box (nb ring n1 n2 w1 w2 mv L now)), (18, mv), (19, I n), (20, I i)] ++ r, tk := tkL 1601 L, tr := none }
theorem n_g3 {n i : Nat} : evC call 1 (unC g32_3) (sM ring n1 n2 w1 w2 now mv ev n L i []) = some (.normal, sM ring n1 n2 w1 w2 now mv ev n L i [(21, B (decide ((i : Int) < n)))]) := by
  simp (maxSteps := 200000) [g32_3, evC, prep, prepF, prepT, V.prep, prepL, stepL, stepI, wanted, opds, opd, get, put, putO, sem, callE, loadV, partV, valO, binV, binI, binS, unV, nilCmp, apply, keepL, memN, bxOf, tkOf, frzL, V.frz, frzEL, V.frzE, V.pureR, pureRL, V.tks, tksL, V.al, alL, V.rn, rnL, addT, protT, protAll, distinctN, fill, splice, fillE, V.cells, V.cellOk, V.pm, eqSh, intsOf, maxL, minL, bounds, finL, V.fin, one, goesOn, lenT, unF, unC, unI, unO, unK, V.unV, unVL, unioL, killSF, V.killS, killSL, ioL, V.ioV, sM]
theorem n_g4 {n i : Nat} {es : List (List V)} {a b : Int} (he : evOk ev) (hi : es[i]? = some [I a, I b]) (_hl : (i : Int) < es.length) :
    evC call 1 (unC g32_4) (sM ring n1 n2 w1 w2 now (.sl none 2 es) ev n L i [(21, B true)]) = some (.normal, { fr := [(1, ev), (2, .box (b6 ring n1 n2 w1 w2 (.sl none 2 es))), (5, .ref 16 0), (6, I i), (7, .box [I a, I b]), (16, .box (nb ring n1 n2 w1 w2 (.sl none 2 es) L now)), (18, (.sl none 2 es)), (19, I n), (20, I i)], tk := tkL 1601 L, tr := none }) := by
  rcases he with rfl | ⟨vs, rfl⟩ <;> cases L <;> simp (maxSteps := 200000) [g32_4, evC, prep, prepF, prepT, V.prep, prepL, stepL, stepI, wanted, opds, opd, get, put, putO, sem, callE, loadV, partV, valO, binV, binI, binS, unV, nilCmp, apply, keepL, memN, bxOf, tkOf, frzL, V.frz, frzEL, V.frzE, V.pureR, pureRL, V.tks, tksL, V.al, alL, V.rn, rnL, addT, protT, protAll, distinctN, fill, splice, fillE, V.cells, V.cellOk, V.pm, eqSh, intsOf, maxL, minL, bounds, finL, V.fin, one, goesOn, lenT, unF, unC, unI, unO, unK, V.unV, unVL, unioL, killSF, V.killS, killSL, ioL, V.ioV, sM, b6, nb, lsV, tkL, hi]
theorem n_g5 {n i : Nat} {es : List (List V)} {a b lo hi : Int} (he : evOk ev) (e1 : call 58 [I i] = some (I (i + 1))) (e2 : ∀ lv, call 60 [.cref [B ring, I n1, I n2, I w1, I w2, .sl none 2 es, lv, I now], .agg [I a, I b]] = some (.agg [I lo, I hi]))
    (e3 : call 59 [.box (bx ring n1 n2 w1 w2 (.sl none 2 es) L now), I (i + 1), I 0, .agg [I lo, I hi]] = some (.tup [.box (bx ring n1 n2 w1 w2 (.sl none 2 es) (L ++ [rl (i + 1, 0, hi), rl (0, i + 1, -lo)]) now), .tup []])) :
    evC call 1 (unC g32_5) { fr := [(1, ev), (2, .box (b6 ring n1 n2 w1 w2 (.sl none 2 es))), (5, .ref 16 0), (6, I i), (7, .box [I a, I b]), (16, .box (nb ring n1 n2 w1 w2 (.sl none 2 es) L now)), (18, (.sl none 2 es)), (19, I n), (20, I i)], tk := tkL 1601 L, tr := none } =
      some (.normal, sM ring n1 n2 w1 w2 now (.sl none 2 es) ev n (L ++ [rl (i + 1, 0, hi), rl (0, i + 1, -lo)]) i []) := by
  have hb : ∀ bx : Nat → Option (List V), bx 16 = some [B ring, I n1, I n2, I w1, I w2, .sl none 2 es, lsV 1601 L, I now] → bxF bx 4 16 = some [B ring, I n1, I n2, I w1, I w2, .sl none 2 es, lsF L, I now] := fun bx => bx16 (.inr ⟨_, rfl⟩) rfl
  cases L with
  | nil =>
    simp only [bx, lsV, List.nil_append] at e3 hb ⊢
    rcases he with rfl | ⟨vs, rfl⟩ <;> simp (maxSteps := 200000) [g32_5, evC, prep, prepF, prepT, V.prep, prepL, stepL, stepI, wanted, opds, opd, get, put, putO, sem, callE, loadV, partV, valO, binV, binI, binS, unV, nilCmp, apply, keepL, memN, bxOf, tkOf, frzL, V.frz, frzEL, V.frzE, V.pureR, pureRL, V.tks, tksL, V.al, alL, V.rn, rnL, addT, protT, protAll, distinctN, fill, splice, fillE, V.cells, V.cellOk, V.pm, eqSh, intsOf, maxL, minL, bounds, finL, V.fin, one, goesOn, lenT, unF, unC, unI, unO, unK, V.unV, unVL, unioL, killSF, V.killS, killSL, ioL, V.ioV, sM, b6, nb, lsV, tkL, hb, e1, e2, e3]
  | cons x L =>
    simp only [bx, lsV, List.cons_append] at e3 hb ⊢
    rcases he with rfl | ⟨vs, rfl⟩ <;> simp (maxSteps := 200000) [g32_5, evC, prep, prepF, prepT, V.prep, prepL, stepL, stepI, wanted, opds, opd, get, put, putO, sem, callE, loadV, partV, valO, binV, binI, binS, unV, nilCmp, apply, keepL, memN, bxOf, tkOf, frzL, V.frz, frzEL, V.frzE, V.pureR, pureRL, V.tks, tksL, V.al, alL, V.rn, rnL, addT, protT, protAll, distinctN, fill, splice, fillE, V.cells, V.cellOk, V.pm, eqSh, intsOf, maxL, minL, bounds, finL, V.fin, one, goesOn, lenT, unF, unC, unI, unO, unK, V.unV, unVL, unioL, killSF, V.killS, killSL, ioL, V.ioV, sM, b6, nb, lsV, tkL, hb, e1, e2, e3]
theorem n_g6 {n i : Nat} (h : IntKind.i64.wrap ((i : Int) + 1) = (i : Int) + 1) : evC call 1 (unC g32_6) (sM ring n1 n2 w1 w2 now mv ev n L i []) = some (.normal, sM ring n1 n2 w1 w2 now mv ev n L (i + 1) []) := by
  simp (maxSteps := 200000) [g32_6, evC, prep, prepF, prepT, V.prep, prepL, stepL, stepI, wanted, opds, opd, get, put, putO, sem, callE, loadV, partV, valO, binV, binI, binS, unV, nilCmp, apply, keepL, memN, bxOf, tkOf, frzL, V.frz, frzEL, V.frzE, V.pureR, pureRL, V.tks, tksL, V.al, alL, V.rn, rnL, addT, protT, protAll, distinctN, fill, splice, fillE, V.cells, V.cellOk, V.pm, eqSh, intsOf, maxL, minL, bounds, finL, V.fin, one, goesOn, lenT, unF, unC, unI, unO, unK, V.unV, unVL, unioL, killSF, V.killS, killSL, ioL, V.ioV, sM, h]
theorem n_g7 {n i : Nat} {lo hi : Int} (hm : mvOk mv) (he : evOk ev) (e2 : ∀ lv, call 60 [.cref [B ring, I n1, I n2, I w1, I w2, mv, lv, I now], .agg [I n1, I n2]] = some (.agg [I lo, I hi]))
    (e3 : call 59 [.box (bx ring n1 n2 w1 w2 mv L now), I now, I 0, .agg [I lo, I hi]] = some (.tup [.box (bx ring n1 n2 w1 w2 mv (L ++ [rl (now, 0, hi), rl (0, now, -lo)]) now), .tup []])) :
    evC call 1 (unC g32_7) (sM ring n1 n2 w1 w2 now mv ev n L i [(21, B false)]) =
      some (.normal, { fr := [(1, ev), (5, .ref 16 0), (16, .box (nb ring n1 n2 w1 w2 mv (L ++ [rl (now, 0, hi), rl (0, now, -lo)]) now))], tk := tkL 1601 (L ++ [rl (now, 0, hi), rl (0, now, -lo)]), tr := none }) := by
  have hb : ∀ bx : Nat → Option (List V), bx 16 = some [B ring, I n1, I n2, I w1, I w2, mv, lsV 1601 L, I now] → bxF bx 4 16 = some [B ring, I n1, I n2, I w1, I w2, mv, lsF L, I now] := fun bx => bx16 hm rfl
  cases L with
  | nil =>
    simp only [bx, lsV, List.nil_append] at e3 hb ⊢
    rcases hm with rfl | ⟨es, rfl⟩ <;> rcases he with rfl | ⟨vs, rfl⟩ <;> simp (maxSteps := 200000) [g32_7, evC, prep, prepF, prepT, V.prep, prepL, stepL, stepI, wanted, opds, opd, get, put, putO, sem, callE, loadV, partV, valO, binV, binI, binS, unV, nilCmp, apply, keepL, memN, bxOf, tkOf, frzL, V.frz, frzEL, V.frzE, V.pureR, pureRL, V.tks, tksL, V.al, alL, V.rn, rnL, addT, protT, protAll, distinctN, fill, splice, fillE, V.cells, V.cellOk, V.pm, eqSh, intsOf, maxL, minL, bounds, finL, V.fin, one, goesOn, lenT, unF, unC, unI, unO, unK, V.unV, unVL, unioL, killSF, V.killS, killSL, ioL, V.ioV, sM, b6, nb, lsV, tkL, hb, e2, e3]
  | cons x L =>
    simp only [bx, lsV, List.cons_append] at e3 hb ⊢
    rcases hm with rfl | ⟨es, rfl⟩ <;> rcases he with rfl | ⟨vs, rfl⟩ <;> simp (maxSteps := 200000) [g32_7, evC, prep, prepF, prepT, V.prep, prepL, stepL, stepI, wanted, opds, opd, get, put, putO, sem, callE, loadV, partV, valO, binV, binI, binS, unV, nilCmp, apply, keepL, memN, bxOf, tkOf, frzL, V.frz, frzEL, V.frzE, V.pureR, pureRL, V.tks, tksL, V.al, alL, V.rn, rnL, addT, protT, protAll, distinctN, fill, splice, fillE, V.cells, V.cellOk, V.pm, eqSh, intsOf, maxL, minL, bounds, finL, V.fin, one, goesOn, lenT, unF, unC, unI, unO, unK, V.unV, unVL, unioL, killSF, V.killS, killSL, ioL, V.ioV, sM, b6, nb, lsV, tkL, hb, e2, e3]
abbrev sV (ring : Bool) (n1 n2 w1 w2 now : Int) (mv ev : V) (n : Nat) (L : List (List V)) (i : Nat) (r : List (Nat × V)) : St := { fr := [(5, .ref 16 0), (16, .box (nb ring n1 n2 w1 w2 mv L now)), (43, ev), (44, I n), (45, I i)] ++ r, tk := tkL 1601 L, tr := none }
theorem n_g8 {n : Nat} (he : ev = .nil ∧ n = 0 ∨ ∃ es, ev = .sl none 3 es ∧ es.length = n) :
    evC call 1 (unC g32_8) { fr := [(1, ev), (5, .ref 16 0), (16, .box (nb ring n1 n2 w1 w2 mv L now))], tk := tkL 1601 L, tr := none } = some (.normal, sV ring n1 n2 w1 w2 now mv ev n L 0 []) := by
  rcases he with ⟨rfl, rfl⟩ | ⟨es, rfl, rfl⟩ <;> simp (maxSteps := 200000) [g32_8, evC, prep, prepF, prepT, V.prep, prepL, stepL, stepI, wanted, opds, opd, get, put, putO, sem, callE, loadV, partV, valO, binV, binI, binS, unV, nilCmp, apply, keepL, memN, bxOf, tkOf, frzL, V.frz, frzEL, V.frzE, V.pureR, pureRL, V.tks, tksL, V.al, alL, V.rn, rnL, addT, protT, protAll, distinctN, fill, splice, fillE, V.cells, V.cellOk, V.pm, eqSh, intsOf, maxL, minL, bounds, finL, V.fin, one, goesOn, lenT, unF, unC, unI, unO, unK, V.unV, unVL, unioL, killSF, V.killS, killSL, ioL, V.ioV, sV]
theorem n_g9 {n i : Nat} : evC call 1 (unC g32_9) (sV ring n1 n2 w1 w2 now mv ev n L i []) = some (.normal, sV ring n1 n2 w1 w2 now mv ev n L i [(46, B (decide ((i : Int) < n)))]) := by
  simp (maxSteps := 200000) [g32_9, evC, prep, prepF, prepT, V.prep, prepL, stepL, stepI, wanted, opds, opd, get, put, putO, sem, callE, loadV, partV, valO, binV, binI, binS, unV, nilCmp, apply, keepL, memN, bxOf, tkOf, frzL, V.frz, frzEL, V.frzE, V.pureR, pureRL, V.tks, tksL, V.al, alL, V.rn, rnL, addT, protT, protAll, distinctN, fill, splice, fillE, V.cells, V.cellOk, V.pm, eqSh, intsOf, maxL, minL, bounds, finL, V.fin, one, goesOn, lenT, unF, unC, unI, unO, unK, V.unV, unVL, unioL, killSF, V.killS, killSL, ioL, V.ioV, sV]
theorem n_g10 {n i : Nat} {es : List (List V)} {a b : Int} {g : Bool} (hm : mvOk mv) (hi : es[i]? = some [I a, I b, B g]) (_hl : (i : Int) < es.length) :
    evC call 1 (unC g32_10) (sV ring n1 n2 w1 w2 now mv (.sl none 3 es) n L i [(46, B true)]) = some (.normal, { fr := [(5, .ref 16 0), (9, .box [I a, I b, B g]), (16, .box (nb ring n1 n2 w1 w2 mv L now)), (43, .sl none 3 es), (44, I n), (45, I i)], tk := tkL 1601 L, tr := none }) := by
  rcases hm with rfl | ⟨ms, rfl⟩ <;> cases L <;> simp (maxSteps := 200000) [g32_10, evC, prep, prepF, prepT, V.prep, prepL, stepL, stepI, wanted, opds, opd, get, put, putO, sem, callE, loadV, partV, valO, binV, binI, binS, unV, nilCmp, apply, keepL, memN, bxOf, tkOf, frzL, V.frz, frzEL, V.frzE, V.pureR, pureRL, V.tks, tksL, V.al, alL, V.rn, rnL, addT, protT, protAll, distinctN, fill, splice, fillE, V.cells, V.cellOk, V.pm, eqSh, intsOf, maxL, minL, bounds, finL, V.fin, one, goesOn, lenT, unF, unC, unI, unO, unK, V.unV, unVL, unioL, killSF, V.killS, killSL, ioL, V.ioV, sV, nb, lsV, tkL, hi]
theorem n_g11 {n i : Nat} {es : List (List V)} {a b now2 : Int} {g : Bool} {L2 : List (List V)} (hm : mvOk mv)
    (e3 : call 61 [.box (bx ring n1 n2 w1 w2 mv L now), .agg [I a, I b, B g]] = some (.tup [.box (bx ring n1 n2 w1 w2 mv L2 now2), .tup []])) :
    evC call 1 (unC g32_11) { fr := [(5, .ref 16 0), (9, .box [I a, I b, B g]), (16, .box (nb ring n1 n2 w1 w2 mv L now)), (43, .sl none 3 es), (44, I n), (45, I i)], tk := tkL 1601 L, tr := none } =
      some (.normal, sV ring n1 n2 w1 w2 now2 mv (.sl none 3 es) n L2 i []) := by
  cases L <;> cases L2 <;> simp only [bx, lsV] at e3 <;> rcases hm with rfl | ⟨ms, rfl⟩ <;> simp (maxSteps := 200000) [g32_11, evC, prep, prepF, prepT, V.prep, prepL, stepL, stepI, wanted, opds, opd, get, put, putO, sem, callE, loadV, partV, valO, binV, binI, binS, unV, nilCmp, apply, keepL, memN, bxOf, tkOf, frzL, V.frz, frzEL, V.frzE, V.pureR, pureRL, V.tks, tksL, V.al, alL, V.rn, rnL, addT, protT, protAll, distinctN, fill, splice, fillE, V.cells, V.cellOk, V.pm, eqSh, intsOf, maxL, minL, bounds, finL, V.fin, one, goesOn, lenT, unF, unC, unI, unO, unK, V.unV, unVL, unioL, killSF, V.killS, killSL, ioL, V.ioV, sV, nb, lsV, tkL, e3]
theorem n_g12 {n i : Nat} (h : IntKind.i64.wrap ((i : Int) + 1) = (i : Int) + 1) : evC call 1 (unC g32_12) (sV ring n1 n2 w1 w2 now mv ev n L i []) = some (.normal, sV ring n1 n2 w1 w2 now mv ev n L (i + 1) []) := by
  simp (maxSteps := 200000) [g32_12, evC, prep, prepF, prepT, V.prep, prepL, stepL, stepI, wanted, opds, opd, get, put, putO, sem, callE, loadV, partV, valO, binV, binI, binS, unV, nilCmp, apply, keepL, memN, bxOf, tkOf, frzL, V.frz, frzEL, V.frzE, V.pureR, pureRL, V.tks, tksL, V.al, alL, V.rn, rnL, addT, protT, protAll, distinctN, fill, splice, fillE, V.cells, V.cellOk, V.pm, eqSh, intsOf, maxL, minL, bounds, finL, V.fin, one, goesOn, lenT, unF, unC, unI, unO, unK, V.unV, unVL, unioL, killSF, V.killS, killSL, ioL, V.ioV, sV, h]
theorem n_g13 {n i : Nat} : evC call 1 (unC g32_13) (sV ring n1 n2 w1 w2 now mv ev n L i [(46, B false)]) = some (.normal, { fr := [(4, .ref 16 0), (16, .box (nb ring n1 n2 w1 w2 mv L now))], tk := tkL 1601 L, tr := none }) := by
  simp (maxSteps := 200000) [g32_13, evC, prep, prepF, prepT, V.prep, prepL, stepL, stepI, wanted, opds, opd, get, put, putO, sem, callE, loadV, partV, valO, binV, binI, binS, unV, nilCmp, apply, keepL, memN, bxOf, tkOf, frzL, V.frz, frzEL, V.frzE, V.pureR, pureRL, V.tks, tksL, V.al, alL, V.rn, rnL, addT, protT, protAll, distinctN, fill, splice, fillE, V.cells, V.cellOk, V.pm, eqSh, intsOf, maxL, minL, bounds, finL, V.fin, one, goesOn, lenT, unF, unC, unI, unO, unK, V.unV, unVL, unioL, killSF, V.killS, killSL, ioL, V.ioV, sV]
end
end Go.Lo.G1

/- Words for the walks of the plain machine. -/
namespace Go.Lo
abbrev I (n : Int) : V := .int .i64 n
abbrev B (b : Bool) : V := .bool b
/-- A slice that nobody writes any more. -/
abbrev S (sz : Nat) (es : List (List V)) : V := .sl none sz es
/-- Integers as elements. -/
abbrev eI (xs : List Int) : List (List V) := xs.map fun x => [I x]
theorem wrap64 {n : Int} (h1 : -9223372036854775808 ≤ n) (h2 : n ≤ 9223372036854775807) : IntKind.i64.wrap n = n := by
  simp [IntKind.wrap, IntKind.bits, IntKind.signed]
  omega
theorem if_iff {α : Type} {P Q : Prop} [Decidable P] [Decidable Q] {x y : α} (h : P ↔ Q) : (if P then x else y) = if Q then x else y := by by_cases hp : P <;> simp [hp, ← h]
theorem iter_succ {f : St → Option (Ex × St)} {n : Nat} {σ : St} : iter f (n + 1) σ = match f σ with
    | some (.normal, σ') => iter f n σ'
    | r => r := rfl
theorem loop_find {f : St → Option (Ex × St)} {s : Nat → St} {n : Nat} {g : Nat → Bool} {E : Nat → Ex × St} {X : Ex × St} (hs : ∀ i, i < n → f (s i) = some (if g i = true then E i else (.normal, s (i + 1)))) (hE : ∀ i, (E i).1 ≠ .normal) (hn : f (s n) = some X) (hX : X.1 ≠ .normal) :
    ∀ (k i : Nat), i + k = n → iter f (k + 1) (s i) = some (match (List.range' i k).find? g with
      | some j => E j
      | none => X)
  | 0, i, h => by
    have : i = n := by omega
    subst this
    rw [iter_succ, hn]
    obtain ⟨x, σ⟩ := X
    cases x with
    | normal => exact (hX rfl).elim
    | exit id => rfl
    | ret => rfl
  | k + 1, i, h => by
    rw [iter_succ, hs i (by omega), List.range'_succ, List.find?_cons]
    cases hg : g i with
    | true =>
      simp only [if_true]
      have he := hE i
      generalize E i = e at he ⊢
      obtain ⟨x, σ⟩ := e
      cases x with
      | normal => exact (he rfl).elim
      | exit id => rfl
      | ret => rfl
    | false =>
      simp only [Bool.false_eq_true, if_false]
      exact loop_find hs hE hn hX k (i + 1) (by omega)
/-- The first element, and the first index, for which a function says so. -/
def prAt {α : Type} (pr : α → Bool) (xs : List α) (i : Nat) : Bool := match xs[i]? with
  | some x => pr x
  | none => false
theorem prAt_some {α : Type} {pr : α → Bool} {xs : List α} {i : Nat} {x : α} (h : xs[i]? = some x) : prAt pr xs i = pr x := by simp only [prAt, h]
theorem find_idx {α : Type} (pr : α → Bool) (xs : List α) : (List.range' 0 xs.length).find? (prAt pr xs) = xs.findIdx? pr := by
  have key : ∀ (l : List α) (k : Nat) (g : Nat → Bool), (∀ i x, l[i]? = some x → g (k + i) = pr x) → (List.range' k l.length).find? g = (l.findIdx? pr).map (· + k) := by
    intro l
    induction l with
    | nil => intro k g _; rfl
    | cons x l ih =>
      intro k g hg
      rw [List.length_cons, List.range'_succ, List.find?_cons, List.findIdx?_cons]
      have h0 := hg 0 x rfl
      rw [Nat.add_zero] at h0
      rw [h0]
      cases hx : pr x with
      | true => simp
      | false =>
        simp only [Bool.false_eq_true, if_false, Option.map_map]
        rw [ih (k + 1) g fun i y hy => by rw [show k + 1 + i = k + (i + 1) by omega]; exact hg (i + 1) y (by simpa using hy)]
        cases l.findIdx? pr <;> simp; omega
  have := key xs 0 (prAt pr xs) (fun i x h => by rw [Nat.zero_add, prAt_some h])
  rw [this]; cases xs.findIdx? pr <;> simp
/-- A search, by what a round comes to. -/
theorem loop_if {f : St → Option (Ex × St)} {s : Nat → St} {n : Nat} {g : Nat → Bool} {E : Nat → Ex × St} {X : Ex × St} (hs : ∀ i, i < n → f (s i) = if g i = true then some (E i) else some (.normal, s (i + 1))) (hE : ∀ i, (E i).1 ≠ .normal) (hn : f (s n) = some X) (hX : X.1 ≠ .normal) :
    iter f (n + 1) (s 0) = some (match (List.range' 0 n).find? g with
      | some j => E j
      | none => X) :=
  loop_find (fun i hi => by rw [hs i hi]; split <;> rfl) hE hn hX n 0 (by omega)
theorem loop_all {f : St → Option (Ex × St)} {s : Nat → St} {n : Nat} {X : Ex × St} (hs : ∀ i, i < n → f (s i) = some (.normal, s (i + 1))) (hn : f (s n) = some X) (hX : X.1 ≠ .normal) : iter f (n + 1) (s 0) = some X := by
  have := loop_find (g := fun _ => false) (E := fun i => (.ret, s i)) (s := s) (fun i hi => by rw [hs i hi]; rfl) (fun _ => by simp) hn hX n 0 (by omega)
  rw [this]
  have : (List.range' 0 n).find? (fun _ => false) = none := by simp
  rw [this]
/-! ### How the machine goes on, in small steps -/
section
variable (call : Nat → List V → Option V) (N : Nat)
def goE (dst : Option Nat) (is : List LIns) (σ : St) : Option Eff2 → Option St
  | some e => stepL2 call is (apply2 σ dst e)
  | none => none
def goK (dst : Option Nat) (k : K) (ex : List Nat) (is : List LIns) (σ : St) : Option (List V) → Option St
  | some vs => goE call dst is σ (sem2 call (bxOf σ.fr ex) ex (dst.getD 0) k vs)
  | none => none
def goG (dst : Option Nat) (k : K) (xs : List Opd) (ex : List Nat) (is : List LIns) (σ : St) (b : Bool) : Option V → Option St
  | some (.bool c) => match c == b with
    | true => goK call dst k ex is σ (opds σ.fr xs)
    | false => stepL2 call is { σ with fr := putO σ.fr dst .und }
  | some .und => stepL2 call is { σ with fr := putO σ.fr dst .und }
  | _ => none
def regE (kn : Nat) (kp : List Nat) : Option St → Option (Ex × St)
  | some σ => some (.normal, { σ with fr := keepL kn kp σ.fr })
  | none => none
def seqE (b : LCode) : Option (Ex × St) → Option (Ex × St)
  | some (.normal, σ) => evC2 call N b σ
  | r => r
def conE (a b : LCode) (σ : St) : Option V → Option (Ex × St)
  | some (.bool true) => evC2 call N a σ
  | some (.bool false) => evC2 call N b σ
  | _ => none
def blkE (id : Nat) : Option (Ex × St) → Option (Ex × St)
  | some (.exit j, σ) => if j = id then some (.normal, σ) else some (.exit j, σ)
  | r => r
def endE (it : Bool) (res : List RV) : Option (Ex × St) → Option V
  | some (.normal, σ) => finish2 it res σ
  | some (.ret, σ) => finish2 it res σ
  | _ => none
variable {call N}
variable {dst : Option Nat} {k : K} {xs : List Opd} {ex : List Nat} {is : List LIns} {σ : St} {e : Eff2} {vs : List V}
@[simp] theorem goE_some : goE call dst is σ (some e) = stepL2 call is (apply2 σ dst e) := rfl
@[simp] theorem goK_some : goK call dst k ex is σ (some vs) = goE call dst is σ (sem2 call (bxOf σ.fr ex) ex (dst.getD 0) k vs) := rfl
@[simp] theorem goG_tt : goG call dst k xs ex is σ true (some (.bool true)) = goK call dst k ex is σ (opds σ.fr xs) := rfl
@[simp] theorem goG_tf : goG call dst k xs ex is σ true (some (.bool false)) = stepL2 call is { σ with fr := putO σ.fr dst .und } := rfl
@[simp] theorem goG_ft : goG call dst k xs ex is σ false (some (.bool true)) = stepL2 call is { σ with fr := putO σ.fr dst .und } := rfl
@[simp] theorem goG_ff : goG call dst k xs ex is σ false (some (.bool false)) = goK call dst k ex is σ (opds σ.fr xs) := rfl
@[simp] theorem goG_und (b : Bool) : goG call dst k xs ex is σ b (some .und) = stepL2 call is { σ with fr := putO σ.fr dst .und } := rfl
@[simp] theorem stepL2_nil : stepL2 call [] σ = some σ := rfl
@[simp] theorem stepL2_cons : stepL2 call (⟨dst, k, xs, none, ex⟩ :: is) σ = goK call dst k ex is σ (opds σ.fr xs) := by
  simp only [stepL2, stepI2, wanted]
  cases opds σ.fr xs with
  | none => rfl
  | some vs => simp only [goK]; cases sem2 call (bxOf σ.fr ex) ex (dst.getD 0) k vs <;> rfl
@[simp] theorem stepL2_guard (s : Nat) (b : Bool) : stepL2 call (⟨dst, k, xs, some (s, b), ex⟩ :: is) σ = goG call dst k xs ex is σ b (get σ.fr s) := by
  simp only [stepL2, stepI2, wanted]
  cases hg : get σ.fr s with
  | none => rfl
  | some v =>
    cases v <;> try rfl
    rename_i c
    simp only [goG]
    cases hcb : c == b with
    | false => simp
    | true =>
      simp only
      cases opds σ.fr xs with
      | none => rfl
      | some vs => simp only [goK]; cases sem2 call (bxOf σ.fr ex) ex (dst.getD 0) k vs <;> rfl
@[simp] theorem regE_some {kn : Nat} {kp : List Nat} : regE kn kp (some σ) = some (.normal, { σ with fr := keepL kn kp σ.fr }) := rfl
@[simp] theorem seqE_normal {b : LCode} : seqE call N b (some (.normal, σ)) = evC2 call N b σ := rfl
@[simp] theorem seqE_ret {b : LCode} : seqE call N b (some (.ret, σ)) = some (.ret, σ) := rfl
@[simp] theorem seqE_exit {b : LCode} {i : Nat} : seqE call N b (some (.exit i, σ)) = some (.exit i, σ) := rfl
@[simp] theorem conE_true {a b : LCode} : conE call N a b σ (some (.bool true)) = evC2 call N a σ := rfl
@[simp] theorem conE_false {a b : LCode} : conE call N a b σ (some (.bool false)) = evC2 call N b σ := rfl
@[simp] theorem blkE_normal {id : Nat} : blkE id (some (.normal, σ)) = some (.normal, σ) := rfl
@[simp] theorem blkE_ret {id : Nat} : blkE id (some (.ret, σ)) = some (.ret, σ) := rfl
@[simp] theorem blkE_exit {id j : Nat} : blkE id (some (.exit j, σ)) = if j = id then some (.normal, σ) else some (.exit j, σ) := rfl
@[simp] theorem endE_normal {it : Bool} {res : List RV} : endE it res (some (.normal, σ)) = finish2 it res σ := rfl
@[simp] theorem endE_ret {it : Bool} {res : List RV} : endE it res (some (.ret, σ)) = finish2 it res σ := rfl
@[simp] theorem evC2_skip : evC2 call N .skip σ = some (.normal, σ) := rfl
@[simp] theorem evC2_ret : evC2 call N .ret σ = some (.ret, σ) := rfl
@[simp] theorem evC2_exit {id : Nat} : evC2 call N (.exit id) σ = some (.exit id, σ) := rfl
@[simp] theorem evC2_reg {lp : Bool} {ds pp : List Nat} {ops : List LIns} {kn : Nat} {kp : List Nat} : evC2 call N (.reg lp ds pp ops kn kp) σ = regE kn kp (stepL2 call ops (prep2 lp pp σ)) := by
  simp only [evC2]
  cases stepL2 call ops (prep2 lp pp σ) <;> rfl
@[simp] theorem evC2_seq {a b : LCode} : evC2 call N (.seq a b) σ = seqE call N b (evC2 call N a σ) := by
  simp only [evC2]
  cases evC2 call N a σ with
  | none => rfl
  | some r => obtain ⟨x, τ⟩ := r; cases x <;> rfl
@[simp] theorem evC2_cond {c : Opd} {a b : LCode} : evC2 call N (.cond c a b) σ = conE call N a b σ (opd σ.fr c) := by
  simp only [evC2]
  cases opd σ.fr c with
  | none => rfl
  | some v =>
    cases v <;> try rfl
    rename_i t
    cases t <;> rfl
def altE (a b : LCode) (σ : St) : Option Bool → Option (Ex × St)
  | some true => evC2 call N b σ
  | some false => evC2 call N a σ
  | none => none
@[simp] theorem altE_true {a b : LCode} : altE (call := call) (N := N) a b σ (some true) = evC2 call N b σ := rfl
@[simp] theorem altE_false {a b : LCode} : altE (call := call) (N := N) a b σ (some false) = evC2 call N a σ := rfl
@[simp] theorem evC2_alt {ts ks : List Nat} {a b : LCode} : evC2 call N (.alt ts ks a b) σ = altE (call := call) (N := N) a b σ (altT2 ts σ.fr ks) := by
  simp only [evC2]
  cases altT2 ts σ.fr ks with
  | none => rfl
  | some c => cases c <;> rfl
@[simp] theorem andO_ss {a b : Bool} : andO (some a) (some b) = some (a || b) := rfl
@[simp] theorem altT2_nil {ts : List Nat} {fr : List (Nat × V)} : altT2 ts fr [] = some false := rfl
def altG (ts : List Nat) (fr : List (Nat × V)) (ks : List Nat) : Option V → Option Bool
  | some v => andO (hasT2 ts v) (altT2 ts fr ks)
  | none => none
def getRV (fr : List (Nat × V)) : Option V → Option V
  | some (.ref s _) => get fr s
  | r => r
@[simp] theorem getRV_ref {fr : List (Nat × V)} {s o : Nat} : getRV fr (some (.ref s o)) = get fr s := rfl
@[simp] theorem getRV_box {fr : List (Nat × V)} {cs : List V} : getRV fr (some (.box cs)) = some (.box cs) := rfl
@[simp] theorem getRV_sl {fr : List (Nat × V)} {t : Option Nat} {sz : Nat} {es : List (List V)} : getRV fr (some (.sl t sz es)) = some (.sl t sz es) := rfl
@[simp] theorem getRV_nil {fr : List (Nat × V)} : getRV fr (some .nil) = some .nil := rfl
@[simp] theorem altG_some {ts : List Nat} {fr : List (Nat × V)} {ks : List Nat} {v : V} : altG ts fr ks (some v) = andO (hasT2 ts v) (altT2 ts fr ks) := rfl
@[simp] theorem altT2_cons {ts : List Nat} {fr : List (Nat × V)} {k : Nat} {ks : List Nat} : altT2 ts fr (k :: ks) = altG ts fr ks (getRV fr (get fr k)) := by
  simp only [altT2, getR, getRV]
  cases get fr k with
  | none => rfl
  | some v =>
    cases v with
    | ref s o => simp only; cases get fr s <;> rfl
    | _ => rfl
@[simp] theorem hasT2_box {ts : List Nat} {cs : List V} : hasT2 ts (.box cs) = slTL2 ts cs := rfl
@[simp] theorem slTL2_nil {ts : List Nat} : slTL2 ts [] = some false := rfl
@[simp] theorem slTL2_cons {ts : List Nat} {v : V} {vs : List V} : slTL2 ts (v :: vs) = andO (slT2 ts v) (slTL2 ts vs) := rfl
@[simp] theorem slT2_nil {ts : List Nat} {u sz : Nat} : slT2 ts (.sl (some u) sz []) = some (!mbT u && memN (tb u / 100) ts) := rfl
@[simp] theorem slT2_cons {ts : List Nat} {u sz : Nat} {e : List V} {es : List (List V)} : slT2 ts (.sl (some u) sz (e :: es)) = some (memN (tb u / 100) ts) := rfl
theorem slT2_ne {ts : List Nat} {u sz : Nat} {es : List (List V)} (h : es ≠ []) : slT2 ts (.sl (some u) sz es) = some (memN (tb u / 100) ts) := by
  cases es with
  | nil => exact absurd rfl h
  | cons e es => rfl
@[simp] theorem evC2_block {id : Nat} {a : LCode} : evC2 call N (.block id a) σ = blkE id (evC2 call N a σ) := by
  simp only [evC2]
  cases evC2 call N a σ with
  | none => rfl
  | some r => obtain ⟨x, τ⟩ := r; cases x <;> rfl
@[simp] theorem evC2_loop {a : LCode} : evC2 call N (.loop a) σ = iter (evC2 call N a) N σ := rfl
theorem evBody2_eq {lf : LFun} {args : List V} (h : args.length = lf.np) (hl : liveL args = true) : evBody2 call N lf args = endE (ranged args) lf.res (evC2 call N lf.body { fr := params 0 args ++ deadL lf.sl, tk := [], tr := if ranged args = true then some [] else none }) := by
  unfold evBody2
  rw [if_pos ⟨h, hl⟩]
  cases evC2 call N lf.body { fr := params 0 args ++ deadL lf.sl, tk := [], tr := if ranged args = true then some [] else none } with
  | none => rfl
  | some r => obtain ⟨x, τ⟩ := r; cases x <;> rfl
/-- A function's equation. -/
theorem run2_body {F : Nat → Option (List V → Option V)} {C : Nat → Option LFun} {f : Nat} (N : Nat) {lf : LFun} {as1 : List V} {r : V} (hF : F f = none) (hC : C f = some lf) (h : as1.length = lf.np) (hl : liveL as1 = true) (hr : ranged as1 = false)
    (hb : endE false lf.res (evC2 (run2 F C) N lf.body { fr := params 0 as1 ++ deadL lf.sl, tk := [] }) = some r) : run2 F C f as1 = some r := by
  refine run2_of_body (N := N) hF hC ?_
  rw [evBody2_eq h hl, hr]
  exact hb
/-- An iterator's equation. -/
theorem run2_iter {F : Nat → Option (List V → Option V)} {C : Nat → Option LFun} {f : Nat} (N : Nat) {lf : LFun} {as1 : List V} {r : V} (hF : F f = none) (hC : C f = some lf) (h : as1.length = lf.np) (hl : liveL as1 = true) (hr : ranged as1 = true)
    (hb : endE true lf.res (evC2 (run2 F C) N lf.body { fr := params 0 as1 ++ deadL lf.sl, tk := [], tr := some [] }) = some r) : run2 F C f as1 = some r := by
  refine run2_of_body (N := N) hF hC ?_
  rw [evBody2_eq h hl, hr]
  exact hb
/-! ### Ranges over functions -/
def raE (evB : St → Option (Ex × St)) : Option (Ex × St) → Option (Ex × St)
  | some (.normal, σ) => evB σ
  | _ => none
def rbE (wr : List Nat) : Option (Ex × St) → Option (Ex × St)
  | some (ex, σ) => some (ex, { σ with fr := dropL wr σ.fr })
  | none => none
@[simp] theorem raE_some {evB : St → Option (Ex × St)} : raE evB (some (.normal, σ)) = evB σ := rfl
@[simp] theorem rbE_some {wr : List Nat} {x : Ex} : rbE wr (some (x, σ)) = some (x, { σ with fr := dropL wr σ.fr }) := rfl
@[simp] theorem rbE_ite {P : Prop} [Decidable P] {wr : List Nat} {x y : Option (Ex × St)} : rbE wr (if P then x else y) = if P then rbE wr x else rbE wr y := by split <;> rfl
theorem roundE_eq {evA evB : St → Option (Ex × St)} {ps wr : List Nat} {as1 : List V} : roundE evA evB ps wr σ as1 = if as1.length = ps.length then rbE wr (raE evB (evA { σ with fr := putA ps as1 (dropL wr σ.fr) })) else none := by
  unfold roundE
  split
  · cases evA { σ with fr := putA ps as1 (dropL wr σ.fr) } with
    | none => rfl
    | some r =>
      obtain ⟨x, τ⟩ := r
      cases x with
      | normal =>
        simp only [raE]
        cases evB τ with
        | none => rfl
        | some r => obtain ⟨x, τ⟩ := r; rfl
      | exit _ => rfl
      | ret => rfl
  · rfl
def rnF (call : Nat → List V → Option V) (N : Nat) (ps wr : List Nat) (asg body : LCode) (σ : St) (ys : List V → Nat → Nat → Option V) : Option (List V × List Nat) → Option (Ex × St)
  | some (cs, ts) => if (cs.all fun v => v.cells.all V.pm) = true then rngE (roundE (evC2 call N asg) (evC2 call N body) ps wr) (ys cs 0) { fr := dropL wr (roF ts σ.fr), tk := σ.tk, tr := none } else none
  | none => none
def rnE (call : Nat → List V → Option V) (N : Nat) (ps wr : List Nat) (asg body : LCode) (σ : St) : Option (List (List V)) → Option V → Option (Ex × St)
  | none, some (.fn (.f f) caps) => rnF call N ps wr asg body σ (fun cs _ a => call f (.fn (.y a) [] :: cs)) (frzEL caps)
  | none, some (.fn (.m f) caps) => rnF call N ps wr asg body σ (fun cs _ a => call f (cs ++ [.fn (.y a) []])) (frzEL caps)
  | _, _ => none
@[simp] theorem rnE_f {ps wr : List Nat} {asg body : LCode} {f : Nat} {caps : List V} : rnE call N ps wr asg body σ none (some (.fn (.f f) caps)) = rnF call N ps wr asg body σ (fun cs _ a => call f (.fn (.y a) [] :: cs)) (frzEL caps) := rfl
@[simp] theorem rnE_m {ps wr : List Nat} {asg body : LCode} {f : Nat} {caps : List V} : rnE call N ps wr asg body σ none (some (.fn (.m f) caps)) = rnF call N ps wr asg body σ (fun cs _ a => call f (cs ++ [.fn (.y a) []])) (frzEL caps) := rfl
@[simp] theorem rnF_some {ps wr : List Nat} {asg body : LCode} {ys : List V → Nat → Nat → Option V} {cs : List V} {ts : List Nat} : rnF call N ps wr asg body σ ys (some (cs, ts)) = if (cs.all fun v => v.cells.all V.pm) = true then rngE (roundE (evC2 call N asg) (evC2 call N body) ps wr) (ys cs 0) { fr := dropL wr (roF ts σ.fr), tk := σ.tk, tr := none } else none := rfl
@[simp] theorem evC2_rng {g : Opd} {ps wr : List Nat} {asg body : LCode} : evC2 call N (.rng g ps wr asg body) σ = rnE call N ps wr asg body σ σ.tr (opd σ.fr g) := by
  simp only [evC2]
  cases σ.tr with
  | some l => rfl
  | none =>
    cases opd σ.fr g with
    | none => rfl
    | some v =>
      cases v with
      | fn f caps =>
        cases f with
        | y a => rfl
        | f f =>
          simp only [rnE, rnF]
          cases frzEL caps with
          | none => rfl
          | some p => obtain ⟨x, y⟩ := p; rfl
        | m f =>
          simp only [rnE, rnF]
          cases frzEL caps with
          | none => rfl
          | some p => obtain ⟨x, y⟩ := p; rfl
      | _ => rfl
theorem rngE_all {f : St → List V → Option (Ex × St)} {it : Nat → Option V} {items : List (List V)} {σ' : St} (h1 : it 0 = some (.tup (tupsL items))) (h2 : foldR f 0 σ items = some (none, σ')) : rngE f it σ = some (.normal, σ') := by
  unfold rngE
  rw [h1]
  simp only [itemsOf, itemsL_tups, h2]
theorem fold_all {α β : Type} {f : St → List V → Option (Ex × St)} {s : List β → St} {W : α → List V} {h : α → List β} : ∀ (xs : List α) (k : Nat) (l : List β), (∀ x ∈ xs, ∀ l, f (s l) (W x) = some (.normal, s (l ++ h x))) → foldR f k (s l) (xs.map W) = some (none, s (l ++ xs.flatMap h))
  | [], k, l, _ => by simp [foldR]
  | x :: xs, k, l, hf => by
    simp only [List.map_cons, foldR, hf x (by simp) l]
    rw [fold_all xs (k + 1) (l ++ h x) fun y hy => hf y (by simp [hy])]
    simp
theorem len_flatMap {α β : Type} {h : α → List β} {c : Nat} (hc : ∀ x, (h x).length ≤ c) : ∀ xs : List α, (xs.flatMap h).length ≤ xs.length * c
  | [] => by simp
  | x :: xs => by
    have := len_flatMap hc xs
    have := hc x
    rw [List.flatMap_cons, List.length_append, List.length_cons, Nat.add_mul]; omega
/-- All rounds of a range over a function that goes on and on; the first one starts from a frame of its own. -/
theorem rng_fold {α β : Type} {f : St → List V → Option (Ex × St)} {it : Nat → Option V} {σ0 : St} {s : List β → St} {W : α → List V} {h : α → List β} {xs : List α} {l0 : List β} (h1 : it 0 = some (.tup (tupsL (xs.map W)))) (hx : xs ≠ [])
    (h0 : ∀ x, f σ0 (W x) = f (s l0) (W x)) (hf : ∀ pre x suf, xs = pre ++ x :: suf → f (s (l0 ++ pre.flatMap h)) (W x) = some (.normal, s (l0 ++ pre.flatMap h ++ h x))) : rngE f it σ0 = some (.normal, s (l0 ++ xs.flatMap h)) := by
  have key : ∀ (suf pre : List α) (k : Nat), xs = pre ++ suf → foldR f k (s (l0 ++ pre.flatMap h)) (suf.map W) = some (none, s (l0 ++ xs.flatMap h)) := by
    intro suf
    induction suf with
    | nil => intro pre k e; rw [List.append_nil] at e; subst e; rfl
    | cons x suf ih =>
      intro pre k e
      simp only [List.map_cons, foldR, hf pre x suf e]
      have := ih (pre ++ [x]) (k + 1) (by rw [e]; simp)
      rw [← this]
      simp
  refine rngE_all h1 ?_
  have k0 := key xs [] 0 rfl
  simp only [List.flatMap_nil, List.append_nil] at k0
  rw [← k0]
  cases xs with
  | nil => exact absurd rfl hx
  | cons x xs => simp only [List.map_cons, foldR, h0 x]
/-! ### Operations -/
variable {bx : Nat → Option (List V)} {d : Nat}
def stoE (s off : Nat) (new : List V) : Option (List V) → Option Eff2
  | some cs => match splice cs off new with | some cs' => some (.sto s cs') | none => none
  | none => none
@[simp] theorem stoE_some {s off : Nat} {new cs : List V} : stoE s off new (some cs) = if off + new.length ≤ cs.length then some (.sto s (cs.take off ++ new ++ cs.drop (off + new.length))) else none := by
  by_cases h : off + new.length ≤ cs.length <;> simp [stoE, splice, h]
def ldE (off : Nat) (n : Option Nat) : Option (List V) → Option V
  | some cs => partV cs off n
  | none => none
@[simp] theorem ldE_some {off : Nat} {n : Option Nat} {cs : List V} : ldE off n (some cs) = partV cs off n := rfl
@[simp] theorem x_mv {v : V} : sem2 call bx ex d .mv [v] = some (.val v) := rfl
@[simp] theorem x_pick_t {a b : V} : sem2 call bx ex d .pick [.bool true, a, b] = some (.val a) := rfl
@[simp] theorem x_pick_f {a b : V} : sem2 call bx ex d .pick [.bool false, a, b] = some (.val b) := rfl
theorem x_pick {c : Bool} {a b : V} : sem2 call bx ex d .pick [.bool c, a, b] = some (.val (if c = true then a else b)) := rfl
@[simp] theorem x_box {v : V} : sem2 call bx ex d .box [v] = if v.cells.all V.cellOk = true then some (.val (.box v.cells)) else none := rfl
@[simp] theorem x_alloc {zs : List V} : sem2 call bx ex d (.alloc zs) [] = some (.val (.box zs)) := rfl
def agE : Option (List V) → Option Eff2
  | some cs => some (.val (.agg cs))
  | none => none
@[simp] theorem agE_some {cs : List V} : agE (some cs) = some (.val (.agg cs)) := rfl
@[simp] theorem x_build {zs vs : List V} {pl : List (Nat × Nat)} : sem2 call bx ex d (.build zs pl) vs = agE (fill pl vs zs) := by
  simp only [sem2]; cases fill pl vs zs <;> rfl
@[simp] theorem fill_nil {cs : List V} : fill [] [] cs = some cs := rfl
@[simp] theorem x_load {n : Option Nat} {v : V} : sem2 call bx ex d (.load n) [v] = valO2 (loadV bx n v) := rfl
@[simp] theorem ld_ref {n : Option Nat} {s off : Nat} : loadV bx n (.ref s off) = if s < 1000000 then ldE off n (bx s) else none := by simp only [loadV]; cases bx s <;> rfl
@[simp] theorem ld_gref {n : Option Nat} {cs : List V} : loadV bx n (.gref cs) = partV cs 0 n := rfl
@[simp] theorem ld_cref {n : Option Nat} {cs : List V} : loadV bx n (.cref cs) = partV cs 0 n := rfl
@[simp] theorem ld_eref {n : Option Nat} {t m i off : Nat} {cs : List V} : loadV bx n (.eref t m i off cs) = partV cs off n := rfl
@[simp] theorem x_store {n s off : Nat} {root : Option Nat} {v : V} : sem2 call bx ex d (.store n root) [.ref s off, v] = if s < 1000000 ∧ v.cells.length = n ∧ v.cells.all V.cellOk = true ∧ (root = none ∨ root = some s) then stoE s off v.cells (bx s) else none := by
  simp only [sem2]
  split
  · cases bx s <;> rfl
  · rfl
@[simp] theorem x_bin {ty : Nat} {op : BinOp} {x y : V} : sem2 call bx ex d (.bin ty op) [x, y] = valO2 (binV2 ty op x y) := rfl
@[simp] theorem x_un {op : UnOp} {x : V} : sem2 call bx ex d (.un op) [x] = valO2 (unV op x) := rfl
def eqE (ne : Bool) : Option Bool → Option Eff2
  | some r => some (.val (.bool (ne != r)))
  | none => none
@[simp] theorem eqE_some {ne r : Bool} : eqE ne (some r) = some (.val (.bool (ne != r))) := rfl
@[simp] theorem x_eqs {ne : Bool} {sh : List (Option IntKind)} {cs ds : List V} : sem2 call bx ex d (.eqs ne sh) [.agg cs, .agg ds] = eqE ne (eqSh sh cs ds) := by
  simp only [sem2]; cases eqSh sh cs ds <;> rfl
@[simp] theorem x_conv {q k : IntKind} {n : Int} : sem2 call bx ex d (.conv k) [.int q n] = some (.val (.int k (k.wrap n))) := rfl
@[simp] theorem x_mkf {f : Nat} : sem2 call bx ex d (.mkf f) vs = some (.val (.fn (.f f) vs)) := rfl
@[simp] theorem x_mkm {f : Nat} : sem2 call bx ex d (.mkm f) vs = some (.val (.fn (.m f) vs)) := rfl
@[simp] theorem x_fa_ref {off s o : Nat} : sem2 call bx ex d (.fa off) [.ref s o] = some (.val (.ref s (o + off))) := rfl
@[simp] theorem x_fa_gref {off : Nat} {cs : List V} : sem2 call bx ex d (.fa off) [.gref cs] = some (.val (.gref (cs.drop off))) := rfl
@[simp] theorem x_fa_cref {off : Nat} {cs : List V} : sem2 call bx ex d (.fa off) [.cref cs] = some (.val (.cref (cs.drop off))) := rfl
@[simp] theorem x_fa_eref {off t n i o : Nat} {cs : List V} : sem2 call bx ex d (.fa off) [.eref t n i o cs] = some (.val (.eref t n i (o + off) cs)) := rfl
@[simp] theorem x_fld {off : Nat} {n : Option Nat} {cs : List V} : sem2 call bx ex d (.fld off n) [.agg cs] = valO2 (partV cs off n) := rfl
def ixE : Option (List V) → Option Eff2
  | some cs => some (.val (.cref cs))
  | none => none
@[simp] theorem ixE_some {cs : List V} : ixE (some cs) = some (.val (.cref cs)) := rfl
def ixF (u n i : Nat) : Option (List V) → Option Eff2
  | some cs => some (.val (.eref u n i 0 cs))
  | none => none
@[simp] theorem ixF_some {u n i : Nat} {cs : List V} : ixF u n i (some cs) = some (.val (.eref u n i 0 cs)) := rfl
@[simp] theorem x_ixs {sz : Nat} {es : List (List V)} {k : IntKind} {i : Int} (h : 0 ≤ i) : sem2 call bx ex d (.ixs sz) [.sl none sz es, .int k i] = ixE es[i.toNat]? := by
  simp only [sem2]; rw [if_pos ⟨trivial, h⟩]; cases es[i.toNat]? <;> rfl
@[simp] theorem x_ixs_own {sz u : Nat} {es : List (List V)} {k : IntKind} {i : Int} (h : 0 ≤ i) : sem2 call bx ex d (.ixs sz) [.sl (some u) sz es, .int k i] = ixF u es.length i.toNat es[i.toNat]? := by
  simp only [sem2]; rw [if_pos ⟨trivial, h⟩]; cases es[i.toNat]? <;> rfl
@[simp] theorem x_ixa_ref {len sz s o : Nat} {k : IntKind} {i : Int} (h : 0 ≤ i ∧ i < len) : sem2 call bx ex d (.ixa len sz) [.ref s o, .int k i] = some (.val (.ref s (o + i.toNat * sz))) := by simp only [sem2, if_pos h]
@[simp] theorem x_ixa_gref {len sz : Nat} {cs : List V} {k : IntKind} {i : Int} (h : 0 ≤ i ∧ i < len) : sem2 call bx ex d (.ixa len sz) [.gref cs, .int k i] = some (.val (.gref (cs.drop (i.toNat * sz)))) := by simp only [sem2, if_pos h]
@[simp] theorem x_ixa_cref {len sz : Nat} {cs : List V} {k : IntKind} {i : Int} (h : 0 ≤ i ∧ i < len) : sem2 call bx ex d (.ixa len sz) [.cref cs, .int k i] = some (.val (.cref (cs.drop (i.toNat * sz)))) := by simp only [sem2, if_pos h]
@[simp] theorem x_ixa_eref {len sz t n j o : Nat} {cs : List V} {k : IntKind} {i : Int} (h : 0 ≤ i ∧ i < len) : sem2 call bx ex d (.ixa len sz) [.eref t n j o cs, .int k i] = some (.val (.eref t n j (o + i.toNat * sz) cs)) := by simp only [sem2, if_pos h]
@[simp] theorem x_idx {len sz : Nat} {n : Option Nat} {cs : List V} {k : IntKind} {i : Int} (h : 0 ≤ i ∧ i < len) : sem2 call bx ex d (.idx len sz n) [.agg cs, .int k i] = valO2 (partV cs (i.toNat * sz) n) := by simp only [sem2, if_pos h]
@[simp] theorem x_ext {i : Nat} {cs : List V} : sem2 call bx ex d (.ext i) [.tup cs] = valO2 cs[i]? := rfl
@[simp] theorem x_len {t : Option Nat} {sz : Nat} {es : List (List V)} : sem2 call bx ex d .len [.sl t sz es] = some (.val (.int .i64 es.length)) := rfl
@[simp] theorem x_len_nil : sem2 call bx ex d .len [.nil] = some (.val (.int .i64 0)) := rfl
@[simp] theorem x_cap_nil : sem2 call bx ex d .cap [.nil] = some (.val (.int .i64 0)) := rfl
@[simp] theorem x_nilc_ref {s o : Nat} : sem2 call bx ex d .nilc [.ref s o] = some (.val (.ref s o)) := rfl
@[simp] theorem x_nilc_gref {cs : List V} : sem2 call bx ex d .nilc [.gref cs] = some (.val (.gref cs)) := rfl
@[simp] theorem x_nilc_cref {cs : List V} : sem2 call bx ex d .nilc [.cref cs] = some (.val (.cref cs)) := rfl
@[simp] theorem x_nilc_fn {f : Fk} {cs : List V} : sem2 call bx ex d .nilc [.fn f cs] = some (.val (.fn f cs)) := rfl
def mxE : Option (IntKind × List Int) → Option Eff2
  | some (k, n :: ns) => some (.val (.int k (maxL n ns)))
  | _ => none
def mnE : Option (IntKind × List Int) → Option Eff2
  | some (k, n :: ns) => some (.val (.int k (minL n ns)))
  | _ => none
@[simp] theorem mxE_some {k : IntKind} {n : Int} {ns : List Int} : mxE (some (k, n :: ns)) = some (.val (.int k (maxL n ns))) := rfl
@[simp] theorem mnE_some {k : IntKind} {n : Int} {ns : List Int} : mnE (some (k, n :: ns)) = some (.val (.int k (minL n ns))) := rfl
@[simp] theorem x_max : sem2 call bx ex d .max vs = mxE (intsOf vs) := by
  simp only [sem2]
  cases intsOf vs with
  | none => rfl
  | some p => obtain ⟨k, l⟩ := p; cases l <;> rfl
@[simp] theorem x_min : sem2 call bx ex d .min vs = mnE (intsOf vs) := by
  simp only [sem2]
  cases intsOf vs with
  | none => rfl
  | some p => obtain ⟨k, l⟩ := p; cases l <;> rfl
/-- A call's end. -/
def caR (d : Nat) (dr al mk : Bool) : Option V → Option Eff2
  | some r => if r.pureR = true then (if mk = true then (if distinctN (r.tks.map fun x => tb x.1) = true ∧ (r.tks.all fun x => decide (tb x.1 < 100)) = true ∧ d < 9999 then
        (if al = true then some (.res (r.rn d) d 1) else if r.al = true then (if dr = true then none else some (.res (r.rn d) d 2)) else some (.res (r.rn d) d 0)) else none) else
        (if r.tks.isEmpty = true ∧ r.al = false then some (.val r) else none)) else none
  | none => none
def caE (call : Nat → List V → Option V) (d : Nat) (dr al mk : Bool) (f : Nat) : Option (List V) → Option Eff2
  | some as1 => caR d dr al mk (call f as1)
  | none => none
@[simp] theorem caE_some {dr al mk : Bool} {f : Nat} {as1 : List V} : caE call d dr al mk f (some as1) = caR d dr al mk (call f as1) := rfl
theorem callE2_eq {dr al mk : Bool} {f : Nat} {vs : List V} : callE2 call bx d dr al mk f vs = caE call d dr al mk f (frzL (bxF bx 4) vs) := by
  simp only [callE2]
  cases frzL (bxF bx 4) vs with
  | none => rfl
  | some as1 => simp only [caE]; cases call f as1 <;> rfl
@[simp] theorem x_call_f {dr al mk : Bool} {f : Nat} {caps vs : List V} : sem2 call bx ex d (.call dr al mk) (.fn (.f f) caps :: vs) = caE call d dr al mk f (frzL (bxF bx 4) (vs ++ caps)) := by
  simp only [sem2]; exact callE2_eq
@[simp] theorem x_call_m {dr al mk : Bool} {f : Nat} {caps vs : List V} : sem2 call bx ex d (.call dr al mk) (.fn (.m f) caps :: vs) = caE call d dr al mk f (frzL (bxF bx 4) (caps ++ vs)) := by
  simp only [sem2]; exact callE2_eq
def yiE (ex : List Nat) (a : Nat) : Option (List V × List Nat) → Option Eff2
  | some (as1, ps) => if ps.all (fun u => !memN (tb u / 100) ex) = true ∧ (as1.all fun v => v.cells.all V.pm) = true then some (.yld a as1 ps) else none
  | none => none
@[simp] theorem yiE_some {a : Nat} {as1 : List V} {ps : List Nat} : yiE ex a (some (as1, ps)) = if ps.all (fun u => !memN (tb u / 100) ex) = true ∧ (as1.all fun v => v.cells.all V.pm) = true then some (.yld a as1 ps) else none := rfl
@[simp] theorem x_yield {al mk : Bool} {a : Nat} {vs : List V} : sem2 call bx ex d (.call false al mk) (.fn (.y a) [] :: vs) = yiE ex a (frzEL vs) := by
  simp only [sem2, Bool.false_eq_true, if_false]
  cases frzEL vs with
  | none => rfl
  | some p => obtain ⟨x, y⟩ := p; rfl
def esE (u m i off n : Nat) (cs : List V) (ex : List Nat) : Option Nat → Option (V × List Nat) → Option Eff2
  | none, some (v', []) => if rwT u = true ∧ memN (tb u / 100) ex = false ∧ v'.cells.length = n ∧ v'.cells.all V.pm = true then
      (if off + n ≤ cs.length then some (.est (tb u) m i (cs.take off ++ v'.cells ++ cs.drop (off + n))) else none) else none
  | _, _ => none
@[simp] theorem esE_some {u m i off n : Nat} {cs : List V} {v' : V} : esE u m i off n cs ex none (some (v', [])) = if rwT u = true ∧ memN (tb u / 100) ex = false ∧ v'.cells.length = n ∧ v'.cells.all V.pm = true then
      (if off + n ≤ cs.length then some (.est (tb u) m i (cs.take off ++ v'.cells ++ cs.drop (off + n))) else none) else none := rfl
def baE (n d : Nat) (ex : List Nat) (vs : List V) : Option (List (List V) × List Nat) → Option Eff2
  | some (es, ps) => if ps.all (fun u => !memN (tb u / 100) ex) = true ∧ d < 9999 then some (.mk (.sl (some (d * 100)) n es) (d * 100) (ps.map (surP (neTL vs)))) else none
  | none => none
@[simp] theorem baE_nil {n : Nat} {es : List (List V)} : baE n d ex vs (some (es, [])) = if d < 9999 then some (.mk (.sl (some (d * 100)) n es) (d * 100) []) else none := by
  by_cases h : d < 9999 <;> simp [baE, h]
@[simp] theorem baE_cons {n : Nat} {es : List (List V)} {p : Nat} {ps : List Nat} : baE n d ex vs (some (es, p :: ps)) = if (p :: ps).all (fun u => !memN (tb u / 100) ex) = true ∧ d < 9999 then some (.mk (.sl (some (d * 100)) n es) (d * 100) ((p :: ps).map (surP (neTL vs)))) else none := rfl
@[simp] theorem x_bsl {sz len : Nat} {z : List V} {ix : List Nat} : sem2 call bx ex d (.bsl sz z len ix) vs = baE sz d ex vs (fillE sz ix vs (List.replicate len z)) := by
  simp only [sem2]
  cases fillE sz ix vs (List.replicate len z) with
  | none => rfl
  | some p => obtain ⟨x, y⟩ := p; rfl
@[simp] theorem fillE_nil {sz : Nat} {es : List (List V)} : fillE sz [] [] es = some (es, []) := rfl
def slE (sz : Nat) (es : List (List V)) : Option (Nat × Nat) → Option Eff2
  | some (l, h) => some (.val (.sl none sz ((es.take h).drop l)))
  | none => none
def slF (u sz : Nat) (es : List (List V)) : Option (Nat × Nat) → Option Eff2
  | some (l, h) => some (.prot (.sl none sz ((es.take h).drop l)) [u])
  | none => none
@[simp] theorem slE_some {sz l h : Nat} {es : List (List V)} : slE sz es (some (l, h)) = some (.val (.sl none sz ((es.take h).drop l))) := rfl
@[simp] theorem slF_some {u sz l h : Nat} {es : List (List V)} : slF u sz es (some (l, h)) = some (.prot (.sl none sz ((es.take h).drop l)) [u]) := rfl
@[simp] theorem x_sls {sz : Nat} {es : List (List V)} {lo hi mx : Bool} {vs : List V} : sem2 call bx ex d (.sls sz lo hi mx) (.sl none sz es :: vs) = slE sz es (bounds es.length es.length lo hi mx vs) := by
  simp only [sem2, if_true]
  cases bounds es.length es.length lo hi mx vs with
  | none => rfl
  | some p => obtain ⟨x, y⟩ := p; rfl
@[simp] theorem x_sls_own {sz u : Nat} {es : List (List V)} {lo hi mx : Bool} {vs : List V} : sem2 call bx ex d (.sls sz lo hi mx) (.sl (some u) sz es :: vs) = if memN (tb u / 100) ex = false then slF u sz es (bounds es.length es.length lo hi mx vs) else none := by
  simp only [sem2, true_and]
  split
  · cases bounds es.length es.length lo hi mx vs with
    | none => rfl
    | some p => obtain ⟨x, y⟩ := p; rfl
  · rfl
@[simp] theorem bounds_lo {len : Nat} {k : IntKind} {i : Int} (h : 0 ≤ i ∧ i ≤ len) : bounds len len true false false [.int k i] = some (i.toNat, len) := by
  simp only [bounds, if_true, Bool.false_eq_true, if_false]
  rw [if_pos ⟨h.1, h.2, Int.le_refl _, Int.le_refl _⟩]; rfl
@[simp] theorem bounds_hi {len : Nat} {k : IntKind} {i : Int} (h : 0 ≤ i ∧ i ≤ len) : bounds len len false true false [.int k i] = some (0, i.toNat) := by
  simp only [bounds, if_true, Bool.false_eq_true, if_false]
  rw [if_pos ⟨Int.le_refl _, h.1, h.2, Int.le_refl _⟩]; rfl
@[simp] theorem bounds_lh {len : Nat} {k q : IntKind} {i j : Int} (h : 0 ≤ i ∧ i ≤ j ∧ j ≤ len) : bounds len len true true false [.int k i, .int q j] = some (i.toNat, j.toNat) := by
  simp only [bounds, if_true, Bool.false_eq_true, if_false]
  rw [if_pos ⟨h.1, h.2.1, h.2.2, Int.le_refl _⟩]
@[simp] theorem bounds_all {len : Nat} : bounds len len false false false [] = some (0, len) := by
  simp only [bounds, Bool.false_eq_true, if_false]
  rw [if_pos ⟨Int.le_refl _, by omega, Int.le_refl _, Int.le_refl _⟩]; rfl
@[simp] theorem x_mks {sz bytes : Nat} {z : List V} {k q : IntKind} {l c : Int} (h : 0 ≤ l ∧ l ≤ c ∧ c * bytes ≤ 140737488355328) : sem2 call bx ex d (.mks sz bytes z) [.int k l, .int q c] = if d < 9999 then some (.mk (.sl (some (d * 100)) sz (List.replicate l.toNat z)) (d * 100) []) else none := by
  simp only [sem2, h.1, h.2.1, h.2.2, true_and]
@[simp] theorem x_app_nil {dr : Bool} {sz bytes : Nat} {t : Option Nat} {ys : List (List V)} (h : ys.length * bytes ≤ 140737488355328) : sem2 call bx ex d (.append dr sz bytes) [.nil, .sl t sz ys] = if d < 9999 then some (if dr = true then .mk (.sl (some (2000000 + d * 100)) sz ys) (d * 100) [] else .mkg (.sl (some (2000000 + d * 100)) sz ys) d) else none := by
  simp only [sem2, elsOf, if_true, h, true_and]; split <;> (try split) <;> rfl
theorem app_eq {dr : Bool} {sz bytes u : Nat} {y : V} {xs ys : List (List V)} (hy : elsOf sz y = some ys) (h2 : (xs.length + ys.length) * bytes ≤ 140737488355328) : sem2 call bx ex d (.append dr sz bytes) [.sl (some u) sz xs, y] =
    if memN (tb u / 100) ex = false ∧ (mbT u = false ∨ tb u = d * 100) then some (if mbT u = true then (if dr = true then .app (.sl (some (unT u)) sz (xs ++ ys)) (d * 100) else .mkg (.sl (some (unT u)) sz (xs ++ ys)) d) else .app (.sl (some u) sz (xs ++ ys)) (tb u)) else none := by
  simp only [sem2, hy, true_and]
  cases hm : memN (tb u / 100) ex with
  | true => simp
  | false =>
    simp only [if_true, true_and]
    rw [if_pos h2]
    cases hb : mbT u with
    | false => simp
    | true =>
      simp only [if_true, Bool.true_eq_false, false_or]
      split <;> (try split) <;> rfl
@[simp] theorem x_mkmp : sem2 call bx ex d .mkmp [] = some (.val (.mbox [])) := rfl
def mlG (n : Int) : Option (List V) → Option Eff2
  | some cs => (match lookM cs n with
    | some .dead => none
    | some v => some (.val v)
    | none => if wellM cs = true then some (.val .nil) else none)
  | none => none
theorem x_mlook {s : Nat} {n : Int} (h : -9223372036854775808 ≤ n ∧ n ≤ 9223372036854775807) : sem2 call bx ex d .mlook [.mref s, .int .i64 n] = mlG n (bx (s + 1000000)) := by
  simp only [sem2, if_pos h]
  cases bx (s + 1000000) <;> rfl
theorem mlG_some {n : Int} {cs : List V} : mlG n (some cs) = (match lookM cs n with
    | some .dead => none
    | some v => some (.val v)
    | none => if wellM cs = true then some (.val .nil) else none) := rfl
def mpG (s : Nat) (n : Int) (v : V) : Option (List V) → Option Eff2
  | some cs => if wellM cs = true then some (.msto s (setM cs n v)) else none
  | none => none
@[simp] theorem mpG_some {s : Nat} {n : Int} {v : V} {cs : List V} : mpG s n v (some cs) = if wellM cs = true then some (.msto s (setM cs n v)) else none := rfl
theorem x_mput {s : Nat} {n : Int} {t : Option Nat} {sz : Nat} {es : List (List V)} (h : -9223372036854775808 ≤ n ∧ n ≤ 9223372036854775807) : sem2 call bx ex d .mput [.mref s, .int .i64 n, .sl t sz es] = mpG s n (.sl t sz es) (bx (s + 1000000)) := by
  simp only [sem2, if_pos h]
  cases bx (s + 1000000) <;> rfl
theorem x_appo {sz bytes u : Nat} {t : Option Nat} {xs ys : List (List V)} (h2 : (xs.length + ys.length) * bytes ≤ 140737488355328) (hne : xs ≠ []) : sem2 call bx ex d (.appo sz bytes) [.sl (some u) sz xs, .sl t sz ys] =
    if memN (tb u / 100) ex = false then some (.app (.sl (some u) sz (xs ++ ys)) (tb u)) else none := by
  simp [sem2, elsOf, h2, hne]
@[simp] theorem x_app {dr : Bool} {sz bytes u : Nat} {t : Option Nat} {xs ys : List (List V)} (h2 : (xs.length + ys.length) * bytes ≤ 140737488355328) : sem2 call bx ex d (.append dr sz bytes) [.sl (some u) sz xs, .sl t sz ys] =
    if memN (tb u / 100) ex = false ∧ (mbT u = false ∨ tb u = d * 100) then some (if mbT u = true then (if dr = true then .app (.sl (some (unT u)) sz (xs ++ ys)) (d * 100) else .mkg (.sl (some (unT u)) sz (xs ++ ys)) d) else .app (.sl (some u) sz (xs ++ ys)) (tb u)) else none :=
  app_eq (by simp only [elsOf, if_true]) h2
@[simp] theorem x_store_own {n u m i off : Nat} {root : Option Nat} {cs : List V} {v : V} : sem2 call bx ex d (.store n root) [.eref u m i off cs, v] = esE u m i off n cs ex root v.frzE := by
  simp only [sem2]
  cases root with
  | some r => rfl
  | none =>
    cases v.frzE with
    | none => rfl
    | some p =>
      obtain ⟨v', l⟩ := p
      cases l with
      | cons _ _ => rfl
      | nil =>
        simp only [esE, splice]
        split
        · rename_i h
          rw [h.2.2.1]
          by_cases hl : off + n ≤ cs.length <;> simp [hl]
        · rfl
/-! ### What is not known parts the ways -/
section
variable {P : Prop} [Decidable P]
@[simp low] theorem goG_bool (b c : Bool) : goG call dst k xs ex is σ b (some (.bool c)) = if c = true then goG call dst k xs ex is σ b (some (.bool true)) else goG call dst k xs ex is σ b (some (.bool false)) := by cases c <;> rfl
@[simp low] theorem conE_bool {a b : LCode} (c : Bool) : conE call N a b σ (some (.bool c)) = if c = true then evC2 call N a σ else evC2 call N b σ := by cases c <;> rfl
@[simp low] theorem x_pick_b {c : Bool} {a b : V} : sem2 call bx ex d .pick [.bool c, a, b] = if c = true then some (.val a) else some (.val b) := by cases c <;> rfl
@[simp] theorem goE_ite {x y : Option Eff2} : goE call dst is σ (if P then x else y) = if P then goE call dst is σ x else goE call dst is σ y := by split <;> rfl
@[simp] theorem regE_ite {kn : Nat} {kp : List Nat} {x y : Option St} : regE kn kp (if P then x else y) = if P then regE kn kp x else regE kn kp y := by split <;> rfl
@[simp] theorem seqE_ite {b : LCode} {x y : Option (Ex × St)} : seqE call N b (if P then x else y) = if P then seqE call N b x else seqE call N b y := by split <;> rfl
@[simp] theorem blkE_ite {id : Nat} {x y : Option (Ex × St)} : blkE id (if P then x else y) = if P then blkE id x else blkE id y := by split <;> rfl
@[simp] theorem endE_ite {it : Bool} {res : List RV} {x y : Option (Ex × St)} : endE it res (if P then x else y) = if P then endE it res x else endE it res y := by split <;> rfl
@[simp] theorem caR_ite {d : Nat} {dr al mk : Bool} {x y : Option V} : caR d dr al mk (if P then x else y) = if P then caR d dr al mk x else caR d dr al mk y := by split <;> rfl
end
@[simp] theorem valO2_some {v : V} : valO2 (some v) = some (.val v) := rfl
@[simp] theorem dst_getD {n m : Nat} : (some n).getD m = n := rfl
def opV (s : Nat) : Option V → Option V
  | some (.box _) => some (.ref s 0)
  | some (.mbox _) => some (.mref s)
  | some .dead => none
  | r => r
@[simp] theorem opd_c {fr : List (Nat × V)} {v : V} : opd fr (.c v) = some v := rfl
@[simp] theorem opd_f {fr : List (Nat × V)} {n : Nat} : opd fr (.f n) = some (.fn (.f n) []) := rfl
@[simp] theorem opd_t {fr : List (Nat × V)} {s : Nat} : opd fr (.t s) = opV s (get fr s) := by
  simp only [opd]
  cases get fr s with
  | none => rfl
  | some v => cases v <;> rfl
@[simp] theorem opV_mbox {s : Nat} {cs : List V} : opV s (some (.mbox cs)) = some (.mref s) := rfl
@[simp] theorem opV_mref {s t : Nat} : opV s (some (.mref t)) = some (.mref t) := rfl
@[simp] theorem opV_box {s : Nat} {cs : List V} : opV s (some (.box cs)) = some (.ref s 0) := rfl
@[simp] theorem opV_int {s : Nat} {k : IntKind} {n : Int} : opV s (some (.int k n)) = some (.int k n) := rfl
@[simp] theorem opV_bool {s : Nat} {b : Bool} : opV s (some (.bool b)) = some (.bool b) := rfl
@[simp] theorem opV_agg {s : Nat} {cs : List V} : opV s (some (.agg cs)) = some (.agg cs) := rfl
@[simp] theorem opV_tup {s : Nat} {cs : List V} : opV s (some (.tup cs)) = some (.tup cs) := rfl
@[simp] theorem opV_nil {s : Nat} : opV s (some .nil) = some .nil := rfl
@[simp] theorem opV_und {s : Nat} : opV s (some .und) = some .und := rfl
@[simp] theorem opV_sl {s : Nat} {t : Option Nat} {sz : Nat} {es : List (List V)} : opV s (some (.sl t sz es)) = some (.sl t sz es) := rfl
@[simp] theorem opV_fn {s : Nat} {f : Fk} {cs : List V} : opV s (some (.fn f cs)) = some (.fn f cs) := rfl
@[simp] theorem opV_ref {s a b : Nat} : opV s (some (.ref a b)) = some (.ref a b) := rfl
@[simp] theorem opV_gref {s : Nat} {cs : List V} : opV s (some (.gref cs)) = some (.gref cs) := rfl
@[simp] theorem opV_np {s : Nat} : opV s (some .np) = some .np := rfl
@[simp] theorem opV_cref {s : Nat} {cs : List V} : opV s (some (.cref cs)) = some (.cref cs) := rfl
@[simp] theorem opV_eref {s t n i o : Nat} {cs : List V} : opV s (some (.eref t n i o cs)) = some (.eref t n i o cs) := rfl
def opsC (v : Option V) (vs : Option (List V)) : Option (List V) := match v, vs with
  | some v, some vs => some (v :: vs)
  | _, _ => none
@[simp] theorem opsC_some {v : V} {vs : List V} : opsC (some v) (some vs) = some (v :: vs) := rfl
@[simp] theorem opds_nil {fr : List (Nat × V)} : opds fr [] = some [] := rfl
@[simp] theorem opds_cons {fr : List (Nat × V)} {x : Opd} {xs : List Opd} : opds fr (x :: xs) = opsC (opd fr x) (opds fr xs) := by
  simp only [opds, opsC]
  cases opd fr x <;> cases opds fr xs <;> rfl
@[simp] theorem frzL_nil {rd : Nat → Option (List V)} : frzL rd [] = some [] := rfl
@[simp] theorem frzL_cons {rd : Nat → Option (List V)} {v : V} {vs : List V} : frzL rd (v :: vs) = opsC (v.frz rd) (frzL rd vs) := by
  simp only [frzL, opsC]
  cases v.frz rd <;> cases frzL rd vs <;> rfl
def bxV : Option V → Option (List V)
  | some (.box cs) => some cs
  | _ => none
@[simp] theorem bxV_some {cs : List V} : bxV (some (.box cs)) = some cs := rfl
def mbV : Option V → Option (List V)
  | some (.mbox cs) => some cs
  | _ => none
@[simp] theorem mbV_some {cs : List V} : mbV (some (.mbox cs)) = some cs := rfl
@[simp] theorem bxOf_eq {fr : List (Nat × V)} {ex : List Nat} {s : Nat} : bxOf fr ex s = if s < 1000000 then (if memN s ex = true then none else bxV (get fr s)) else (if memN (s - 1000000) ex = true then none else mbV (get fr (s - 1000000))) := by
  unfold bxOf
  split
  · split
    · rfl
    · cases get fr s with
      | none => rfl
      | some v => cases v <;> rfl
  · split
    · rfl
    · cases get fr (s - 1000000) with
      | none => rfl
      | some v => cases v <;> rfl
def bxG (bx : Nat → Option (List V)) (n : Nat) : Option (List V) → Option (List V)
  | some cs => frzL (bxF bx n) cs
  | none => none
@[simp] theorem bxG_some {n : Nat} {cs : List V} : bxG bx n (some cs) = frzL (bxF bx n) cs := rfl
@[simp] theorem bxF_succ {n s : Nat} : bxF bx (n + 1) s = if s < 1000000 then bxG bx n (bx s) else none := by
  simp only [bxF]; cases bx s <;> rfl
end
@[simp] theorem flatE_ints (xs : List Int) : flatE (xs.map fun x => [V.int .i64 x]) = true := by simp [flatE, V.flat]
@[simp] theorem flatE_nil : flatE [] = true := rfl
section
variable {f : Nat → Nat} {u : Nat} {e : List V} {es : List (List V)}
@[simp] theorem keepN_nil : keepN f u [] = if mbT u = true then u else f u := rfl
@[simp] theorem keepN_cons : keepN f u (e :: es) = f u := by simp [keepN]
@[simp] theorem keepN_nn (h : mbT u = false) : keepN f u es = f u := by simp [keepN, h]
@[simp] theorem keepN_same (h : f u = u) : keepN f u es = u := by
  unfold keepN
  split
  · cases es <;> simp [h]
  · exact h
@[simp] theorem mod_keepN_ro : keepN roT u es % 1000000 = u % 1000000 := tb_keepN tb_roT u es
@[simp] theorem mod_keepN_ru : keepN ruT u es % 1000000 = u % 1000000 := tb_keepN tb_ruT u es
@[simp] theorem mod_keepN_roU {ps : List Nat} : keepN (roU ps) u es % 1000000 = u % 1000000 := tb_keepN (tb_roU ps) u es
@[simp high] theorem tb_keepN_ro : tb (keepN roT u es) = tb u := tb_keepN tb_roT u es
@[simp high] theorem tb_keepN_ru : tb (keepN ruT u es) = tb u := tb_keepN tb_ruT u es
@[simp high] theorem tb_keepN_roU {ps : List Nat} : tb (keepN (roU ps) u es) = tb u := tb_keepN (tb_roU ps) u es
@[simp high] theorem mb_keepN_ro : mbT (keepN roT u es) = mbT u := mb_keepN mb_roT u es
@[simp high] theorem mb_keepN_ru : mbT (keepN ruT u es) = mbT u := mb_keepN mb_ruT u es
@[simp high] theorem mb_keepN_roU {ps : List Nat} : mbT (keepN (roU ps) u es) = mbT u := mb_keepN (mb_roU ps) u es
end
attribute [simp] List.getElem?_cons_zero List.getElem?_cons_succ
attribute [simp] params deadL liveL prep2 prepG prS surP neTL V.neT killT killG roF roA ruA roU exB estT mpF V.mp mpL get put putO partV binV2 binV binI binS unV nilCmp apply2 keepL dropL memN V.frz frzEL V.frzE V.pureR pureRL V.tks tksL V.al alL V.rn rnL distinctN fill splice fillE V.cells V.cellOk V.pm eqSh intsOf maxL minL ranged finish2 result2 givL V.giv givC givB V.plainR plainRL apartT bxOf rvs finL2 V.fin2 one goesOn tb rwT mbT roX roT ruT unT roundE_eq putA itemsOf itemsL tupsL caR
end Go.Lo

/- Arguments that read as data, for the plain machine. -/
namespace Go.Lo
def i64r (n : Int) : Prop := -9223372036854775808 ≤ n ∧ n ≤ 9223372036854775807
theorem wf_i64r {n : Int} (h : (Lit.int .i64 n).wf = true) : i64r n := by
  simp [Lit.wf, IntKind.min, IntKind.max, IntKind.bits, IntKind.signed] at h
  unfold i64r
  omega
theorem relL_ints (k : IntKind) : ∀ xs : List Int, RelL (xs.map fun x => .int k x) noT (xs.map fun x => .int k x)
  | [] => RelL.nil
  | x :: xs => by rw [List.map_cons]; exact RelL.cons (by simp only [Rel]) (relL_ints k xs)
theorem relE_eI1 : ∀ xs : List Int, RelE (eI xs) (eI xs)
  | [] => by simp [RelE]
  | x :: xs => by
    have := relE_eI1 xs
    simp only [List.map_cons] at this ⊢
    exact RelE.cons (RelL.one (by simp only [Rel])) this
theorem can_ints {v : V} (h : HasC (.sl (.int .i64)) [v]) : ∃ xs : List Int, Rel (S 1 (eI xs)) noT v ∧ ∀ x ∈ xs, i64r x := by
  simp only [HasC] at h
  rcases h with h | ⟨es, h, _, he⟩
  · injection h with h _
    subst h
    exact ⟨[], by rw [Rel]; left; exact ⟨rfl, rfl⟩, fun x hx => by cases hx⟩
  · injection h with h _
    subst h
    have key : ∀ es : List (List V), (∀ x ∈ es, ∃ n, x = [V.int .i64 n] ∧ (Lit.int .i64 n).wf = true) → ∃ xs : List Int, es = eI xs ∧ ∀ x ∈ xs, i64r x := by
      intro es
      induction es with
      | nil => exact fun _ => ⟨[], rfl, fun x hx => by cases hx⟩
      | cons e es ih =>
        intro h
        obtain ⟨n, h1, h2⟩ := h e (by simp)
        obtain ⟨xs, g1, g2⟩ := ih fun x hx => h x (by simp [hx])
        subst h1
        refine ⟨n :: xs, by simp [g1], fun x hx => ?_⟩
        rcases List.mem_cons.1 hx with rfl | hx
        · exact wf_i64r h2
        · exact g2 x hx
    obtain ⟨xs, rfl, hx⟩ := key es he
    exact ⟨xs, by rw [Rel]; right; exact ⟨_, rfl, relE_eI1 xs⟩, hx⟩
theorem can_rows {v : V} (h : HasC (.sl (.sl (.int .i64))) [v]) : ∃ rs : List (List Int), Rel (S 1 (rs.map fun r => [S 1 (eI r)])) noT v ∧ ∀ r ∈ rs, ∀ x ∈ r, i64r x := by
  rw [HasC] at h
  rcases h with h | ⟨es, h, _, he⟩
  · injection h with h _
    subst h
    exact ⟨[], by rw [Rel]; left; exact ⟨rfl, rfl⟩, fun x hx => by cases hx⟩
  · injection h with h _
    subst h
    have key : ∀ es : List (List V), (∀ x ∈ es, HasC (.sl (.int .i64)) x) → ∃ rs : List (List Int), RelE (rs.map fun r => [S 1 (eI r)]) es ∧ ∀ r ∈ rs, ∀ x ∈ r, i64r x := by
      intro es
      induction es with
      | nil => exact fun _ => ⟨[], by simp [RelE], fun x hx => by cases hx⟩
      | cons e es ih =>
        intro h
        have h1 := h e (by simp)
        obtain ⟨v, rfl⟩ : ∃ v, e = [v] := by
          simp only [HasC] at h1
          rcases h1 with h1 | ⟨_, h1, _⟩ <;> exact ⟨_, h1⟩
        obtain ⟨xs, hx, hb⟩ := can_ints h1
        obtain ⟨rs, g1, g2⟩ := ih fun x hx => h x (by simp [hx])
        refine ⟨xs :: rs, by rw [List.map_cons]; exact RelE.cons (RelL.one hx) g1, fun r hr => ?_⟩
        rcases List.mem_cons.1 hr with rfl | hr
        · exact hb
        · exact g2 r hr
    obtain ⟨rs, hr, hb⟩ := key es he
    exact ⟨rs, by rw [Rel]; right; exact ⟨_, rfl, hr⟩, hb⟩
theorem can_arr {k : IntKind} {n : Nat} {v : V} (h : HasV (.arr n (.int k)) v) : ∃ xs : List Int, xs.length = n ∧ v = .agg (xs.map fun x => .int k x) ∧ ∀ x ∈ xs, (Lit.int k x).wf = true := by
  simp only [HasV, HasC] at h
  obtain ⟨cs, rfl, es, rfl, rfl, he⟩ := h
  have key : ∀ es : List (List V), (∀ x ∈ es, ∃ n, x = [V.int k n] ∧ (Lit.int k n).wf = true) → ∃ xs : List Int, xs.length = es.length ∧ es.flatten = xs.map (fun x => .int k x) ∧ ∀ x ∈ xs, (Lit.int k x).wf = true := by
    intro es
    induction es with
    | nil => exact fun _ => ⟨[], rfl, rfl, fun x hx => by cases hx⟩
    | cons e es ih =>
      intro h
      obtain ⟨n, h1, h2⟩ := h e (by simp)
      obtain ⟨xs, g1, g2, g3⟩ := ih fun x hx => h x (by simp [hx])
      subst h1
      refine ⟨n :: xs, by simp [g1], by simp [g2], fun x hx => ?_⟩
      rcases List.mem_cons.1 hx with rfl | hx
      · exact h2
      · exact g3 x hx
  obtain ⟨xs, g1, g2, g3⟩ := key es he
  exact ⟨xs, g1, by rw [g2], g3⟩
theorem can_int {k : IntKind} {v : V} (h : HasV (.int k) v) : ∃ n, v = .int k n ∧ (Lit.int k n).wf = true := by
  simp only [HasV, HasC] at h
  obtain ⟨n, h, w⟩ := h
  injection h with h _
  exact ⟨n, h, w⟩
theorem can_bool {v : V} (h : HasV .bool v) : ∃ b, v = .bool b := by
  simp only [HasV, HasC] at h
  obtain ⟨n, h⟩ := h
  injection h with h _
  exact ⟨n, h⟩
theorem HasCs.inv {t : Ty} {ts : List Ty} {cs : List V} (h : HasCs (t :: ts) cs) : ∃ a b, cs = a ++ b ∧ HasC t a ∧ HasCs ts b := by rw [HasCs] at h; exact h
theorem HasC.sl1 {t : Ty} {x : List V} (hx : HasC (.sl t) x) : ∃ v, x = [v] := by
  rw [HasC] at hx
  rcases hx with hx | ⟨_, hx, _⟩ <;> exact ⟨_, hx⟩
end Go.Lo

/- More arguments that read as data. -/
namespace Go.Lo
theorem wf_u8 {n : Int} (h : (Lit.int .u8 n).wf = true) : 0 ≤ n ∧ n ≤ 255 := by
  simp [Lit.wf, IntKind.min, IntKind.max, IntKind.bits, IntKind.signed] at h; omega
theorem wf_u16 {n : Int} (h : (Lit.int .u16 n).wf = true) : 0 ≤ n ∧ n ≤ 65535 := by
  simp [Lit.wf, IntKind.min, IntKind.max, IntKind.bits, IntKind.signed] at h; omega
theorem wf_i8 {n : Int} (h : (Lit.int .i8 n).wf = true) : -128 ≤ n ∧ n ≤ 127 := by
  simp [Lit.wf, IntKind.min, IntKind.max, IntKind.bits, IntKind.signed] at h; omega
theorem wf_i16 {n : Int} (h : (Lit.int .i16 n).wf = true) : -32768 ≤ n ∧ n ≤ 32767 := by
  simp [Lit.wf, IntKind.min, IntKind.max, IntKind.bits, IntKind.signed] at h; omega
/-- A slice whose elements are told by things of a type, each of which stands for its cells. -/
theorem can_sl {α : Type} {t : Ty} {E : α → List V} {Q : α → Prop} {v : V} (h : HasC (.sl t) [v]) (he : ∀ x, HasC t x → ∃ a, RelL (E a) noT x ∧ Q a) : ∃ l : List α, Rel (S t.cells (l.map E)) noT v ∧ ∀ a ∈ l, Q a := by
  rw [HasC] at h
  rcases h with h | ⟨es, h, _, hes⟩
  · injection h with h _
    subst h
    exact ⟨[], by rw [Rel]; left; exact ⟨rfl, rfl⟩, fun x hx => by cases hx⟩
  · injection h with h _
    subst h
    have key : ∀ es : List (List V), (∀ x ∈ es, HasC t x) → ∃ l : List α, RelE (l.map E) es ∧ ∀ a ∈ l, Q a := by
      intro es
      induction es with
      | nil => exact fun _ => ⟨[], by simp [RelE], fun x hx => by cases hx⟩
      | cons e es ih =>
        intro h
        obtain ⟨a, h1, h2⟩ := he e (h e (by simp))
        obtain ⟨l, g1, g2⟩ := ih fun x hx => h x (by simp [hx])
        refine ⟨a :: l, by rw [List.map_cons]; exact RelE.cons h1 g1, fun x hx => ?_⟩
        rcases List.mem_cons.1 hx with rfl | hx
        · exact h2
        · exact g2 x hx
    obtain ⟨l, hr, hb⟩ := key es hes
    exact ⟨l, by rw [Rel]; right; exact ⟨_, rfl, hr⟩, hb⟩
theorem can_intsK {k : IntKind} {v : V} (h : HasC (.sl (.int k)) [v]) : ∃ xs : List Int, Rel (S 1 (xs.map fun x => [V.int k x])) noT v ∧ ∀ x ∈ xs, (Lit.int k x).wf = true :=
  can_sl (E := fun x => [V.int k x]) (Q := fun x => (Lit.int k x).wf = true) h fun x hx => by
    simp only [HasC] at hx
    obtain ⟨n, rfl, hn⟩ := hx
    exact ⟨n, RelL.one (by simp only [Rel]), hn⟩
theorem can_arrs {k : IntKind} {n : Nat} {v : V} (h : HasC (.sl (.arr n (.int k))) [v]) : ∃ rs : List (List Int), Rel (S n (rs.map fun r => r.map fun x => V.int k x)) noT v ∧ ∀ r ∈ rs, r.length = n ∧ ∀ x ∈ r, (Lit.int k x).wf = true := by
  have := can_sl (E := fun r : List Int => r.map fun x => V.int k x) (Q := fun r => r.length = n ∧ ∀ x ∈ r, (Lit.int k x).wf = true) h fun x hx => by
    obtain ⟨xs, h1, h2, h3⟩ := can_arr (k := k) (n := n) (v := .agg x) (by simp only [HasV]; exact ⟨x, rfl, hx⟩)
    injection h2 with h2
    exact ⟨xs, by rw [h2]; exact relL_ints k xs, h1, h3⟩
  rwa [show (Ty.arr n (.int k)).cells = n from by simp [Ty.cells]] at this
theorem rel_aggK (k : IntKind) (xs : List Int) : Rel (.agg (xs.map fun x => .int k x)) noT (.agg (xs.map fun x => .int k x)) := by
  rw [Rel]
  exact ⟨_, rfl, relL_ints k xs⟩
theorem rel_int (k : IntKind) (n : Int) : Rel (.int k n) noT (.int k n) := by rw [Rel]
theorem rel_bool (b : Bool) : Rel (.bool b) noT (.bool b) := by rw [Rel]
end Go.Lo

/- What an event is: on the plain machine with nothing told, and so on the first machine. -/
namespace Go.Lo.G0
open Go.Lo Go.Proofs
set_option linter.unusedSimpArgs false
def F0 : Nat → Option (List V → Option V) := fun _ => none
noncomputable abbrev R : Nat → List V → Option V := run2 F0 C2
abbrev I (n : Int) : V := .int .i64 n
abbrev B (b : Bool) : V := .bool b
abbrev S (n : Nat) (es : List (List V)) : V := .sl none n es
abbrev eI (xs : List Int) : List (List V) := xs.map fun x => [I x]
/-! ### The first of a list for which a function says so -/
theorem p92 {α : Type} {E : α → List V} {W : α → V} {g : Nat} {caps : List V} {pr : α → Bool} (hc : ∀ rd, frzL rd caps = some caps) {xs : List α} (hE : ∀ x ∈ xs, partV (E x) 0 none = some (W x) ∧ (∀ rd, (W x).frz rd = some (W x)) ∧ ∀ s, opV s (some (W x)) = some (W x)) (hp : ∀ x ∈ xs, R g (W x :: caps) = some (B (pr x))) (hl : xs.length < 4611686018427387904) :
    R 92 [S 1 (xs.map E), .fn (.f g) caps] = some (I (match xs.findIdx? pr with | none => -1 | some k => k)) := by
  have L := loop_find (s := fun i => { fr := [(0, S 1 (xs.map E)), (1, .fn (.f g) caps), (7, I xs.length), (8, I i)], tk := [] }) (f := evC2 R (xs.length + 1) b92_0) (n := xs.length) (g := prAt pr xs) (E := fun i => (.ret, { fr := [(4, I i)], tk := [] })) (X := (.exit 0, { fr := [(0, S 1 (xs.map E)), (1, .fn (.f g) caps), (7, I xs.length), (8, I xs.length), (9, B false)], tk := [] }))
    (fun i hi => by
      have h1 : xs[i]? = some xs[i] := List.getElem?_eq_getElem hi
      have hm : xs[i] ∈ xs := List.getElem_mem hi
      have hp' := hp _ hm
      obtain ⟨h2, h3, h4⟩ := hE _ hm
      have hlt : (i : Int) < xs.length := by omega
      clear hp hE
      generalize xs[i] = x at *
      rw [prAt_some h1]
      generalize hw : W x = w at *
      cases hx : pr x <;> rw [hx] at hp' <;> simp (maxSteps := 2000000) (disch := first | omega | (simp; done) | (simp; omega)) [-getElem?_pos, -partV, b92_0, h1, h2, h3, h4, hc, hp', hlt, wrap64]) (fun _ => by simp) (by simp [b92_0]) (by simp) xs.length 0 (by omega)
  rw [find_idx] at L
  refine run2_body (xs.length + 1) rfl rfl rfl rfl rfl ?_
  cases hf : xs.findIdx? pr with
  | none =>
    rw [hf] at L
    simp at L
    simp [l92, L]
  | some k =>
    rw [hf] at L
    simp at L
    simp [l92, L]
theorem p67 {α : Type} {E : α → List V} {W : α → V} {g : Nat} {caps : List V} {pr : α → Bool} (hc : ∀ rd, frzL rd caps = some caps) {xs : List α} (hE : ∀ x ∈ xs, partV (E x) 0 none = some (W x) ∧ (∀ rd, (W x).frz rd = some (W x)) ∧ ∀ s, opV s (some (W x)) = some (W x)) (hp : ∀ x ∈ xs, R g (W x :: caps) = some (B (pr x))) (hl : xs.length < 4611686018427387904) :
    R 67 [S 1 (xs.map E), .fn (.f g) caps] = some (B (xs.any pr)) := by
  have h := p92 hc hE hp hl
  refine run2_body 1 rfl rfl rfl rfl rfl ?_
  cases hf : xs.findIdx? pr with
  | none =>
    rw [hf] at h
    have : xs.any pr = false := by
      rw [List.findIdx?_eq_none_iff] at hf
      rw [List.any_eq_false]; simpa using hf
    simp [l67, h, hc, this]
  | some k =>
    rw [hf] at h
    have : xs.any pr = true := by
      have := List.findIdx?_isSome (xs := xs) (p := pr)
      rw [hf] at this
      exact this.symm
    simp (maxSteps := 2000000) (disch := first | omega | (simp; done) | (simp; omega)) [l67, h, hc, this]

theorem p85 (x lo hi : Int) : R 85 [I x, .cref [I lo], .cref [I hi]] = some (B (decide (x < lo) || decide (x > hi))) := by
  refine run2_body 1 rfl rfl rfl rfl rfl ?_
  by_cases h : x < lo <;> simp [l85, h]
theorem p50 (lo hi : Int) {xs : List Int} (hl : xs.length < 4611686018427387904) : R 50 [I lo, I hi, S 1 (eI xs)] = some (B (xs.all fun x => decide (lo ≤ x ∧ x ≤ hi))) := by
  have h := p67 (g := 85) (caps := [.cref [I lo], .cref [I hi]]) (pr := fun x => decide (x < lo) || decide (x > hi)) (E := fun x => [I x]) (W := fun x => I x) (xs := xs) (fun _ => rfl) (fun _ _ => ⟨rfl, fun _ => rfl, fun _ => rfl⟩) (fun x _ => p85 x lo hi) hl
  refine run2_body 1 rfl rfl rfl rfl rfl ?_
  have e : (xs.all fun x => decide (lo ≤ x ∧ x ≤ hi)) = !(xs.any fun x => decide (x < lo) || decide (x > hi)) := by
    rw [List.not_any_eq_all_not]
    congr 1
    funext x
    by_cases h1 : x < lo <;> by_cases h2 : x > hi <;> simp [h1, h2] <;> omega
  rw [e]
  simp [l50, h]

/-- What an event is: 0 no event, 1 pieces, 2 it goes, 3 it does not. -/
def kindE (p m : Int) (g : Bool) : Int := if m = -1 ∧ (1 ≤ p ∧ p ≤ 100000) ∧ g = false then 1 else if m = -1 ∨ p ≠ 0 then 0 else if g = true then 2 else 3
theorem p57 (p m : Int) (g : Bool) : R 57 [.agg [I p, I m, B g]] = some (I (kindE p m g)) := by
  have h := p50 1 100000 (xs := [p]) (by simp)
  simp only [eI, List.map_cons, List.map_nil, List.all_cons, List.all_nil, Bool.and_true] at h
  refine run2_body 1 rfl rfl rfl rfl rfl ?_
  unfold kindE
  by_cases h3 : p = 0
  · subst h3
    have h0 : ¬ (1 ≤ (0 : Int) ∧ (0 : Int) ≤ 100000) := by omega
    rw [decide_eq_false h0] at h
    by_cases h1 : m = -1 <;> cases g <;> simp [l57, h, h1]
  · by_cases h1 : m = -1 <;> by_cases h2 : 1 ≤ p ∧ p ≤ 100000 <;> cases g <;> simp [l57, h, h1, h2, h3]
theorem tab0 : TabR F0 G1.F1 C2 Ct where
  told := fun f g2 as2 r2 as9 h => by cases h
  code := fun f lf _ h => by
    obtain ⟨h1, h2, h3⟩ := tabC f lf h
    refine ⟨?_, h1, h2, h3⟩
    unfold G1.F1
    split
    · cases h
    · rfl
end Go.Lo.G0
namespace Go.Lo.G1
open Go.Lo Go.Proofs
theorem kindOf1 (p m : Int) (g : Bool) : R1 57 [.agg [I p, I m, B g]] = some (I (G0.kindE p m g)) := by
  obtain ⟨r, h1, h2⟩ := run2_sim G0.tab0 (G0.p57 p m g) (as9 := [.agg [I p, I m, B g]]) (RelL.one (by simp [Rel, RelL]))
  refine h1.trans ?_
  obtain ⟨ρ, h3⟩ := h2.ex
  rw [Rel] at h3
  rw [h3]
end Go.Lo.G1

/- The rules of a gauge and of events, on the first machine, as a whole. -/
namespace Go.Lo.G1
open Go.Lo Go.Proofs
set_option linter.unusedSimpArgs false
set_option maxHeartbeats 8000000
set_option maxRecDepth 20000
/-- A span as it is for a plug. -/
def tn (ring : Bool) (s : Int × Int) : Int × Int := if ring = true then (-s.2, -s.1) else s
/-- The rules of the masters. -/
def msT (ring : Bool) : List (Int × Int) → Nat → List (Int × Int × Int)
  | [], _ => []
  | s :: r, i => ((i : Int) + 1, 0, (tn ring s).2) :: (0, (i : Int) + 1, -(tn ring s).1) :: msT ring r (i + 1)
def wornE (w : Int × Int) (p : Int) : Int × Int := ((w.1 * p).tdiv 1000, (w.2 * p + 1000 - 1).tdiv 1000)
/-- An event is added. -/
def addE (w : Int × Int) (s : List (Int × Int × Int) × Int) (x : Int × Int × Bool) : List (Int × Int × Int) × Int :=
  if G0.kindE x.1 x.2.1 x.2.2 = 1 then (s.1 ++ [(s.2, s.2 + 1, (wornE w x.1).2), (s.2 + 1, s.2, -(wornE w x.1).1)], s.2 + 1)
  else if G0.kindE x.1 x.2.1 x.2.2 = 2 then (s.1 ++ [(s.2, x.2.1 + 1, 0)], s.2)
  else (s.1 ++ [(x.2.1 + 1, s.2, -1)], s.2)
def newT (ring : Bool) (n w : Int × Int) (ms : List (Int × Int)) (es : List (Int × Int × Bool)) : List (Int × Int × Int) × Int :=
  es.foldl (addE w) (msT ring ms 0 ++ [((ms.length : Int) + 1, 0, (tn ring n).2), (0, (ms.length : Int) + 1, -(tn ring n).1)], (ms.length : Int) + 1)
def small (x : Int) : Prop := -1000000000000 ≤ x ∧ x ≤ 1000000000000
instance (x : Int) : Decidable (small x) := by unfold small; infer_instance
def evOkE (x : Int × Int × Bool) : Prop := G0.kindE x.1 x.2.1 x.2.2 ≠ 0 ∧ small x.2.1
instance (x : Int × Int × Bool) : Decidable (evOkE x) := by unfold evOkE; infer_instance
/-- Rules and events that are told. -/
structure GOk (n w : Int × Int) (ms : List (Int × Int)) (es : List (Int × Int × Bool)) : Prop where
  n : small n.1 ∧ small n.2
  w : small w.1 ∧ small w.2
  ml : ms.length ≤ 1000
  el : es.length ≤ 1000
  m : ∀ s ∈ ms, small s.1 ∧ small s.2
  e : ∀ x ∈ es, evOkE x
theorem msT_append {ring : Bool} : ∀ {a b : List (Int × Int)} {i : Nat}, msT ring (a ++ b) i = msT ring a i ++ msT ring b (i + a.length)
  | [], _, _ => rfl
  | s :: a, b, i => by
    rw [List.cons_append, msT, msT_append]
    simp only [msT, List.cons_append, List.length_cons]
    rw [show i + 1 + a.length = i + (a.length + 1) by omega]
theorem msT_len {ring : Bool} : ∀ {a : List (Int × Int)} {i : Nat}, (msT ring a i).length = 2 * a.length
  | [], _ => rfl
  | s :: a, i => by simp only [msT, List.length_cons, msT_len]; omega
theorem take_succ_of {α : Type} {l : List α} {i : Nat} {x : α} (h : l[i]? = some x) : l.take (i + 1) = l.take i ++ [x] := by
  rw [List.take_add_one, h]; rfl
theorem wr1 {a : Int} (h : -9223372036854775808 ≤ a ∧ a ≤ 9223372036854775807) : IntKind.i64.wrap a = a := by
  simp [IntKind.wrap, IntKind.bits, IntKind.signed]; omega
theorem tn_small {ring : Bool} {s : Int × Int} (h : small s.1 ∧ small s.2) : small (tn ring s).1 ∧ small (tn ring s).2 := by
  unfold small tn at *
  cases ring <;> simp <;> omega
theorem turned2 {ring : Bool} {n1 n2 w1 w2 now : Int} {mv lv : V} {s : Int × Int} (h : small s.1 ∧ small s.2) :
    R1 60 [.cref [B ring, I n1, I n2, I w1, I w2, mv, lv, I now], .agg [I s.1, I s.2]] = some (.agg [I (tn ring s).1, I (tn ring s).2]) := by
  unfold small at h
  rw [turned1 (wr1 (by omega)) (wr1 (by omega))]
  cases ring <;> rfl
theorem wr_mul {a p : Int} (h : small a) (hp : 1 ≤ p ∧ p ≤ 100000) : -100000000000000000 ≤ a * p ∧ a * p ≤ 100000000000000000 := by
  unfold small at h
  constructor
  · have h1 : a * p ≥ -1000000000000 * p := Int.mul_le_mul_of_nonneg_right h.1 (by omega)
    omega
  · have h1 : a * p ≤ 1000000000000 * p := Int.mul_le_mul_of_nonneg_right h.2 (by omega)
    omega
theorem tdiv_bdE {x : Int} (h : -100000000000001000 ≤ x ∧ x ≤ 100000000000001000) : -100000000000001000 ≤ x.tdiv 1000 ∧ x.tdiv 1000 ≤ 100000000000001000 := by
  rcases Int.le_total 0 x with h0 | h0
  · rw [Int.tdiv_eq_ediv_of_nonneg h0]; omega
  · have h1 : x = -(-x) := by omega
    rw [h1, Int.neg_tdiv, Int.tdiv_eq_ediv_of_nonneg (by omega)]; omega
theorem worn2 {w : Int × Int} {p : Int} (h : small w.1 ∧ small w.2) (hp : 1 ≤ p ∧ p ≤ 100000) : R1 51 [.agg [I w.1, I w.2], I p] = some (.agg [I (wornE w p).1, I (wornE w p).2]) ∧ IntKind.i64.wrap (-(wornE w p).1) = -(wornE w p).1 := by
  have h1 := wr_mul h.1 hp
  have h2 := wr_mul h.2 hp
  have h3 := tdiv_bdE (x := w.1 * p) (by omega)
  have h4 := tdiv_bdE (x := w.2 * p + 1000 - 1) (by omega)
  refine ⟨worn1 (wr1 (by omega)) (wr1 (by omega)) (wr1 (by omega)) (wr1 (by omega)) (wr1 (by omega)) (wr1 (by omega)), wr1 ?_⟩
  unfold wornE
  omega
theorem add1 {ring : Bool} {n1 n2 now : Int} {w : Int × Int} {mv : V} {T : List (Int × Int × Int)} {x : Int × Int × Bool} (hm : mvOk mv) (hw : small w.1 ∧ small w.2) (hx : evOkE x) (hl : T.length ≤ 1000000) (hn : 0 ≤ now ∧ now ≤ 1000000) :
    R1 61 [.box (bx ring n1 n2 w.1 w.2 mv (T.map rl) now), .agg [I x.1, I x.2.1, B x.2.2]] = some (.tup [.box (bx ring n1 n2 w.1 w.2 mv ((addE w (T, now) x).1.map rl) (addE w (T, now) x).2), .tup []]) := by
  obtain ⟨p, m, g⟩ := x
  have hk := kindOf1 p m g
  obtain ⟨h0, hs⟩ := hx
  unfold small at hs
  simp only at h0 hs ⊢
  have hl' : (T.map rl).length ≤ 1000000 := by rw [List.length_map]; exact hl
  have e1 : R1 58 [I m] = some (I (m + 1)) := master1 (wr1 (by omega))
  unfold addE
  simp only
  by_cases h1 : G0.kindE p m g = 1
  · rw [h1] at hk
    rw [if_pos h1]
    have hp : 1 ≤ p ∧ p ≤ 100000 := by
      unfold G0.kindE at h1
      split at h1
      · rename_i h; exact h.2.1
      · split at h1
        · cases h1
        · split at h1 <;> cases h1
    obtain ⟨a1, a2⟩ := worn2 hw hp
    simp only [List.map_append]
    exact add_batch hm hk a1 a2 (wr1 (by omega)) (wr1 (by omega)) hl'
  · rw [if_neg h1]
    by_cases h2 : G0.kindE p m g = 2
    · rw [h2] at hk
      rw [if_pos h2]
      simp only [List.map_append]
      exact add_went hm hk e1 hl'
    · have h3 : G0.kindE p m g = 3 := by
        unfold G0.kindE at h0 h1 h2 ⊢
        split
        · rename_i h; rw [if_pos h] at h1; cases h1 rfl
        · rename_i h; rw [if_neg h] at h0 h1 h2
          split
          · rename_i k; rw [if_pos k] at h0; cases h0 rfl
          · rename_i k; rw [if_neg k] at h0 h1 h2
            split
            · rename_i j; rw [if_pos j] at h2; cases h2 rfl
            · rfl
      rw [h3] at hk
      rw [if_neg h2]
      simp only [List.map_append]
      exact add_stuck hm hk e1 hl'
end Go.Lo.G1

/- newRules, on the first machine. -/
namespace Go.Lo.G1
open Go.Lo Go.Proofs
set_option linter.unusedSimpArgs false
set_option maxHeartbeats 8000000
set_option maxRecDepth 20000
theorem rg0 {N : Nat} {call : Nat → List V → Option V} {σ : St} {X : Option (Ex × St)} (h : evC call 1 (unC g32_0) σ = X) : evC call N (unC g32_0) σ = X := h
theorem rg1 {N : Nat} {call : Nat → List V → Option V} {σ : St} {X : Option (Ex × St)} (h : evC call 1 (unC g32_1) σ = X) : evC call N (unC g32_1) σ = X := h
theorem rg2 {N : Nat} {call : Nat → List V → Option V} {σ : St} {X : Option (Ex × St)} (h : evC call 1 (unC g32_2) σ = X) : evC call N (unC g32_2) σ = X := h
theorem rg3 {N : Nat} {call : Nat → List V → Option V} {σ : St} {X : Option (Ex × St)} (h : evC call 1 (unC g32_3) σ = X) : evC call N (unC g32_3) σ = X := h
theorem rg4 {N : Nat} {call : Nat → List V → Option V} {σ : St} {X : Option (Ex × St)} (h : evC call 1 (unC g32_4) σ = X) : evC call N (unC g32_4) σ = X := h
theorem rg5 {N : Nat} {call : Nat → List V → Option V} {σ : St} {X : Option (Ex × St)} (h : evC call 1 (unC g32_5) σ = X) : evC call N (unC g32_5) σ = X := h
theorem rg6 {N : Nat} {call : Nat → List V → Option V} {σ : St} {X : Option (Ex × St)} (h : evC call 1 (unC g32_6) σ = X) : evC call N (unC g32_6) σ = X := h
theorem rg7 {N : Nat} {call : Nat → List V → Option V} {σ : St} {X : Option (Ex × St)} (h : evC call 1 (unC g32_7) σ = X) : evC call N (unC g32_7) σ = X := h
theorem rg8 {N : Nat} {call : Nat → List V → Option V} {σ : St} {X : Option (Ex × St)} (h : evC call 1 (unC g32_8) σ = X) : evC call N (unC g32_8) σ = X := h
theorem rg9 {N : Nat} {call : Nat → List V → Option V} {σ : St} {X : Option (Ex × St)} (h : evC call 1 (unC g32_9) σ = X) : evC call N (unC g32_9) σ = X := h
theorem rg10 {N : Nat} {call : Nat → List V → Option V} {σ : St} {X : Option (Ex × St)} (h : evC call 1 (unC g32_10) σ = X) : evC call N (unC g32_10) σ = X := h
theorem rg11 {N : Nat} {call : Nat → List V → Option V} {σ : St} {X : Option (Ex × St)} (h : evC call 1 (unC g32_11) σ = X) : evC call N (unC g32_11) σ = X := h
theorem rg12 {N : Nat} {call : Nat → List V → Option V} {σ : St} {X : Option (Ex × St)} (h : evC call 1 (unC g32_12) σ = X) : evC call N (unC g32_12) σ = X := h
theorem rg13 {N : Nat} {call : Nat → List V → Option V} {σ : St} {X : Option (Ex × St)} (h : evC call 1 (unC g32_13) σ = X) : evC call N (unC g32_13) σ = X := h
theorem seqE1 {call : Nat → List V → Option V} {N : Nat} {a b : LCode} {σ σ1 : St} (h : evC call N a σ = some (.normal, σ1)) : evC call N (.seq a b) σ = evC call N b σ1 := by
  rw [evC, h]
theorem blockE1 {call : Nat → List V → Option V} {N j : Nat} {a : LCode} {σ σ1 : St} (h : evC call N a σ = some (.normal, σ1)) : evC call N (.block j a) σ = some (.normal, σ1) := by
  rw [evC, h]
theorem res_new {ring : Bool} {n1 n2 w1 w2 now : Int} {mv : V} {L : List (List V)} (hm : mvOk mv) (hL : L ≠ []) (hp : L.all (fun cs => cs.all V.pm) = true) :
    result [.t 4] { fr := [(4, .ref 16 0), (16, .box (nb ring n1 n2 w1 w2 mv L now))], tk := tkL 1601 L, tr := none } = some (.gref [B ring, I n1, I n2, I w1, I w2, mv, .sl none 3 L, I now]) := by
  cases L with
  | nil => exact absurd rfl hL
  | cons x L =>
    rcases hm with rfl | ⟨es, rfl⟩ <;> simp (maxSteps := 200000) [result, rvs, givL, V.giv, givB, bxOf, get, memN, opd, frzEL, nb, lsV, tkL, protT, finL, V.fin, one, V.frzE, V.pm]
section
variable {ring : Bool} {n w : Int × Int} {ms : List (Int × Int)} {es : List (Int × Int × Bool)} {mv ev : V}
theorem ms_step {N i : Nat} {now : Int} {T : List (Int × Int × Int)} {s : Int × Int} (he : evOk ev) (hi : ms[i]? = some s) (hs : small s.1 ∧ small s.2) (hml : ms.length ≤ 1000) (hT : T.length ≤ 1000000) :
    evC R1 N (unC b32_0) (sM ring n.1 n.2 w.1 w.2 now (.sl none 2 (ms.map fun s => [I s.1, I s.2])) ev ms.length (T.map rl) i []) =
      some (.normal, sM ring n.1 n.2 w.1 w.2 now (.sl none 2 (ms.map fun s => [I s.1, I s.2])) ev ms.length ((T ++ [((i : Int) + 1, 0, (tn ring s).2), (0, (i : Int) + 1, -(tn ring s).1)]).map rl) (i + 1) []) := by
  have hlt : i < ms.length := (List.getElem?_eq_some_iff.1 hi).1
  have ht := tn_small (ring := ring) hs
  unfold small at ht
  have f3 := n_g3 (call := R1) (ring := ring) (n1 := n.1) (n2 := n.2) (w1 := w.1) (w2 := w.2) (now := now) (mv := .sl none 2 (ms.map fun s => [I s.1, I s.2])) (ev := ev) (L := T.map rl) (n := ms.length) (i := i)
  rw [decide_eq_true (show (i : Int) < ms.length by omega)] at f3
  have f4 := n_g4 (call := R1) (ring := ring) (n1 := n.1) (n2 := n.2) (w1 := w.1) (w2 := w.2) (now := now) (L := T.map rl) (n := ms.length) (i := i) (es := ms.map fun s => [I s.1, I s.2]) (a := s.1) (b := s.2) he (by rw [List.getElem?_map, hi]; rfl) (by rw [List.length_map]; omega)
  have f5 := n_g5 (call := R1) (ring := ring) (n1 := n.1) (n2 := n.2) (w1 := w.1) (w2 := w.2) (now := now) (ev := ev) (L := T.map rl) (n := ms.length) (i := i) (es := ms.map fun s => [I s.1, I s.2]) (a := s.1) (b := s.2) (lo := (tn ring s).1) (hi := (tn ring s).2) he (master1 (wr1 (by omega))) (fun lv => turned2 hs)
    (between1 (.inr ⟨_, rfl⟩) (wr1 (by omega)) (by rw [List.length_map]; exact hT))
  have f6 := n_g6 (call := R1) (ring := ring) (n1 := n.1) (n2 := n.2) (w1 := w.1) (w2 := w.2) (now := now) (mv := .sl none 2 (ms.map fun s => [I s.1, I s.2])) (ev := ev) (L := T.map rl ++ [rl ((i : Int) + 1, 0, (tn ring s).2), rl (0, (i : Int) + 1, -(tn ring s).1)]) (n := ms.length) (i := i) (wr1 (by omega))
  rw [List.map_append]
  simp only [List.map_cons, List.map_nil, b32_0, unC, unO]
  rw [seqE1 (rg3 (N := N) f3)]
  have hc : evC R1 N (.cond (.t 21) .skip (.exit 0)) (sM ring n.1 n.2 w.1 w.2 now (.sl none 2 (ms.map fun s => [I s.1, I s.2])) ev ms.length (T.map rl) i [(21, B true)]) = some (.normal, sM ring n.1 n.2 w.1 w.2 now (.sl none 2 (ms.map fun s => [I s.1, I s.2])) ev ms.length (T.map rl) i [(21, B true)]) := rfl
  have h5 := rg5 (N := N) f5
  rw [seqE1 hc, seqE1 (blockE1 ((seqE1 (rg4 (N := N) f4)).trans h5))]
  exact rg6 (N := N) f6
theorem ms_stop {N : Nat} {now : Int} {T : List (Int × Int × Int)} :
    evC R1 N (unC b32_0) (sM ring n.1 n.2 w.1 w.2 now mv ev ms.length (T.map rl) ms.length []) = some (.exit 0, sM ring n.1 n.2 w.1 w.2 now mv ev ms.length (T.map rl) ms.length [(21, B false)]) := by
  have f3 := n_g3 (call := R1) (ring := ring) (n1 := n.1) (n2 := n.2) (w1 := w.1) (w2 := w.2) (now := now) (mv := mv) (ev := ev) (L := T.map rl) (n := ms.length) (i := ms.length)
  rw [decide_eq_false (show ¬ (ms.length : Int) < ms.length by omega)] at f3
  simp only [b32_0, unC, unO]
  rw [seqE1 (rg3 (N := N) f3)]
  rfl
theorem ev_step {N i : Nat} {now : Int} {T : List (Int × Int × Int)} {x : Int × Int × Bool} (hm : mvOk mv) (hi : es[i]? = some x) (hx : evOkE x) (hw : small w.1 ∧ small w.2) (hel : es.length ≤ 1000) (hT : T.length ≤ 1000000) (hn : 0 ≤ now ∧ now ≤ 1000000) :
    evC R1 N (unC b32_1) (sV ring n.1 n.2 w.1 w.2 now mv (.sl none 3 (es.map fun x => [I x.1, I x.2.1, B x.2.2])) es.length (T.map rl) i []) =
      some (.normal, sV ring n.1 n.2 w.1 w.2 (addE w (T, now) x).2 mv (.sl none 3 (es.map fun x => [I x.1, I x.2.1, B x.2.2])) es.length ((addE w (T, now) x).1.map rl) (i + 1) []) := by
  have hlt : i < es.length := (List.getElem?_eq_some_iff.1 hi).1
  have f9 := n_g9 (call := R1) (ring := ring) (n1 := n.1) (n2 := n.2) (w1 := w.1) (w2 := w.2) (now := now) (mv := mv) (ev := .sl none 3 (es.map fun x => [I x.1, I x.2.1, B x.2.2])) (L := T.map rl) (n := es.length) (i := i)
  rw [decide_eq_true (show (i : Int) < es.length by omega)] at f9
  have f10 := n_g10 (call := R1) (ring := ring) (n1 := n.1) (n2 := n.2) (w1 := w.1) (w2 := w.2) (now := now) (L := T.map rl) (n := es.length) (i := i) (es := es.map fun x => [I x.1, I x.2.1, B x.2.2]) (a := x.1) (b := x.2.1) (g := x.2.2) hm (by rw [List.getElem?_map, hi]; rfl) (by rw [List.length_map]; omega)
  have f11 := n_g11 (call := R1) (n := es.length) (i := i) (es := es.map fun x => [I x.1, I x.2.1, B x.2.2]) hm (add1 (ring := ring) (n1 := n.1) (n2 := n.2) hm hw hx hT hn)
  have f12 := n_g12 (call := R1) (ring := ring) (n1 := n.1) (n2 := n.2) (w1 := w.1) (w2 := w.2) (now := (addE w (T, now) x).2) (mv := mv) (ev := .sl none 3 (es.map fun x => [I x.1, I x.2.1, B x.2.2])) (L := (addE w (T, now) x).1.map rl) (n := es.length) (i := i) (wr1 (by omega))
  simp only [b32_1, unC, unO]
  have hc : evC R1 N (.cond (.t 46) .skip (.exit 2)) (sV ring n.1 n.2 w.1 w.2 now mv (.sl none 3 (es.map fun x => [I x.1, I x.2.1, B x.2.2])) es.length (T.map rl) i [(46, B true)]) = some (.normal, sV ring n.1 n.2 w.1 w.2 now mv (.sl none 3 (es.map fun x => [I x.1, I x.2.1, B x.2.2])) es.length (T.map rl) i [(46, B true)]) := rfl
  have h11 := rg11 (N := N) f11
  rw [seqE1 (rg9 (N := N) f9), seqE1 hc, seqE1 (blockE1 ((seqE1 (rg10 (N := N) f10)).trans h11))]
  exact rg12 (N := N) f12
theorem ev_stop {N : Nat} {now : Int} {T : List (Int × Int × Int)} :
    evC R1 N (unC b32_1) (sV ring n.1 n.2 w.1 w.2 now mv ev es.length (T.map rl) es.length []) = some (.exit 2, sV ring n.1 n.2 w.1 w.2 now mv ev es.length (T.map rl) es.length [(46, B false)]) := by
  have f3 := n_g9 (call := R1) (ring := ring) (n1 := n.1) (n2 := n.2) (w1 := w.1) (w2 := w.2) (now := now) (mv := mv) (ev := ev) (L := T.map rl) (n := es.length) (i := es.length)
  rw [decide_eq_false (show ¬ (es.length : Int) < es.length by omega)] at f3
  simp only [b32_1, unC, unO]
  rw [seqE1 (rg9 (N := N) f3)]
  rfl
theorem addE_bd {w : Int × Int} {s : List (Int × Int × Int) × Int} {x : Int × Int × Bool} : (addE w s x).1.length ≤ s.1.length + 2 ∧ s.2 ≤ (addE w s x).2 ∧ (addE w s x).2 ≤ s.2 + 1 ∧ s.1.length ≤ (addE w s x).1.length := by
  unfold addE
  split
  · simp; omega
  · split <;> simp <;> omega
theorem fold_bd {w : Int × Int} : ∀ (l : List (Int × Int × Bool)) (s : List (Int × Int × Int) × Int), (l.foldl (addE w) s).1.length ≤ s.1.length + 2 * l.length ∧ s.2 ≤ (l.foldl (addE w) s).2 ∧ (l.foldl (addE w) s).2 ≤ s.2 + l.length ∧ s.1.length ≤ (l.foldl (addE w) s).1.length
  | [], s => by simp
  | x :: l, s => by
    rw [List.foldl_cons]
    have h1 := addE_bd (w := w) (s := s) (x := x)
    have h2 := fold_bd (w := w) l (addE w s x)
    simp only [List.length_cons]
    omega
theorem newT_take {x : Int × Int × Bool} {i : Nat} (hi : es[i]? = some x) : newT ring n w ms (es.take (i + 1)) = addE w (newT ring n w ms (es.take i)) x := by
  unfold newT
  rw [take_succ_of hi, List.foldl_append]
  rfl
theorem newT_bd : (newT ring n w ms es).1.length ≤ 2 * ms.length + 2 + 2 * es.length ∧ (ms.length : Int) + 1 ≤ (newT ring n w ms es).2 ∧ (newT ring n w ms es).2 ≤ (ms.length : Int) + 1 + es.length ∧ 2 ≤ (newT ring n w ms es).1.length := by
  have h := fold_bd (w := w) es (msT ring ms 0 ++ [((ms.length : Int) + 1, 0, (tn ring n).2), (0, (ms.length : Int) + 1, -(tn ring n).1)], (ms.length : Int) + 1)
  simp only [List.length_append, msT_len, List.length_cons, List.length_nil] at h
  unfold newT
  omega
theorem ms_loop {N : Nat} {now : Int} (hN : ms.length + 1 ≤ N) (he : evOk ev) (hs : ∀ s ∈ ms, small s.1 ∧ small s.2) (hml : ms.length ≤ 1000) (hm : mv = .nil ∧ ms = [] ∨ mv = .sl none 2 (ms.map fun s => [I s.1, I s.2])) :
    iter (evC R1 N (unC b32_0)) N (sM ring n.1 n.2 w.1 w.2 now mv ev ms.length [] 0 []) = some (.exit 0, sM ring n.1 n.2 w.1 w.2 now mv ev ms.length ((msT ring ms 0).map rl) ms.length [(21, B false)]) := by
  have h := loop_all (f := evC R1 N (unC b32_0)) (s := fun i => sM ring n.1 n.2 w.1 w.2 now mv ev ms.length ((msT ring (ms.take i) 0).map rl) i []) (n := ms.length) (X := (.exit 0, sM ring n.1 n.2 w.1 w.2 now mv ev ms.length ((msT ring ms 0).map rl) ms.length [(21, B false)]))
    (fun i hi => by
      have h1 : ms[i]? = some ms[i] := List.getElem?_eq_getElem hi
      have h2 := hs _ (List.getElem_mem hi)
      generalize ms[i] = s at h1 h2
      have hm2 : mv = .sl none 2 (ms.map fun s => [I s.1, I s.2]) := by
        rcases hm with ⟨_, h⟩ | h
        · rw [h] at hi; cases hi
        · exact h
      subst hm2
      have hl : (ms.take i).length = i := by rw [List.length_take]; omega
      have := ms_step (ring := ring) (n := n) (w := w) (N := N) (now := now) (T := msT ring (ms.take i) 0) he h1 h2 hml (by rw [msT_len, hl]; omega)
      rw [this, take_succ_of h1, msT_append, hl]
      simp only [msT, Nat.zero_add])
    (by rw [List.take_length]; exact ms_stop) (by simp)
  exact iter_le (fun _ _ h => h) hN h
theorem ev_loop {N : Nat} (hN : es.length + 1 ≤ N) (hmv : mvOk mv) (hx : ∀ x ∈ es, evOkE x) (hw : small w.1 ∧ small w.2) (hml : ms.length ≤ 1000) (hel : es.length ≤ 1000) (he : ev = .nil ∧ es = [] ∨ ev = .sl none 3 (es.map fun x => [I x.1, I x.2.1, B x.2.2])) :
    iter (evC R1 N (unC b32_1)) N (sV ring n.1 n.2 w.1 w.2 ((ms.length : Int) + 1) mv ev es.length ((msT ring ms 0 ++ [((ms.length : Int) + 1, 0, (tn ring n).2), (0, (ms.length : Int) + 1, -(tn ring n).1)]).map rl) 0 []) =
      some (.exit 2, sV ring n.1 n.2 w.1 w.2 (newT ring n w ms es).2 mv ev es.length ((newT ring n w ms es).1.map rl) es.length [(46, B false)]) := by
  have h := loop_all (f := evC R1 N (unC b32_1)) (s := fun i => sV ring n.1 n.2 w.1 w.2 (newT ring n w ms (es.take i)).2 mv ev es.length ((newT ring n w ms (es.take i)).1.map rl) i []) (n := es.length) (X := (.exit 2, sV ring n.1 n.2 w.1 w.2 (newT ring n w ms es).2 mv ev es.length ((newT ring n w ms es).1.map rl) es.length [(46, B false)]))
    (fun i hi => by
      have h1 : es[i]? = some es[i] := List.getElem?_eq_getElem hi
      have h2 := hx _ (List.getElem_mem hi)
      generalize es[i] = x at h1 h2
      have hm2 : ev = .sl none 3 (es.map fun x => [I x.1, I x.2.1, B x.2.2]) := by
        rcases he with ⟨_, h⟩ | h
        · rw [h] at hi; cases hi
        · exact h
      subst hm2
      have hl : (es.take i).length = i := by rw [List.length_take]; omega
      have hb := newT_bd (ring := ring) (n := n) (w := w) (ms := ms) (es := es.take i)
      rw [hl] at hb
      have := ev_step (ring := ring) (n := n) (N := N) (now := (newT ring n w ms (es.take i)).2) (T := (newT ring n w ms (es.take i)).1) hmv h1 h2 hw hel (by omega) (by omega)
      rw [this, newT_take h1])
    (by rw [List.take_length]; exact ev_stop) (by simp)
  exact iter_le (fun _ _ h => h) hN h
theorem loopE1 {call : Nat → List V → Option V} {N j : Nat} {a : LCode} {σ σ1 : St} (h : iter (evC call N a) N σ = some (.exit j, σ1)) : evC call N (.block j (.loop a)) σ = some (.normal, σ1) := by
  rw [evC, evC, h]
  simp
theorem seqE2 {call : Nat → List V → Option V} {N : Nat} {a b : LCode} {σ σ1 σ2 : St} (h : evC call N a σ = some (.normal, σ1)) (k : evC call N b σ1 = some (.normal, σ2)) : evC call N (.seq a b) σ = some (.normal, σ2) := (seqE1 h).trans k
/-- newRules. -/
theorem new1 (ok : GOk n w ms es) (hm : mv = .nil ∧ ms = [] ∨ mv = .sl none 2 (ms.map fun s => [I s.1, I s.2])) (he : ev = .nil ∧ es = [] ∨ ev = .sl none 3 (es.map fun x => [I x.1, I x.2.1, B x.2.2])) :
    R1 32 [.agg [B ring, I n.1, I n.2, I w.1, I w.2, mv], ev] = some (.gref [B ring, I n.1, I n.2, I w.1, I w.2, mv, .sl none 3 ((newT ring n w ms es).1.map rl), I (newT ring n w ms es).2]) := by
  have hmv : mvOk mv := hm.elim (fun h => .inl h.1) (fun h => .inr ⟨_, h⟩)
  have hev : evOk ev := he.elim (fun h => .inl h.1) (fun h => .inr ⟨_, h⟩)
  have hml : mv = .nil ∧ ms.length = 0 ∨ ∃ es, mv = .sl none 2 es ∧ es.length = ms.length := by
    rcases hm with ⟨h, k⟩ | h
    · exact .inl ⟨h, by rw [k]; rfl⟩
    · exact .inr ⟨_, h, by rw [List.length_map]⟩
  have hel : ev = .nil ∧ es.length = 0 ∨ ∃ l, ev = .sl none 3 l ∧ l.length = es.length := by
    rcases he with ⟨h, k⟩ | h
    · exact .inl ⟨h, by rw [k]; rfl⟩
    · exact .inr ⟨_, h, by rw [List.length_map]⟩
  obtain ⟨o1, o2, o3, o4, o5, o6⟩ := ok
  have ht := tn_small (ring := ring) o1
  unfold small at ht
  have f7 := n_g7 (call := R1) (ring := ring) (n1 := n.1) (n2 := n.2) (w1 := w.1) (w2 := w.2) (now := (ms.length : Int) + 1) (L := (msT ring ms 0).map rl) (n := ms.length) (i := ms.length) (lo := (tn ring n).1) (hi := (tn ring n).2) hmv hev (fun lv => turned2 o1)
    (between1 hmv (wr1 (by omega)) (by rw [List.length_map, msT_len]; omega))
  rw [show (msT ring ms 0).map rl ++ [rl ((ms.length : Int) + 1, 0, (tn ring n).2), rl (0, (ms.length : Int) + 1, -(tn ring n).1)] = (msT ring ms 0 ++ [((ms.length : Int) + 1, 0, (tn ring n).2), (0, (ms.length : Int) + 1, -(tn ring n).1)]).map rl by simp only [List.map_append, List.map_cons, List.map_nil]] at f7
  have hN1 : ms.length + 1 ≤ ms.length + es.length + 1 := by omega
  have hN2 : es.length + 1 ≤ ms.length + es.length + 1 := by omega
  generalize hN : ms.length + es.length + 1 = N at hN1 hN2
  have f0 := rg0 (N := N) (n_g0 (call := R1) (ring := ring) (n1 := n.1) (n2 := n.2) (w1 := w.1) (w2 := w.2) (ev := ev) hmv)
  have f1 := rg1 (N := N) (n_g1 (call := R1) (ring := ring) (n1 := n.1) (n2 := n.2) (w1 := w.1) (w2 := w.2) (ev := ev) hml (master1 (wr1 (by omega))))
  have f2 := rg2 (N := N) (n_g2 (call := R1) (ring := ring) (n1 := n.1) (n2 := n.2) (w1 := w.1) (w2 := w.2) (now := (ms.length : Int) + 1) (ev := ev) hml)
  have l1 := loopE1 (ms_loop (ring := ring) (n := n) (w := w) (now := (ms.length : Int) + 1) hN1 hev o5 o3 hm)
  have f7 := rg7 (N := N) f7
  have f8 := rg8 (N := N) (n_g8 (call := R1) (ring := ring) (n1 := n.1) (n2 := n.2) (w1 := w.1) (w2 := w.2) (now := (ms.length : Int) + 1) (mv := mv) (L := (msT ring ms 0 ++ [((ms.length : Int) + 1, 0, (tn ring n).2), (0, (ms.length : Int) + 1, -(tn ring n).1)]).map rl) hel)
  have l2 := loopE1 (ev_loop (ring := ring) (n := n) (w := w) (ms := ms) hN2 hmv o6 o2 o3 o4 he)
  have f13 := rg13 (N := N) (n_g13 (call := R1) (ring := ring) (n1 := n.1) (n2 := n.2) (w1 := w.1) (w2 := w.2) (now := (newT ring n w ms es).2) (mv := mv) (ev := ev) (L := (newT ring n w ms es).1.map rl) (n := es.length) (i := es.length))
  have hne : (newT ring n w ms es).1.map rl ≠ [] := by
    intro h
    have := congrArg List.length h
    have hb := newT_bd (ring := ring) (n := n) (w := w) (ms := ms) (es := es)
    rw [List.length_map] at this
    simp at this
    rw [this] at hb
    simp at hb
  have hr := res_new (ring := ring) (n1 := n.1) (n2 := n.2) (w1 := w.1) (w2 := w.2) (now := (newT ring n w ms es).2) hmv hne (by simp [List.all_map, V.pm])
  refine run_of_body (N := N) rfl rfl ?_
  have hrg : ranged [V.agg [B ring, I n.1, I n.2, I w.1, I w.2, mv], ev] = false := by
    rcases hev with rfl | ⟨_, rfl⟩ <;> rfl
  have hb : evC R1 N (unF l32).body { fr := [(0, .agg [B ring, I n.1, I n.2, I w.1, I w.2, mv]), (1, ev)], tk := [], tr := none } = some (.ret, { fr := [(4, .ref 16 0), (16, .box (nb ring n.1 n.2 w.1 w.2 mv ((newT ring n w ms es).1.map rl) (newT ring n w ms es).2))], tk := tkL 1601 ((newT ring n w ms es).1.map rl), tr := none }) := by
    simp only [l32, unF, unC]
    exact (seqE1 f0).trans ((seqE1 f1).trans ((seqE1 (seqE2 f2 l1)).trans ((seqE1 f7).trans ((seqE1 (seqE2 f8 l2)).trans ((seqE1 f13).trans rfl)))))
  unfold evBody
  rw [hrg, if_pos ⟨rfl, fun _ => rfl⟩]
  have hb' : evC (run F1 Ct) N (unF l32).body { fr := params 0 [V.agg [B ring, I n.1, I n.2, I w.1, I w.2, mv], ev] ++ deadL (unF l32).sl, tk := ioTk [V.agg [B ring, I n.1, I n.2, I w.1, I w.2, mv], ev], tr := if false = true then some [] else none } = _ := hb
  rw [hb']
  simp only [evEnd, ioArg, finish, hrg, Bool.false_eq_true, if_false]
  exact hr
end
end Go.Lo.G1
