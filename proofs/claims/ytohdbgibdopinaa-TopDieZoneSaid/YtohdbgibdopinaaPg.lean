/- Texts put together. -/
import Derived.Test.YtohdbgibdopinaaPf
import Derived.Test.YtohdbgibdopinaaProg
import Derived.KernelRfl
/- The functions that are reached, compiled for the plain machine. -/
namespace Go.Lo
open Go.Proofs
def C2 : Nat → Option LFun
  | 3 => some l3
  | 6 => some l6
  | 7 => some l7
  | 8 => some l8
  | 9 => some l9
  | 10 => some l10
  | 11 => some l11
  | 12 => some l12
  | 13 => some l13
  | 14 => some l14
  | 20 => some l20
  | 21 => some l21
  | 22 => some l22
  | 23 => some l23
  | 24 => some l24
  | 25 => some l25
  | 26 => some l26
  | 27 => some l27
  | 28 => some l28
  | 29 => some l29
  | 30 => some l30
  | 31 => some l31
  | 32 => some l32
  | 33 => some l33
  | 34 => some l34
  | 35 => some l35
  | 36 => some l36
  | 38 => some l38
  | 39 => some l39
  | 40 => some l40
  | 41 => some l41
  | 44 => some l44
  | 45 => some l45
  | 46 => some l46
  | 47 => some l47
  | 48 => some l48
  | 49 => some l49
  | 50 => some l50
  | 51 => some l51
  | 52 => some l52
  | 53 => some l53
  | 54 => some l54
  | 55 => some l55
  | 56 => some l56
  | 57 => some l57
  | 58 => some l58
  | 59 => some l59
  | 60 => some l60
  | 61 => some l61
  | 62 => some l62
  | 63 => some l63
  | 64 => some l64
  | 65 => some l65
  | 66 => some l66
  | 67 => some l67
  | 68 => some l68
  | 69 => some l69
  | 70 => some l70
  | 71 => some l71
  | 72 => some l72
  | 73 => some l73
  | 74 => some l74
  | 75 => some l75
  | 76 => some l76
  | 77 => some l77
  | 78 => some l78
  | 79 => some l79
  | 80 => some l80
  | 81 => some l81
  | 82 => some l82
  | 83 => some l83
  | 84 => some l84
  | 85 => some l85
  | 86 => some l86
  | 87 => some l87
  | 88 => some l88
  | 89 => some l89
  | 90 => some l90
  | 91 => some l91
  | 92 => some l92
  | 93 => some l93
  | 94 => some l94
  | 95 => some l95
  | 96 => some l96
  | 97 => some l97
  | 98 => some l98
  | 99 => some l99
  | 100 => some l100
  | 101 => some l101
  | 102 => some l102
  | 103 => some l103
  | 104 => some l104
  | 105 => some l105
  | _ => none
def Ct : Nat → Option LFun := fun k => (C2 k).map unF
def Ft : Nat → Option (List V → Option V) := fun _ => none
theorem tabOk : TabOk Try.prog Ft Ct where
  mixed := by kernel_rfl
  told _ _ _ _ h := by cases h
  code f lf h := by
    unfold Ct at h
    obtain ⟨l, hl, rfl⟩ := Option.map_eq_some_iff.1 h
    unfold C2 at hl
    split at hl
    · injection hl with hl; subst hl; exact ⟨_, _, Try.func3, of_decide_eq_true (by kernel_rfl), c3⟩
    · injection hl with hl; subst hl; exact ⟨_, _, Try.func6, of_decide_eq_true (by kernel_rfl), c6⟩
    · injection hl with hl; subst hl; exact ⟨_, _, Try.func7, of_decide_eq_true (by kernel_rfl), c7⟩
    · injection hl with hl; subst hl; exact ⟨_, _, Try.func8, of_decide_eq_true (by kernel_rfl), c8⟩
    · injection hl with hl; subst hl; exact ⟨_, _, Try.func9, of_decide_eq_true (by kernel_rfl), c9⟩
    · injection hl with hl; subst hl; exact ⟨_, _, Try.func10, of_decide_eq_true (by kernel_rfl), c10⟩
    · injection hl with hl; subst hl; exact ⟨_, _, Try.func11, of_decide_eq_true (by kernel_rfl), c11⟩
    · injection hl with hl; subst hl; exact ⟨_, _, Try.func12, of_decide_eq_true (by kernel_rfl), c12⟩
    · injection hl with hl; subst hl; exact ⟨_, _, Try.func13, of_decide_eq_true (by kernel_rfl), c13⟩
    · injection hl with hl; subst hl; exact ⟨_, _, Try.func14, of_decide_eq_true (by kernel_rfl), c14⟩
    · injection hl with hl; subst hl; exact ⟨_, _, Try.func20, of_decide_eq_true (by kernel_rfl), c20⟩
    · injection hl with hl; subst hl; exact ⟨_, _, Try.func21, of_decide_eq_true (by kernel_rfl), c21⟩
    · injection hl with hl; subst hl; exact ⟨_, _, Try.func22, of_decide_eq_true (by kernel_rfl), c22⟩
    · injection hl with hl; subst hl; exact ⟨_, _, Try.func23, of_decide_eq_true (by kernel_rfl), c23⟩
    · injection hl with hl; subst hl; exact ⟨_, _, Try.func24, of_decide_eq_true (by kernel_rfl), c24⟩
    · injection hl with hl; subst hl; exact ⟨_, _, Try.func25, of_decide_eq_true (by kernel_rfl), c25⟩
    · injection hl with hl; subst hl; exact ⟨_, _, Try.func26, of_decide_eq_true (by kernel_rfl), c26⟩
    · injection hl with hl; subst hl; exact ⟨_, _, Try.func27, of_decide_eq_true (by kernel_rfl), c27⟩
    · injection hl with hl; subst hl; exact ⟨_, _, Try.func28, of_decide_eq_true (by kernel_rfl), c28⟩
    · injection hl with hl; subst hl; exact ⟨_, _, Try.func29, of_decide_eq_true (by kernel_rfl), c29⟩
    · injection hl with hl; subst hl; exact ⟨_, _, Try.func30, of_decide_eq_true (by kernel_rfl), c30⟩
    · injection hl with hl; subst hl; exact ⟨_, _, Try.func31, of_decide_eq_true (by kernel_rfl), c31⟩
    · injection hl with hl; subst hl; exact ⟨_, _, Try.func32, of_decide_eq_true (by kernel_rfl), c32⟩
    · injection hl with hl; subst hl; exact ⟨_, _, Try.func33, of_decide_eq_true (by kernel_rfl), c33⟩
    · injection hl with hl; subst hl; exact ⟨_, _, Try.func34, of_decide_eq_true (by kernel_rfl), c34⟩
    · injection hl with hl; subst hl; exact ⟨_, _, Try.func35, of_decide_eq_true (by kernel_rfl), c35⟩
    · injection hl with hl; subst hl; exact ⟨_, _, Try.func36, of_decide_eq_true (by kernel_rfl), c36⟩
    · injection hl with hl; subst hl; exact ⟨_, _, Try.func38, of_decide_eq_true (by kernel_rfl), c38⟩
    · injection hl with hl; subst hl; exact ⟨_, _, Try.func39, of_decide_eq_true (by kernel_rfl), c39⟩
    · injection hl with hl; subst hl; exact ⟨_, _, Try.func40, of_decide_eq_true (by kernel_rfl), c40⟩
    · injection hl with hl; subst hl; exact ⟨_, _, Try.func41, of_decide_eq_true (by kernel_rfl), c41⟩
    · injection hl with hl; subst hl; exact ⟨_, _, Try.func44, of_decide_eq_true (by kernel_rfl), c44⟩
    · injection hl with hl; subst hl; exact ⟨_, _, Try.func45, of_decide_eq_true (by kernel_rfl), c45⟩
    · injection hl with hl; subst hl; exact ⟨_, _, Try.func46, of_decide_eq_true (by kernel_rfl), c46⟩
    · injection hl with hl; subst hl; exact ⟨_, _, Try.func47, of_decide_eq_true (by kernel_rfl), c47⟩
    · injection hl with hl; subst hl; exact ⟨_, _, Try.func48, of_decide_eq_true (by kernel_rfl), c48⟩
    · injection hl with hl; subst hl; exact ⟨_, _, Try.func49, of_decide_eq_true (by kernel_rfl), c49⟩
    · injection hl with hl; subst hl; exact ⟨_, _, Try.func50, of_decide_eq_true (by kernel_rfl), c50⟩
    · injection hl with hl; subst hl; exact ⟨_, _, Try.func51, of_decide_eq_true (by kernel_rfl), c51⟩
    · injection hl with hl; subst hl; exact ⟨_, _, Try.func52, of_decide_eq_true (by kernel_rfl), c52⟩
    · injection hl with hl; subst hl; exact ⟨_, _, Try.func53, of_decide_eq_true (by kernel_rfl), c53⟩
    · injection hl with hl; subst hl; exact ⟨_, _, Try.func54, of_decide_eq_true (by kernel_rfl), c54⟩
    · injection hl with hl; subst hl; exact ⟨_, _, Try.func55, of_decide_eq_true (by kernel_rfl), c55⟩
    · injection hl with hl; subst hl; exact ⟨_, _, Try.func56, of_decide_eq_true (by kernel_rfl), c56⟩
    · injection hl with hl; subst hl; exact ⟨_, _, Try.func57, of_decide_eq_true (by kernel_rfl), c57⟩
    · injection hl with hl; subst hl; exact ⟨_, _, Try.func58, of_decide_eq_true (by kernel_rfl), c58⟩
    · injection hl with hl; subst hl; exact ⟨_, _, Try.func59, of_decide_eq_true (by kernel_rfl), c59⟩
    · injection hl with hl; subst hl; exact ⟨_, _, Try.func60, of_decide_eq_true (by kernel_rfl), c60⟩
    · injection hl with hl; subst hl; exact ⟨_, _, Try.func61, of_decide_eq_true (by kernel_rfl), c61⟩
    · injection hl with hl; subst hl; exact ⟨_, _, Try.func62, of_decide_eq_true (by kernel_rfl), c62⟩
    · injection hl with hl; subst hl; exact ⟨_, _, Try.func63, of_decide_eq_true (by kernel_rfl), c63⟩
    · injection hl with hl; subst hl; exact ⟨_, _, Try.func64, of_decide_eq_true (by kernel_rfl), c64⟩
    · injection hl with hl; subst hl; exact ⟨_, _, Try.func65, of_decide_eq_true (by kernel_rfl), c65⟩
    · injection hl with hl; subst hl; exact ⟨_, _, Try.func66, of_decide_eq_true (by kernel_rfl), c66⟩
    · injection hl with hl; subst hl; exact ⟨_, _, Try.func67, of_decide_eq_true (by kernel_rfl), c67⟩
    · injection hl with hl; subst hl; exact ⟨_, _, Try.func68, of_decide_eq_true (by kernel_rfl), c68⟩
    · injection hl with hl; subst hl; exact ⟨_, _, Try.func69, of_decide_eq_true (by kernel_rfl), c69⟩
    · injection hl with hl; subst hl; exact ⟨_, _, Try.func70, of_decide_eq_true (by kernel_rfl), c70⟩
    · injection hl with hl; subst hl; exact ⟨_, _, Try.func71, of_decide_eq_true (by kernel_rfl), c71⟩
    · injection hl with hl; subst hl; exact ⟨_, _, Try.func72, of_decide_eq_true (by kernel_rfl), c72⟩
    · injection hl with hl; subst hl; exact ⟨_, _, Try.func73, of_decide_eq_true (by kernel_rfl), c73⟩
    · injection hl with hl; subst hl; exact ⟨_, _, Try.func74, of_decide_eq_true (by kernel_rfl), c74⟩
    · injection hl with hl; subst hl; exact ⟨_, _, Try.func75, of_decide_eq_true (by kernel_rfl), c75⟩
    · injection hl with hl; subst hl; exact ⟨_, _, Try.func76, of_decide_eq_true (by kernel_rfl), c76⟩
    · injection hl with hl; subst hl; exact ⟨_, _, Try.func77, of_decide_eq_true (by kernel_rfl), c77⟩
    · injection hl with hl; subst hl; exact ⟨_, _, Try.func78, of_decide_eq_true (by kernel_rfl), c78⟩
    · injection hl with hl; subst hl; exact ⟨_, _, Try.func79, of_decide_eq_true (by kernel_rfl), c79⟩
    · injection hl with hl; subst hl; exact ⟨_, _, Try.func80, of_decide_eq_true (by kernel_rfl), c80⟩
    · injection hl with hl; subst hl; exact ⟨_, _, Try.func81, of_decide_eq_true (by kernel_rfl), c81⟩
    · injection hl with hl; subst hl; exact ⟨_, _, Try.func82, of_decide_eq_true (by kernel_rfl), c82⟩
    · injection hl with hl; subst hl; exact ⟨_, _, Try.func83, of_decide_eq_true (by kernel_rfl), c83⟩
    · injection hl with hl; subst hl; exact ⟨_, _, Try.func84, of_decide_eq_true (by kernel_rfl), c84⟩
    · injection hl with hl; subst hl; exact ⟨_, _, Try.func85, of_decide_eq_true (by kernel_rfl), c85⟩
    · injection hl with hl; subst hl; exact ⟨_, _, Try.func86, of_decide_eq_true (by kernel_rfl), c86⟩
    · injection hl with hl; subst hl; exact ⟨_, _, Try.func87, of_decide_eq_true (by kernel_rfl), c87⟩
    · injection hl with hl; subst hl; exact ⟨_, _, Try.func88, of_decide_eq_true (by kernel_rfl), c88⟩
    · injection hl with hl; subst hl; exact ⟨_, _, Try.func89, of_decide_eq_true (by kernel_rfl), c89⟩
    · injection hl with hl; subst hl; exact ⟨_, _, Try.func90, of_decide_eq_true (by kernel_rfl), c90⟩
    · injection hl with hl; subst hl; exact ⟨_, _, Try.func91, of_decide_eq_true (by kernel_rfl), c91⟩
    · injection hl with hl; subst hl; exact ⟨_, _, Try.func92, of_decide_eq_true (by kernel_rfl), c92⟩
    · injection hl with hl; subst hl; exact ⟨_, _, Try.func93, of_decide_eq_true (by kernel_rfl), c93⟩
    · injection hl with hl; subst hl; exact ⟨_, _, Try.func94, of_decide_eq_true (by kernel_rfl), c94⟩
    · injection hl with hl; subst hl; exact ⟨_, _, Try.func95, of_decide_eq_true (by kernel_rfl), c95⟩
    · injection hl with hl; subst hl; exact ⟨_, _, Try.func96, of_decide_eq_true (by kernel_rfl), c96⟩
    · injection hl with hl; subst hl; exact ⟨_, _, Try.func97, of_decide_eq_true (by kernel_rfl), c97⟩
    · injection hl with hl; subst hl; exact ⟨_, _, Try.func98, of_decide_eq_true (by kernel_rfl), c98⟩
    · injection hl with hl; subst hl; exact ⟨_, _, Try.func99, of_decide_eq_true (by kernel_rfl), c99⟩
    · injection hl with hl; subst hl; exact ⟨_, _, Try.func100, of_decide_eq_true (by kernel_rfl), c100⟩
    · injection hl with hl; subst hl; exact ⟨_, _, Try.func101, of_decide_eq_true (by kernel_rfl), c101⟩
    · injection hl with hl; subst hl; exact ⟨_, _, Try.func102, of_decide_eq_true (by kernel_rfl), c102⟩
    · injection hl with hl; subst hl; exact ⟨_, _, Try.func103, of_decide_eq_true (by kernel_rfl), c103⟩
    · injection hl with hl; subst hl; exact ⟨_, _, Try.func104, of_decide_eq_true (by kernel_rfl), c104⟩
    · injection hl with hl; subst hl; exact ⟨_, _, Try.func105, of_decide_eq_true (by kernel_rfl), c105⟩
    · cases hl
theorem tabC (f : Nat) (lf : LFun) (h : C2 f = some lf) : Ct f = some (unF lf) ∧ okC lf.body = true ∧ lf.sl = [] := by
  refine ⟨by unfold Ct; rw [h]; rfl, ?_⟩
  unfold C2 at h
  split at h
  · injection h with h; subst h; exact ⟨by kernel_rfl, rfl⟩
  · injection h with h; subst h; exact ⟨by kernel_rfl, rfl⟩
  · injection h with h; subst h; exact ⟨by kernel_rfl, rfl⟩
  · injection h with h; subst h; exact ⟨by kernel_rfl, rfl⟩
  · injection h with h; subst h; exact ⟨by kernel_rfl, rfl⟩
  · injection h with h; subst h; exact ⟨by kernel_rfl, rfl⟩
  · injection h with h; subst h; exact ⟨by kernel_rfl, rfl⟩
  · injection h with h; subst h; exact ⟨by kernel_rfl, rfl⟩
  · injection h with h; subst h; exact ⟨by kernel_rfl, rfl⟩
  · injection h with h; subst h; exact ⟨by kernel_rfl, rfl⟩
  · injection h with h; subst h; exact ⟨by kernel_rfl, rfl⟩
  · injection h with h; subst h; exact ⟨by kernel_rfl, rfl⟩
  · injection h with h; subst h; exact ⟨by kernel_rfl, rfl⟩
  · injection h with h; subst h; exact ⟨by kernel_rfl, rfl⟩
  · injection h with h; subst h; exact ⟨by kernel_rfl, rfl⟩
  · injection h with h; subst h; exact ⟨by kernel_rfl, rfl⟩
  · injection h with h; subst h; exact ⟨by kernel_rfl, rfl⟩
  · injection h with h; subst h; exact ⟨by kernel_rfl, rfl⟩
  · injection h with h; subst h; exact ⟨by kernel_rfl, rfl⟩
  · injection h with h; subst h; exact ⟨by kernel_rfl, rfl⟩
  · injection h with h; subst h; exact ⟨by kernel_rfl, rfl⟩
  · injection h with h; subst h; exact ⟨by kernel_rfl, rfl⟩
  · injection h with h; subst h; exact ⟨by kernel_rfl, rfl⟩
  · injection h with h; subst h; exact ⟨by kernel_rfl, rfl⟩
  · injection h with h; subst h; exact ⟨by kernel_rfl, rfl⟩
  · injection h with h; subst h; exact ⟨by kernel_rfl, rfl⟩
  · injection h with h; subst h; exact ⟨by kernel_rfl, rfl⟩
  · injection h with h; subst h; exact ⟨by kernel_rfl, rfl⟩
  · injection h with h; subst h; exact ⟨by kernel_rfl, rfl⟩
  · injection h with h; subst h; exact ⟨by kernel_rfl, rfl⟩
  · injection h with h; subst h; exact ⟨by kernel_rfl, rfl⟩
  · injection h with h; subst h; exact ⟨by kernel_rfl, rfl⟩
  · injection h with h; subst h; exact ⟨by kernel_rfl, rfl⟩
  · injection h with h; subst h; exact ⟨by kernel_rfl, rfl⟩
  · injection h with h; subst h; exact ⟨by kernel_rfl, rfl⟩
  · injection h with h; subst h; exact ⟨by kernel_rfl, rfl⟩
  · injection h with h; subst h; exact ⟨by kernel_rfl, rfl⟩
  · injection h with h; subst h; exact ⟨by kernel_rfl, rfl⟩
  · injection h with h; subst h; exact ⟨by kernel_rfl, rfl⟩
  · injection h with h; subst h; exact ⟨by kernel_rfl, rfl⟩
  · injection h with h; subst h; exact ⟨by kernel_rfl, rfl⟩
  · injection h with h; subst h; exact ⟨by kernel_rfl, rfl⟩
  · injection h with h; subst h; exact ⟨by kernel_rfl, rfl⟩
  · injection h with h; subst h; exact ⟨by kernel_rfl, rfl⟩
  · injection h with h; subst h; exact ⟨by kernel_rfl, rfl⟩
  · injection h with h; subst h; exact ⟨by kernel_rfl, rfl⟩
  · injection h with h; subst h; exact ⟨by kernel_rfl, rfl⟩
  · injection h with h; subst h; exact ⟨by kernel_rfl, rfl⟩
  · injection h with h; subst h; exact ⟨by kernel_rfl, rfl⟩
  · injection h with h; subst h; exact ⟨by kernel_rfl, rfl⟩
  · injection h with h; subst h; exact ⟨by kernel_rfl, rfl⟩
  · injection h with h; subst h; exact ⟨by kernel_rfl, rfl⟩
  · injection h with h; subst h; exact ⟨by kernel_rfl, rfl⟩
  · injection h with h; subst h; exact ⟨by kernel_rfl, rfl⟩
  · injection h with h; subst h; exact ⟨by kernel_rfl, rfl⟩
  · injection h with h; subst h; exact ⟨by kernel_rfl, rfl⟩
  · injection h with h; subst h; exact ⟨by kernel_rfl, rfl⟩
  · injection h with h; subst h; exact ⟨by kernel_rfl, rfl⟩
  · injection h with h; subst h; exact ⟨by kernel_rfl, rfl⟩
  · injection h with h; subst h; exact ⟨by kernel_rfl, rfl⟩
  · injection h with h; subst h; exact ⟨by kernel_rfl, rfl⟩
  · injection h with h; subst h; exact ⟨by kernel_rfl, rfl⟩
  · injection h with h; subst h; exact ⟨by kernel_rfl, rfl⟩
  · injection h with h; subst h; exact ⟨by kernel_rfl, rfl⟩
  · injection h with h; subst h; exact ⟨by kernel_rfl, rfl⟩
  · injection h with h; subst h; exact ⟨by kernel_rfl, rfl⟩
  · injection h with h; subst h; exact ⟨by kernel_rfl, rfl⟩
  · injection h with h; subst h; exact ⟨by kernel_rfl, rfl⟩
  · injection h with h; subst h; exact ⟨by kernel_rfl, rfl⟩
  · injection h with h; subst h; exact ⟨by kernel_rfl, rfl⟩
  · injection h with h; subst h; exact ⟨by kernel_rfl, rfl⟩
  · injection h with h; subst h; exact ⟨by kernel_rfl, rfl⟩
  · injection h with h; subst h; exact ⟨by kernel_rfl, rfl⟩
  · injection h with h; subst h; exact ⟨by kernel_rfl, rfl⟩
  · injection h with h; subst h; exact ⟨by kernel_rfl, rfl⟩
  · injection h with h; subst h; exact ⟨by kernel_rfl, rfl⟩
  · injection h with h; subst h; exact ⟨by kernel_rfl, rfl⟩
  · injection h with h; subst h; exact ⟨by kernel_rfl, rfl⟩
  · injection h with h; subst h; exact ⟨by kernel_rfl, rfl⟩
  · injection h with h; subst h; exact ⟨by kernel_rfl, rfl⟩
  · injection h with h; subst h; exact ⟨by kernel_rfl, rfl⟩
  · injection h with h; subst h; exact ⟨by kernel_rfl, rfl⟩
  · injection h with h; subst h; exact ⟨by kernel_rfl, rfl⟩
  · injection h with h; subst h; exact ⟨by kernel_rfl, rfl⟩
  · injection h with h; subst h; exact ⟨by kernel_rfl, rfl⟩
  · injection h with h; subst h; exact ⟨by kernel_rfl, rfl⟩
  · injection h with h; subst h; exact ⟨by kernel_rfl, rfl⟩
  · injection h with h; subst h; exact ⟨by kernel_rfl, rfl⟩
  · injection h with h; subst h; exact ⟨by kernel_rfl, rfl⟩
  · injection h with h; subst h; exact ⟨by kernel_rfl, rfl⟩
  · injection h with h; subst h; exact ⟨by kernel_rfl, rfl⟩
  · injection h with h; subst h; exact ⟨by kernel_rfl, rfl⟩
  · injection h with h; subst h; exact ⟨by kernel_rfl, rfl⟩
  · cases h
end Go.Lo

/- Words for the walks of the plain machine. -/
namespace Go.Lo
abbrev I (n : Int) : V := .int .i64 n
abbrev B (b : Bool) : V := .bool b
/-- A slice that nobody writes any more. -/
abbrev S (sz : Nat) (es : List (List V)) : V := .sl none sz es
/-- Integers as elements. -/
abbrev eI (xs : List Int) : List (List V) := xs.map fun x => [I x]
theorem wrap64 {n : Int} (h1 : -9223372036854775808 ≤ n) (h2 : n ≤ 9223372036854775807) : IntKind.i64.wrap n = n := by
  simp [IntKind.wrap, IntKind.bits, IntKind.signed]
  omega
theorem if_iff {α : Type} {P Q : Prop} [Decidable P] [Decidable Q] {x y : α} (h : P ↔ Q) : (if P then x else y) = if Q then x else y := by by_cases hp : P <;> simp [hp, ← h]
theorem iter_succ {f : St → Option (Ex × St)} {n : Nat} {σ : St} : iter f (n + 1) σ = match f σ with
    | some (.normal, σ') => iter f n σ'
    | r => r := rfl
theorem loop_find {f : St → Option (Ex × St)} {s : Nat → St} {n : Nat} {g : Nat → Bool} {E : Nat → Ex × St} {X : Ex × St} (hs : ∀ i, i < n → f (s i) = some (if g i = true then E i else (.normal, s (i + 1)))) (hE : ∀ i, (E i).1 ≠ .normal) (hn : f (s n) = some X) (hX : X.1 ≠ .normal) :
    ∀ (k i : Nat), i + k = n → iter f (k + 1) (s i) = some (match (List.range' i k).find? g with
      | some j => E j
      | none => X)
  | 0, i, h => by
    have : i = n := by omega
    subst this
    rw [iter_succ, hn]
    obtain ⟨x, σ⟩ := X
    cases x with
    | normal => exact (hX rfl).elim
    | exit id => rfl
    | ret => rfl
  | k + 1, i, h => by
    rw [iter_succ, hs i (by omega), List.range'_succ, List.find?_cons]
    cases hg : g i with
    | true =>
      simp only [if_true]
      have he := hE i
      generalize E i = e at he ⊢
      obtain ⟨x, σ⟩ := e
      cases x with
      | normal => exact (he rfl).elim
      | exit id => rfl
      | ret => rfl
    | false =>
      simp only [Bool.false_eq_true, if_false]
      exact loop_find hs hE hn hX k (i + 1) (by omega)
/-- The first element, and the first index, for which a function says so. -/
def prAt {α : Type} (pr : α → Bool) (xs : List α) (i : Nat) : Bool := match xs[i]? with
  | some x => pr x
  | none => false
theorem prAt_some {α : Type} {pr : α → Bool} {xs : List α} {i : Nat} {x : α} (h : xs[i]? = some x) : prAt pr xs i = pr x := by simp only [prAt, h]
theorem find_idx {α : Type} (pr : α → Bool) (xs : List α) : (List.range' 0 xs.length).find? (prAt pr xs) = xs.findIdx? pr := by
  have key : ∀ (l : List α) (k : Nat) (g : Nat → Bool), (∀ i x, l[i]? = some x → g (k + i) = pr x) → (List.range' k l.length).find? g = (l.findIdx? pr).map (· + k) := by
    intro l
    induction l with
    | nil => intro k g _; rfl
    | cons x l ih =>
      intro k g hg
      rw [List.length_cons, List.range'_succ, List.find?_cons, List.findIdx?_cons]
      have h0 := hg 0 x rfl
      rw [Nat.add_zero] at h0
      rw [h0]
      cases hx : pr x with
      | true => simp
      | false =>
        simp only [Bool.false_eq_true, if_false, Option.map_map]
        rw [ih (k + 1) g fun i y hy => by rw [show k + 1 + i = k + (i + 1) by omega]; exact hg (i + 1) y (by simpa using hy)]
        cases l.findIdx? pr <;> simp; omega
  have := key xs 0 (prAt pr xs) (fun i x h => by rw [Nat.zero_add, prAt_some h])
  rw [this]; cases xs.findIdx? pr <;> simp
/-- A search, by what a round comes to. -/
theorem loop_if {f : St → Option (Ex × St)} {s : Nat → St} {n : Nat} {g : Nat → Bool} {E : Nat → Ex × St} {X : Ex × St} (hs : ∀ i, i < n → f (s i) = if g i = true then some (E i) else some (.normal, s (i + 1))) (hE : ∀ i, (E i).1 ≠ .normal) (hn : f (s n) = some X) (hX : X.1 ≠ .normal) :
    iter f (n + 1) (s 0) = some (match (List.range' 0 n).find? g with
      | some j => E j
      | none => X) :=
  loop_find (fun i hi => by rw [hs i hi]; split <;> rfl) hE hn hX n 0 (by omega)
theorem loop_all {f : St → Option (Ex × St)} {s : Nat → St} {n : Nat} {X : Ex × St} (hs : ∀ i, i < n → f (s i) = some (.normal, s (i + 1))) (hn : f (s n) = some X) (hX : X.1 ≠ .normal) : iter f (n + 1) (s 0) = some X := by
  have := loop_find (g := fun _ => false) (E := fun i => (.ret, s i)) (s := s) (fun i hi => by rw [hs i hi]; rfl) (fun _ => by simp) hn hX n 0 (by omega)
  rw [this]
  have : (List.range' 0 n).find? (fun _ => false) = none := by simp
  rw [this]
/-! ### How the machine goes on, in small steps -/
section
variable (call : Nat → List V → Option V) (N : Nat)
def goE (dst : Option Nat) (is : List LIns) (σ : St) : Option Eff2 → Option St
  | some e => stepL2 call is (apply2 σ dst e)
  | none => none
def goK (dst : Option Nat) (k : K) (ex : List Nat) (is : List LIns) (σ : St) : Option (List V) → Option St
  | some vs => goE call dst is σ (sem2 call (bxOf σ.fr ex) ex (dst.getD 0) k vs)
  | none => none
def goG (dst : Option Nat) (k : K) (xs : List Opd) (ex : List Nat) (is : List LIns) (σ : St) (b : Bool) : Option V → Option St
  | some (.bool c) => match c == b with
    | true => goK call dst k ex is σ (opds σ.fr xs)
    | false => stepL2 call is { σ with fr := putO σ.fr dst .und }
  | some .und => stepL2 call is { σ with fr := putO σ.fr dst .und }
  | _ => none
def regE (kn : Nat) (kp : List Nat) : Option St → Option (Ex × St)
  | some σ => some (.normal, { σ with fr := keepL kn kp σ.fr })
  | none => none
def seqE (b : LCode) : Option (Ex × St) → Option (Ex × St)
  | some (.normal, σ) => evC2 call N b σ
  | r => r
def conE (a b : LCode) (σ : St) : Option V → Option (Ex × St)
  | some (.bool true) => evC2 call N a σ
  | some (.bool false) => evC2 call N b σ
  | _ => none
def blkE (id : Nat) : Option (Ex × St) → Option (Ex × St)
  | some (.exit j, σ) => if j = id then some (.normal, σ) else some (.exit j, σ)
  | r => r
def endE (it : Bool) (res : List RV) : Option (Ex × St) → Option V
  | some (.normal, σ) => finish2 it res σ
  | some (.ret, σ) => finish2 it res σ
  | _ => none
variable {call N}
variable {dst : Option Nat} {k : K} {xs : List Opd} {ex : List Nat} {is : List LIns} {σ : St} {e : Eff2} {vs : List V}
@[simp] theorem goE_some : goE call dst is σ (some e) = stepL2 call is (apply2 σ dst e) := rfl
@[simp] theorem goK_some : goK call dst k ex is σ (some vs) = goE call dst is σ (sem2 call (bxOf σ.fr ex) ex (dst.getD 0) k vs) := rfl
@[simp] theorem goG_tt : goG call dst k xs ex is σ true (some (.bool true)) = goK call dst k ex is σ (opds σ.fr xs) := rfl
@[simp] theorem goG_tf : goG call dst k xs ex is σ true (some (.bool false)) = stepL2 call is { σ with fr := putO σ.fr dst .und } := rfl
@[simp] theorem goG_ft : goG call dst k xs ex is σ false (some (.bool true)) = stepL2 call is { σ with fr := putO σ.fr dst .und } := rfl
@[simp] theorem goG_ff : goG call dst k xs ex is σ false (some (.bool false)) = goK call dst k ex is σ (opds σ.fr xs) := rfl
@[simp] theorem goG_und (b : Bool) : goG call dst k xs ex is σ b (some .und) = stepL2 call is { σ with fr := putO σ.fr dst .und } := rfl
@[simp] theorem stepL2_nil : stepL2 call [] σ = some σ := rfl
@[simp] theorem stepL2_cons : stepL2 call (⟨dst, k, xs, none, ex⟩ :: is) σ = goK call dst k ex is σ (opds σ.fr xs) := by
  simp only [stepL2, stepI2, wanted]
  cases opds σ.fr xs with
  | none => rfl
  | some vs => simp only [goK]; cases sem2 call (bxOf σ.fr ex) ex (dst.getD 0) k vs <;> rfl
@[simp] theorem stepL2_guard (s : Nat) (b : Bool) : stepL2 call (⟨dst, k, xs, some (s, b), ex⟩ :: is) σ = goG call dst k xs ex is σ b (get σ.fr s) := by
  simp only [stepL2, stepI2, wanted]
  cases hg : get σ.fr s with
  | none => rfl
  | some v =>
    cases v <;> try rfl
    rename_i c
    simp only [goG]
    cases hcb : c == b with
    | false => simp
    | true =>
      simp only
      cases opds σ.fr xs with
      | none => rfl
      | some vs => simp only [goK]; cases sem2 call (bxOf σ.fr ex) ex (dst.getD 0) k vs <;> rfl
@[simp] theorem regE_some {kn : Nat} {kp : List Nat} : regE kn kp (some σ) = some (.normal, { σ with fr := keepL kn kp σ.fr }) := rfl
@[simp] theorem seqE_normal {b : LCode} : seqE call N b (some (.normal, σ)) = evC2 call N b σ := rfl
@[simp] theorem seqE_ret {b : LCode} : seqE call N b (some (.ret, σ)) = some (.ret, σ) := rfl
@[simp] theorem seqE_exit {b : LCode} {i : Nat} : seqE call N b (some (.exit i, σ)) = some (.exit i, σ) := rfl
@[simp] theorem conE_true {a b : LCode} : conE call N a b σ (some (.bool true)) = evC2 call N a σ := rfl
@[simp] theorem conE_false {a b : LCode} : conE call N a b σ (some (.bool false)) = evC2 call N b σ := rfl
@[simp] theorem blkE_normal {id : Nat} : blkE id (some (.normal, σ)) = some (.normal, σ) := rfl
@[simp] theorem blkE_ret {id : Nat} : blkE id (some (.ret, σ)) = some (.ret, σ) := rfl
@[simp] theorem blkE_exit {id j : Nat} : blkE id (some (.exit j, σ)) = if j = id then some (.normal, σ) else some (.exit j, σ) := rfl
@[simp] theorem endE_normal {it : Bool} {res : List RV} : endE it res (some (.normal, σ)) = finish2 it res σ := rfl
@[simp] theorem endE_ret {it : Bool} {res : List RV} : endE it res (some (.ret, σ)) = finish2 it res σ := rfl
@[simp] theorem evC2_skip : evC2 call N .skip σ = some (.normal, σ) := rfl
@[simp] theorem evC2_ret : evC2 call N .ret σ = some (.ret, σ) := rfl
@[simp] theorem evC2_exit {id : Nat} : evC2 call N (.exit id) σ = some (.exit id, σ) := rfl
@[simp] theorem evC2_reg {lp : Bool} {ds pp : List Nat} {ops : List LIns} {kn : Nat} {kp : List Nat} : evC2 call N (.reg lp ds pp ops kn kp) σ = regE kn kp (stepL2 call ops (prep2 lp pp σ)) := by
  simp only [evC2]
  cases stepL2 call ops (prep2 lp pp σ) <;> rfl
@[simp] theorem evC2_seq {a b : LCode} : evC2 call N (.seq a b) σ = seqE call N b (evC2 call N a σ) := by
  simp only [evC2]
  cases evC2 call N a σ with
  | none => rfl
  | some r => obtain ⟨x, τ⟩ := r; cases x <;> rfl
@[simp] theorem evC2_cond {c : Opd} {a b : LCode} : evC2 call N (.cond c a b) σ = conE call N a b σ (opd σ.fr c) := by
  simp only [evC2]
  cases opd σ.fr c with
  | none => rfl
  | some v =>
    cases v <;> try rfl
    rename_i t
    cases t <;> rfl
def altE (a b : LCode) (σ : St) : Option Bool → Option (Ex × St)
  | some true => evC2 call N b σ
  | some false => evC2 call N a σ
  | none => none
@[simp] theorem altE_true {a b : LCode} : altE (call := call) (N := N) a b σ (some true) = evC2 call N b σ := rfl
@[simp] theorem altE_false {a b : LCode} : altE (call := call) (N := N) a b σ (some false) = evC2 call N a σ := rfl
@[simp] theorem evC2_alt {ts ks : List Nat} {a b : LCode} : evC2 call N (.alt ts ks a b) σ = altE (call := call) (N := N) a b σ (altT2 ts σ.fr ks) := by
  simp only [evC2]
  cases altT2 ts σ.fr ks with
  | none => rfl
  | some c => cases c <;> rfl
@[simp] theorem andO_ss {a b : Bool} : andO (some a) (some b) = some (a || b) := rfl
@[simp] theorem altT2_nil {ts : List Nat} {fr : List (Nat × V)} : altT2 ts fr [] = some false := rfl
def altG (ts : List Nat) (fr : List (Nat × V)) (ks : List Nat) : Option V → Option Bool
  | some v => andO (hasT2 ts v) (altT2 ts fr ks)
  | none => none
def getRV (fr : List (Nat × V)) : Option V → Option V
  | some (.ref s _) => get fr s
  | r => r
@[simp] theorem getRV_ref {fr : List (Nat × V)} {s o : Nat} : getRV fr (some (.ref s o)) = get fr s := rfl
@[simp] theorem getRV_box {fr : List (Nat × V)} {cs : List V} : getRV fr (some (.box cs)) = some (.box cs) := rfl
@[simp] theorem getRV_sl {fr : List (Nat × V)} {t : Option Nat} {sz : Nat} {es : List (List V)} : getRV fr (some (.sl t sz es)) = some (.sl t sz es) := rfl
@[simp] theorem getRV_nil {fr : List (Nat × V)} : getRV fr (some .nil) = some .nil := rfl
@[simp] theorem altG_some {ts : List Nat} {fr : List (Nat × V)} {ks : List Nat} {v : V} : altG ts fr ks (some v) = andO (hasT2 ts v) (altT2 ts fr ks) := rfl
@[simp] theorem altT2_cons {ts : List Nat} {fr : List (Nat × V)} {k : Nat} {ks : List Nat} : altT2 ts fr (k :: ks) = altG ts fr ks (getRV fr (get fr k)) := by
  simp only [altT2, getR, getRV]
  cases get fr k with
  | none => rfl
  | some v =>
    cases v with
    | ref s o => simp only; cases get fr s <;> rfl
    | _ => rfl
@[simp] theorem hasT2_box {ts : List Nat} {cs : List V} : hasT2 ts (.box cs) = slTL2 ts cs := rfl
@[simp] theorem slTL2_nil {ts : List Nat} : slTL2 ts [] = some false := rfl
@[simp] theorem slTL2_cons {ts : List Nat} {v : V} {vs : List V} : slTL2 ts (v :: vs) = andO (slT2 ts v) (slTL2 ts vs) := rfl
@[simp] theorem slT2_nil {ts : List Nat} {u sz : Nat} : slT2 ts (.sl (some u) sz []) = some (!mbT u && memN (tb u / 100) ts) := rfl
@[simp] theorem slT2_cons {ts : List Nat} {u sz : Nat} {e : List V} {es : List (List V)} : slT2 ts (.sl (some u) sz (e :: es)) = some (memN (tb u / 100) ts) := rfl
theorem slT2_ne {ts : List Nat} {u sz : Nat} {es : List (List V)} (h : es ≠ []) : slT2 ts (.sl (some u) sz es) = some (memN (tb u / 100) ts) := by
  cases es with
  | nil => exact absurd rfl h
  | cons e es => rfl
@[simp] theorem evC2_block {id : Nat} {a : LCode} : evC2 call N (.block id a) σ = blkE id (evC2 call N a σ) := by
  simp only [evC2]
  cases evC2 call N a σ with
  | none => rfl
  | some r => obtain ⟨x, τ⟩ := r; cases x <;> rfl
@[simp] theorem evC2_loop {a : LCode} : evC2 call N (.loop a) σ = iter (evC2 call N a) N σ := rfl
theorem evBody2_eq {lf : LFun} {args : List V} (h : args.length = lf.np) (hl : liveL args = true) : evBody2 call N lf args = endE (ranged args) lf.res (evC2 call N lf.body { fr := params 0 args ++ deadL lf.sl, tk := [], tr := if ranged args = true then some [] else none }) := by
  unfold evBody2
  rw [if_pos ⟨h, hl⟩]
  cases evC2 call N lf.body { fr := params 0 args ++ deadL lf.sl, tk := [], tr := if ranged args = true then some [] else none } with
  | none => rfl
  | some r => obtain ⟨x, τ⟩ := r; cases x <;> rfl
/-- A function's equation. -/
theorem run2_body {F : Nat → Option (List V → Option V)} {C : Nat → Option LFun} {f : Nat} (N : Nat) {lf : LFun} {as1 : List V} {r : V} (hF : F f = none) (hC : C f = some lf) (h : as1.length = lf.np) (hl : liveL as1 = true) (hr : ranged as1 = false)
    (hb : endE false lf.res (evC2 (run2 F C) N lf.body { fr := params 0 as1 ++ deadL lf.sl, tk := [] }) = some r) : run2 F C f as1 = some r := by
  refine run2_of_body (N := N) hF hC ?_
  rw [evBody2_eq h hl, hr]
  exact hb
/-- An iterator's equation. -/
theorem run2_iter {F : Nat → Option (List V → Option V)} {C : Nat → Option LFun} {f : Nat} (N : Nat) {lf : LFun} {as1 : List V} {r : V} (hF : F f = none) (hC : C f = some lf) (h : as1.length = lf.np) (hl : liveL as1 = true) (hr : ranged as1 = true)
    (hb : endE true lf.res (evC2 (run2 F C) N lf.body { fr := params 0 as1 ++ deadL lf.sl, tk := [], tr := some [] }) = some r) : run2 F C f as1 = some r := by
  refine run2_of_body (N := N) hF hC ?_
  rw [evBody2_eq h hl, hr]
  exact hb
/-! ### Ranges over functions -/
def raE (evB : St → Option (Ex × St)) : Option (Ex × St) → Option (Ex × St)
  | some (.normal, σ) => evB σ
  | _ => none
def rbE (wr : List Nat) : Option (Ex × St) → Option (Ex × St)
  | some (ex, σ) => some (ex, { σ with fr := dropL wr σ.fr })
  | none => none
@[simp] theorem raE_some {evB : St → Option (Ex × St)} : raE evB (some (.normal, σ)) = evB σ := rfl
@[simp] theorem rbE_some {wr : List Nat} {x : Ex} : rbE wr (some (x, σ)) = some (x, { σ with fr := dropL wr σ.fr }) := rfl
@[simp] theorem rbE_ite {P : Prop} [Decidable P] {wr : List Nat} {x y : Option (Ex × St)} : rbE wr (if P then x else y) = if P then rbE wr x else rbE wr y := by split <;> rfl
theorem roundE_eq {evA evB : St → Option (Ex × St)} {ps wr : List Nat} {as1 : List V} : roundE evA evB ps wr σ as1 = if as1.length = ps.length then rbE wr (raE evB (evA { σ with fr := putA ps as1 (dropL wr σ.fr) })) else none := by
  unfold roundE
  split
  · cases evA { σ with fr := putA ps as1 (dropL wr σ.fr) } with
    | none => rfl
    | some r =>
      obtain ⟨x, τ⟩ := r
      cases x with
      | normal =>
        simp only [raE]
        cases evB τ with
        | none => rfl
        | some r => obtain ⟨x, τ⟩ := r; rfl
      | exit _ => rfl
      | ret => rfl
  · rfl
def rnF (call : Nat → List V → Option V) (N : Nat) (ps wr : List Nat) (asg body : LCode) (σ : St) (ys : List V → Nat → Nat → Option V) : Option (List V × List Nat) → Option (Ex × St)
  | some (cs, ts) => if (cs.all fun v => v.cells.all V.pm) = true then rngE (roundE (evC2 call N asg) (evC2 call N body) ps wr) (ys cs 0) { fr := dropL wr (roF ts σ.fr), tk := σ.tk, tr := none } else none
  | none => none
def rnE (call : Nat → List V → Option V) (N : Nat) (ps wr : List Nat) (asg body : LCode) (σ : St) : Option (List (List V)) → Option V → Option (Ex × St)
  | none, some (.fn (.f f) caps) => rnF call N ps wr asg body σ (fun cs _ a => call f (.fn (.y a) [] :: cs)) (frzEL caps)
  | none, some (.fn (.m f) caps) => rnF call N ps wr asg body σ (fun cs _ a => call f (cs ++ [.fn (.y a) []])) (frzEL caps)
  | _, _ => none
@[simp] theorem rnE_f {ps wr : List Nat} {asg body : LCode} {f : Nat} {caps : List V} : rnE call N ps wr asg body σ none (some (.fn (.f f) caps)) = rnF call N ps wr asg body σ (fun cs _ a => call f (.fn (.y a) [] :: cs)) (frzEL caps) := rfl
@[simp] theorem rnE_m {ps wr : List Nat} {asg body : LCode} {f : Nat} {caps : List V} : rnE call N ps wr asg body σ none (some (.fn (.m f) caps)) = rnF call N ps wr asg body σ (fun cs _ a => call f (cs ++ [.fn (.y a) []])) (frzEL caps) := rfl
@[simp] theorem rnF_some {ps wr : List Nat} {asg body : LCode} {ys : List V → Nat → Nat → Option V} {cs : List V} {ts : List Nat} : rnF call N ps wr asg body σ ys (some (cs, ts)) = if (cs.all fun v => v.cells.all V.pm) = true then rngE (roundE (evC2 call N asg) (evC2 call N body) ps wr) (ys cs 0) { fr := dropL wr (roF ts σ.fr), tk := σ.tk, tr := none } else none := rfl
@[simp] theorem evC2_rng {g : Opd} {ps wr : List Nat} {asg body : LCode} : evC2 call N (.rng g ps wr asg body) σ = rnE call N ps wr asg body σ σ.tr (opd σ.fr g) := by
  simp only [evC2]
  cases σ.tr with
  | some l => rfl
  | none =>
    cases opd σ.fr g with
    | none => rfl
    | some v =>
      cases v with
      | fn f caps =>
        cases f with
        | y a => rfl
        | f f =>
          simp only [rnE, rnF]
          cases frzEL caps with
          | none => rfl
          | some p => obtain ⟨x, y⟩ := p; rfl
        | m f =>
          simp only [rnE, rnF]
          cases frzEL caps with
          | none => rfl
          | some p => obtain ⟨x, y⟩ := p; rfl
      | _ => rfl
theorem rngE_all {f : St → List V → Option (Ex × St)} {it : Nat → Option V} {items : List (List V)} {σ' : St} (h1 : it 0 = some (.tup (tupsL items))) (h2 : foldR f 0 σ items = some (none, σ')) : rngE f it σ = some (.normal, σ') := by
  unfold rngE
  rw [h1]
  simp only [itemsOf, itemsL_tups, h2]
theorem fold_all {α β : Type} {f : St → List V → Option (Ex × St)} {s : List β → St} {W : α → List V} {h : α → List β} : ∀ (xs : List α) (k : Nat) (l : List β), (∀ x ∈ xs, ∀ l, f (s l) (W x) = some (.normal, s (l ++ h x))) → foldR f k (s l) (xs.map W) = some (none, s (l ++ xs.flatMap h))
  | [], k, l, _ => by simp [foldR]
  | x :: xs, k, l, hf => by
    simp only [List.map_cons, foldR, hf x (by simp) l]
    rw [fold_all xs (k + 1) (l ++ h x) fun y hy => hf y (by simp [hy])]
    simp
theorem len_flatMap {α β : Type} {h : α → List β} {c : Nat} (hc : ∀ x, (h x).length ≤ c) : ∀ xs : List α, (xs.flatMap h).length ≤ xs.length * c
  | [] => by simp
  | x :: xs => by
    have := len_flatMap hc xs
    have := hc x
    rw [List.flatMap_cons, List.length_append, List.length_cons, Nat.add_mul]; omega
/-- All rounds of a range over a function that goes on and on; the first one starts from a frame of its own. -/
theorem rng_fold {α β : Type} {f : St → List V → Option (Ex × St)} {it : Nat → Option V} {σ0 : St} {s : List β → St} {W : α → List V} {h : α → List β} {xs : List α} {l0 : List β} (h1 : it 0 = some (.tup (tupsL (xs.map W)))) (hx : xs ≠ [])
    (h0 : ∀ x, f σ0 (W x) = f (s l0) (W x)) (hf : ∀ pre x suf, xs = pre ++ x :: suf → f (s (l0 ++ pre.flatMap h)) (W x) = some (.normal, s (l0 ++ pre.flatMap h ++ h x))) : rngE f it σ0 = some (.normal, s (l0 ++ xs.flatMap h)) := by
  have key : ∀ (suf pre : List α) (k : Nat), xs = pre ++ suf → foldR f k (s (l0 ++ pre.flatMap h)) (suf.map W) = some (none, s (l0 ++ xs.flatMap h)) := by
    intro suf
    induction suf with
    | nil => intro pre k e; rw [List.append_nil] at e; subst e; rfl
    | cons x suf ih =>
      intro pre k e
      simp only [List.map_cons, foldR, hf pre x suf e]
      have := ih (pre ++ [x]) (k + 1) (by rw [e]; simp)
      rw [← this]
      simp
  refine rngE_all h1 ?_
  have k0 := key xs [] 0 rfl
  simp only [List.flatMap_nil, List.append_nil] at k0
  rw [← k0]
  cases xs with
  | nil => exact absurd rfl hx
  | cons x xs => simp only [List.map_cons, foldR, h0 x]
/-! ### Operations -/
variable {bx : Nat → Option (List V)} {d : Nat}
def stoE (s off : Nat) (new : List V) : Option (List V) → Option Eff2
  | some cs => match splice cs off new with | some cs' => some (.sto s cs') | none => none
  | none => none
@[simp] theorem stoE_some {s off : Nat} {new cs : List V} : stoE s off new (some cs) = if off + new.length ≤ cs.length then some (.sto s (cs.take off ++ new ++ cs.drop (off + new.length))) else none := by
  by_cases h : off + new.length ≤ cs.length <;> simp [stoE, splice, h]
def ldE (off : Nat) (n : Option Nat) : Option (List V) → Option V
  | some cs => partV cs off n
  | none => none
@[simp] theorem ldE_some {off : Nat} {n : Option Nat} {cs : List V} : ldE off n (some cs) = partV cs off n := rfl
@[simp] theorem x_mv {v : V} : sem2 call bx ex d .mv [v] = some (.val v) := rfl
@[simp] theorem x_pick_t {a b : V} : sem2 call bx ex d .pick [.bool true, a, b] = some (.val a) := rfl
@[simp] theorem x_pick_f {a b : V} : sem2 call bx ex d .pick [.bool false, a, b] = some (.val b) := rfl
theorem x_pick {c : Bool} {a b : V} : sem2 call bx ex d .pick [.bool c, a, b] = some (.val (if c = true then a else b)) := rfl
@[simp] theorem x_box {v : V} : sem2 call bx ex d .box [v] = if v.cells.all V.cellOk = true then some (.val (.box v.cells)) else none := rfl
@[simp] theorem x_alloc {zs : List V} : sem2 call bx ex d (.alloc zs) [] = some (.val (.box zs)) := rfl
def agE : Option (List V) → Option Eff2
  | some cs => some (.val (.agg cs))
  | none => none
@[simp] theorem agE_some {cs : List V} : agE (some cs) = some (.val (.agg cs)) := rfl
@[simp] theorem x_build {zs vs : List V} {pl : List (Nat × Nat)} : sem2 call bx ex d (.build zs pl) vs = agE (fill pl vs zs) := by
  simp only [sem2]; cases fill pl vs zs <;> rfl
@[simp] theorem fill_nil {cs : List V} : fill [] [] cs = some cs := rfl
@[simp] theorem x_load {n : Option Nat} {v : V} : sem2 call bx ex d (.load n) [v] = valO2 (loadV bx n v) := rfl
@[simp] theorem ld_ref {n : Option Nat} {s off : Nat} : loadV bx n (.ref s off) = if s < 1000000 then ldE off n (bx s) else none := by simp only [loadV]; cases bx s <;> rfl
@[simp] theorem ld_gref {n : Option Nat} {cs : List V} : loadV bx n (.gref cs) = partV cs 0 n := rfl
@[simp] theorem ld_cref {n : Option Nat} {cs : List V} : loadV bx n (.cref cs) = partV cs 0 n := rfl
@[simp] theorem ld_eref {n : Option Nat} {t m i off : Nat} {cs : List V} : loadV bx n (.eref t m i off cs) = partV cs off n := rfl
@[simp] theorem x_store {n s off : Nat} {root : Option Nat} {v : V} : sem2 call bx ex d (.store n root) [.ref s off, v] = if s < 1000000 ∧ v.cells.length = n ∧ v.cells.all V.cellOk = true ∧ (root = none ∨ root = some s) then stoE s off v.cells (bx s) else none := by
  simp only [sem2]
  split
  · cases bx s <;> rfl
  · rfl
@[simp] theorem x_bin {ty : Nat} {op : BinOp} {x y : V} : sem2 call bx ex d (.bin ty op) [x, y] = valO2 (binV2 ty op x y) := rfl
@[simp] theorem x_un {op : UnOp} {x : V} : sem2 call bx ex d (.un op) [x] = valO2 (unV op x) := rfl
def eqE (ne : Bool) : Option Bool → Option Eff2
  | some r => some (.val (.bool (ne != r)))
  | none => none
@[simp] theorem eqE_some {ne r : Bool} : eqE ne (some r) = some (.val (.bool (ne != r))) := rfl
@[simp] theorem x_eqs {ne : Bool} {sh : List (Option IntKind)} {cs ds : List V} : sem2 call bx ex d (.eqs ne sh) [.agg cs, .agg ds] = eqE ne (eqSh sh cs ds) := by
  simp only [sem2]; cases eqSh sh cs ds <;> rfl
@[simp] theorem x_conv {q k : IntKind} {n : Int} : sem2 call bx ex d (.conv k) [.int q n] = some (.val (.int k (k.wrap n))) := rfl
@[simp] theorem x_mkf {f : Nat} : sem2 call bx ex d (.mkf f) vs = some (.val (.fn (.f f) vs)) := rfl
@[simp] theorem x_mkm {f : Nat} : sem2 call bx ex d (.mkm f) vs = some (.val (.fn (.m f) vs)) := rfl
@[simp] theorem x_fa_ref {off s o : Nat} : sem2 call bx ex d (.fa off) [.ref s o] = some (.val (.ref s (o + off))) := rfl
@[simp] theorem x_fa_gref {off : Nat} {cs : List V} : sem2 call bx ex d (.fa off) [.gref cs] = some (.val (.gref (cs.drop off))) := rfl
@[simp] theorem x_fa_cref {off : Nat} {cs : List V} : sem2 call bx ex d (.fa off) [.cref cs] = some (.val (.cref (cs.drop off))) := rfl
@[simp] theorem x_fa_eref {off t n i o : Nat} {cs : List V} : sem2 call bx ex d (.fa off) [.eref t n i o cs] = some (.val (.eref t n i (o + off) cs)) := rfl
@[simp] theorem x_fld {off : Nat} {n : Option Nat} {cs : List V} : sem2 call bx ex d (.fld off n) [.agg cs] = valO2 (partV cs off n) := rfl
def ixE : Option (List V) → Option Eff2
  | some cs => some (.val (.cref cs))
  | none => none
@[simp] theorem ixE_some {cs : List V} : ixE (some cs) = some (.val (.cref cs)) := rfl
def ixF (u n i : Nat) : Option (List V) → Option Eff2
  | some cs => some (.val (.eref u n i 0 cs))
  | none => none
@[simp] theorem ixF_some {u n i : Nat} {cs : List V} : ixF u n i (some cs) = some (.val (.eref u n i 0 cs)) := rfl
@[simp] theorem x_ixs {sz : Nat} {es : List (List V)} {k : IntKind} {i : Int} (h : 0 ≤ i) : sem2 call bx ex d (.ixs sz) [.sl none sz es, .int k i] = ixE es[i.toNat]? := by
  simp only [sem2]; rw [if_pos ⟨trivial, h⟩]; cases es[i.toNat]? <;> rfl
@[simp] theorem x_ixs_own {sz u : Nat} {es : List (List V)} {k : IntKind} {i : Int} (h : 0 ≤ i) : sem2 call bx ex d (.ixs sz) [.sl (some u) sz es, .int k i] = ixF u es.length i.toNat es[i.toNat]? := by
  simp only [sem2]; rw [if_pos ⟨trivial, h⟩]; cases es[i.toNat]? <;> rfl
@[simp] theorem x_ixa_ref {len sz s o : Nat} {k : IntKind} {i : Int} (h : 0 ≤ i ∧ i < len) : sem2 call bx ex d (.ixa len sz) [.ref s o, .int k i] = some (.val (.ref s (o + i.toNat * sz))) := by simp only [sem2, if_pos h]
@[simp] theorem x_ixa_gref {len sz : Nat} {cs : List V} {k : IntKind} {i : Int} (h : 0 ≤ i ∧ i < len) : sem2 call bx ex d (.ixa len sz) [.gref cs, .int k i] = some (.val (.gref (cs.drop (i.toNat * sz)))) := by simp only [sem2, if_pos h]
@[simp] theorem x_ixa_cref {len sz : Nat} {cs : List V} {k : IntKind} {i : Int} (h : 0 ≤ i ∧ i < len) : sem2 call bx ex d (.ixa len sz) [.cref cs, .int k i] = some (.val (.cref (cs.drop (i.toNat * sz)))) := by simp only [sem2, if_pos h]
@[simp] theorem x_ixa_eref {len sz t n j o : Nat} {cs : List V} {k : IntKind} {i : Int} (h : 0 ≤ i ∧ i < len) : sem2 call bx ex d (.ixa len sz) [.eref t n j o cs, .int k i] = some (.val (.eref t n j (o + i.toNat * sz) cs)) := by simp only [sem2, if_pos h]
@[simp] theorem x_idx {len sz : Nat} {n : Option Nat} {cs : List V} {k : IntKind} {i : Int} (h : 0 ≤ i ∧ i < len) : sem2 call bx ex d (.idx len sz n) [.agg cs, .int k i] = valO2 (partV cs (i.toNat * sz) n) := by simp only [sem2, if_pos h]
@[simp] theorem x_ext {i : Nat} {cs : List V} : sem2 call bx ex d (.ext i) [.tup cs] = valO2 cs[i]? := rfl
@[simp] theorem x_len {t : Option Nat} {sz : Nat} {es : List (List V)} : sem2 call bx ex d .len [.sl t sz es] = some (.val (.int .i64 es.length)) := rfl
@[simp] theorem x_len_nil : sem2 call bx ex d .len [.nil] = some (.val (.int .i64 0)) := rfl
@[simp] theorem x_cap_nil : sem2 call bx ex d .cap [.nil] = some (.val (.int .i64 0)) := rfl
@[simp] theorem x_nilc_ref {s o : Nat} : sem2 call bx ex d .nilc [.ref s o] = some (.val (.ref s o)) := rfl
@[simp] theorem x_nilc_gref {cs : List V} : sem2 call bx ex d .nilc [.gref cs] = some (.val (.gref cs)) := rfl
@[simp] theorem x_nilc_cref {cs : List V} : sem2 call bx ex d .nilc [.cref cs] = some (.val (.cref cs)) := rfl
@[simp] theorem x_nilc_fn {f : Fk} {cs : List V} : sem2 call bx ex d .nilc [.fn f cs] = some (.val (.fn f cs)) := rfl
def mxE : Option (IntKind × List Int) → Option Eff2
  | some (k, n :: ns) => some (.val (.int k (maxL n ns)))
  | _ => none
def mnE : Option (IntKind × List Int) → Option Eff2
  | some (k, n :: ns) => some (.val (.int k (minL n ns)))
  | _ => none
@[simp] theorem mxE_some {k : IntKind} {n : Int} {ns : List Int} : mxE (some (k, n :: ns)) = some (.val (.int k (maxL n ns))) := rfl
@[simp] theorem mnE_some {k : IntKind} {n : Int} {ns : List Int} : mnE (some (k, n :: ns)) = some (.val (.int k (minL n ns))) := rfl
@[simp] theorem x_max : sem2 call bx ex d .max vs = mxE (intsOf vs) := by
  simp only [sem2]
  cases intsOf vs with
  | none => rfl
  | some p => obtain ⟨k, l⟩ := p; cases l <;> rfl
@[simp] theorem x_min : sem2 call bx ex d .min vs = mnE (intsOf vs) := by
  simp only [sem2]
  cases intsOf vs with
  | none => rfl
  | some p => obtain ⟨k, l⟩ := p; cases l <;> rfl
/-- A call's end. -/
def caR (d : Nat) (dr al mk : Bool) : Option V → Option Eff2
  | some r => if r.pureR = true then (if mk = true then (if distinctN (r.tks.map fun x => tb x.1) = true ∧ (r.tks.all fun x => decide (tb x.1 < 100)) = true ∧ d < 9999 then
        (if al = true then some (.res (r.rn d) d 1) else if r.al = true then (if dr = true then none else some (.res (r.rn d) d 2)) else some (.res (r.rn d) d 0)) else none) else
        (if r.tks.isEmpty = true ∧ r.al = false then some (.val r) else none)) else none
  | none => none
def caE (call : Nat → List V → Option V) (d : Nat) (dr al mk : Bool) (f : Nat) : Option (List V) → Option Eff2
  | some as1 => caR d dr al mk (call f as1)
  | none => none
@[simp] theorem caE_some {dr al mk : Bool} {f : Nat} {as1 : List V} : caE call d dr al mk f (some as1) = caR d dr al mk (call f as1) := rfl
theorem callE2_eq {dr al mk : Bool} {f : Nat} {vs : List V} : callE2 call bx d dr al mk f vs = caE call d dr al mk f (frzL (bxF bx 4) vs) := by
  simp only [callE2]
  cases frzL (bxF bx 4) vs with
  | none => rfl
  | some as1 => simp only [caE]; cases call f as1 <;> rfl
@[simp] theorem x_call_f {dr al mk : Bool} {f : Nat} {caps vs : List V} : sem2 call bx ex d (.call dr al mk) (.fn (.f f) caps :: vs) = caE call d dr al mk f (frzL (bxF bx 4) (vs ++ caps)) := by
  simp only [sem2]; exact callE2_eq
@[simp] theorem x_call_m {dr al mk : Bool} {f : Nat} {caps vs : List V} : sem2 call bx ex d (.call dr al mk) (.fn (.m f) caps :: vs) = caE call d dr al mk f (frzL (bxF bx 4) (caps ++ vs)) := by
  simp only [sem2]; exact callE2_eq
def yiE (ex : List Nat) (a : Nat) : Option (List V × List Nat) → Option Eff2
  | some (as1, ps) => if ps.all (fun u => !memN (tb u / 100) ex) = true ∧ (as1.all fun v => v.cells.all V.pm) = true then some (.yld a as1 ps) else none
  | none => none
@[simp] theorem yiE_some {a : Nat} {as1 : List V} {ps : List Nat} : yiE ex a (some (as1, ps)) = if ps.all (fun u => !memN (tb u / 100) ex) = true ∧ (as1.all fun v => v.cells.all V.pm) = true then some (.yld a as1 ps) else none := rfl
@[simp] theorem x_yield {al mk : Bool} {a : Nat} {vs : List V} : sem2 call bx ex d (.call false al mk) (.fn (.y a) [] :: vs) = yiE ex a (frzEL vs) := by
  simp only [sem2, Bool.false_eq_true, if_false]
  cases frzEL vs with
  | none => rfl
  | some p => obtain ⟨x, y⟩ := p; rfl
def esE (u m i off n : Nat) (cs : List V) (ex : List Nat) : Option Nat → Option (V × List Nat) → Option Eff2
  | none, some (v', []) => if rwT u = true ∧ memN (tb u / 100) ex = false ∧ v'.cells.length = n ∧ v'.cells.all V.pm = true then
      (if off + n ≤ cs.length then some (.est (tb u) m i (cs.take off ++ v'.cells ++ cs.drop (off + n))) else none) else none
  | _, _ => none
@[simp] theorem esE_some {u m i off n : Nat} {cs : List V} {v' : V} : esE u m i off n cs ex none (some (v', [])) = if rwT u = true ∧ memN (tb u / 100) ex = false ∧ v'.cells.length = n ∧ v'.cells.all V.pm = true then
      (if off + n ≤ cs.length then some (.est (tb u) m i (cs.take off ++ v'.cells ++ cs.drop (off + n))) else none) else none := rfl
def baE (n d : Nat) (ex : List Nat) (vs : List V) : Option (List (List V) × List Nat) → Option Eff2
  | some (es, ps) => if ps.all (fun u => !memN (tb u / 100) ex) = true ∧ d < 9999 then some (.mk (.sl (some (d * 100)) n es) (d * 100) (ps.map (surP (neTL vs)))) else none
  | none => none
@[simp] theorem baE_nil {n : Nat} {es : List (List V)} : baE n d ex vs (some (es, [])) = if d < 9999 then some (.mk (.sl (some (d * 100)) n es) (d * 100) []) else none := by
  by_cases h : d < 9999 <;> simp [baE, h]
@[simp] theorem baE_cons {n : Nat} {es : List (List V)} {p : Nat} {ps : List Nat} : baE n d ex vs (some (es, p :: ps)) = if (p :: ps).all (fun u => !memN (tb u / 100) ex) = true ∧ d < 9999 then some (.mk (.sl (some (d * 100)) n es) (d * 100) ((p :: ps).map (surP (neTL vs)))) else none := rfl
@[simp] theorem x_bsl {sz len : Nat} {z : List V} {ix : List Nat} : sem2 call bx ex d (.bsl sz z len ix) vs = baE sz d ex vs (fillE sz ix vs (List.replicate len z)) := by
  simp only [sem2]
  cases fillE sz ix vs (List.replicate len z) with
  | none => rfl
  | some p => obtain ⟨x, y⟩ := p; rfl
@[simp] theorem fillE_nil {sz : Nat} {es : List (List V)} : fillE sz [] [] es = some (es, []) := rfl
def slE (sz : Nat) (es : List (List V)) : Option (Nat × Nat) → Option Eff2
  | some (l, h) => some (.val (.sl none sz ((es.take h).drop l)))
  | none => none
def slF (u sz : Nat) (es : List (List V)) : Option (Nat × Nat) → Option Eff2
  | some (l, h) => some (.prot (.sl none sz ((es.take h).drop l)) [u])
  | none => none
@[simp] theorem slE_some {sz l h : Nat} {es : List (List V)} : slE sz es (some (l, h)) = some (.val (.sl none sz ((es.take h).drop l))) := rfl
@[simp] theorem slF_some {u sz l h : Nat} {es : List (List V)} : slF u sz es (some (l, h)) = some (.prot (.sl none sz ((es.take h).drop l)) [u]) := rfl
@[simp] theorem x_sls {sz : Nat} {es : List (List V)} {lo hi mx : Bool} {vs : List V} : sem2 call bx ex d (.sls sz lo hi mx) (.sl none sz es :: vs) = slE sz es (bounds es.length es.length lo hi mx vs) := by
  simp only [sem2, if_true]
  cases bounds es.length es.length lo hi mx vs with
  | none => rfl
  | some p => obtain ⟨x, y⟩ := p; rfl
@[simp] theorem x_sls_own {sz u : Nat} {es : List (List V)} {lo hi mx : Bool} {vs : List V} : sem2 call bx ex d (.sls sz lo hi mx) (.sl (some u) sz es :: vs) = if memN (tb u / 100) ex = false then slF u sz es (bounds es.length es.length lo hi mx vs) else none := by
  simp only [sem2, true_and]
  split
  · cases bounds es.length es.length lo hi mx vs with
    | none => rfl
    | some p => obtain ⟨x, y⟩ := p; rfl
  · rfl
@[simp] theorem bounds_lo {len : Nat} {k : IntKind} {i : Int} (h : 0 ≤ i ∧ i ≤ len) : bounds len len true false false [.int k i] = some (i.toNat, len) := by
  simp only [bounds, if_true, Bool.false_eq_true, if_false]
  rw [if_pos ⟨h.1, h.2, Int.le_refl _, Int.le_refl _⟩]; rfl
@[simp] theorem bounds_hi {len : Nat} {k : IntKind} {i : Int} (h : 0 ≤ i ∧ i ≤ len) : bounds len len false true false [.int k i] = some (0, i.toNat) := by
  simp only [bounds, if_true, Bool.false_eq_true, if_false]
  rw [if_pos ⟨Int.le_refl _, h.1, h.2, Int.le_refl _⟩]; rfl
@[simp] theorem bounds_lh {len : Nat} {k q : IntKind} {i j : Int} (h : 0 ≤ i ∧ i ≤ j ∧ j ≤ len) : bounds len len true true false [.int k i, .int q j] = some (i.toNat, j.toNat) := by
  simp only [bounds, if_true, Bool.false_eq_true, if_false]
  rw [if_pos ⟨h.1, h.2.1, h.2.2, Int.le_refl _⟩]
@[simp] theorem bounds_all {len : Nat} : bounds len len false false false [] = some (0, len) := by
  simp only [bounds, Bool.false_eq_true, if_false]
  rw [if_pos ⟨Int.le_refl _, by omega, Int.le_refl _, Int.le_refl _⟩]; rfl
@[simp] theorem x_mks {sz bytes : Nat} {z : List V} {k q : IntKind} {l c : Int} (h : 0 ≤ l ∧ l ≤ c ∧ c * bytes ≤ 140737488355328) : sem2 call bx ex d (.mks sz bytes z) [.int k l, .int q c] = if d < 9999 then some (.mk (.sl (some (d * 100)) sz (List.replicate l.toNat z)) (d * 100) []) else none := by
  simp only [sem2, h.1, h.2.1, h.2.2, true_and]
@[simp] theorem x_app_nil {dr : Bool} {sz bytes : Nat} {t : Option Nat} {ys : List (List V)} (h : ys.length * bytes ≤ 140737488355328) : sem2 call bx ex d (.append dr sz bytes) [.nil, .sl t sz ys] = if d < 9999 then some (if dr = true then .mk (.sl (some (2000000 + d * 100)) sz ys) (d * 100) [] else .mkg (.sl (some (2000000 + d * 100)) sz ys) d) else none := by
  simp only [sem2, elsOf, if_true, h, true_and]; split <;> (try split) <;> rfl
theorem app_eq {dr : Bool} {sz bytes u : Nat} {y : V} {xs ys : List (List V)} (hy : elsOf sz y = some ys) (h2 : (xs.length + ys.length) * bytes ≤ 140737488355328) : sem2 call bx ex d (.append dr sz bytes) [.sl (some u) sz xs, y] =
    if memN (tb u / 100) ex = false ∧ (mbT u = false ∨ tb u = d * 100) then some (if mbT u = true then (if dr = true then .app (.sl (some (unT u)) sz (xs ++ ys)) (d * 100) else .mkg (.sl (some (unT u)) sz (xs ++ ys)) d) else .app (.sl (some u) sz (xs ++ ys)) (tb u)) else none := by
  simp only [sem2, hy, true_and]
  cases hm : memN (tb u / 100) ex with
  | true => simp
  | false =>
    simp only [if_true, true_and]
    rw [if_pos h2]
    cases hb : mbT u with
    | false => simp
    | true =>
      simp only [if_true, Bool.true_eq_false, false_or]
      split <;> (try split) <;> rfl
@[simp] theorem x_mkmp : sem2 call bx ex d .mkmp [] = some (.val (.mbox [])) := rfl
def mlG (n : Int) : Option (List V) → Option Eff2
  | some cs => (match lookM cs n with
    | some .dead => none
    | some v => some (.val v)
    | none => if wellM cs = true then some (.val .nil) else none)
  | none => none
theorem x_mlook {s : Nat} {n : Int} (h : -9223372036854775808 ≤ n ∧ n ≤ 9223372036854775807) : sem2 call bx ex d .mlook [.mref s, .int .i64 n] = mlG n (bx (s + 1000000)) := by
  simp only [sem2, if_pos h]
  cases bx (s + 1000000) <;> rfl
theorem mlG_some {n : Int} {cs : List V} : mlG n (some cs) = (match lookM cs n with
    | some .dead => none
    | some v => some (.val v)
    | none => if wellM cs = true then some (.val .nil) else none) := rfl
def mpG (s : Nat) (n : Int) (v : V) : Option (List V) → Option Eff2
  | some cs => if wellM cs = true then some (.msto s (setM cs n v)) else none
  | none => none
@[simp] theorem mpG_some {s : Nat} {n : Int} {v : V} {cs : List V} : mpG s n v (some cs) = if wellM cs = true then some (.msto s (setM cs n v)) else none := rfl
theorem x_mput {s : Nat} {n : Int} {t : Option Nat} {sz : Nat} {es : List (List V)} (h : -9223372036854775808 ≤ n ∧ n ≤ 9223372036854775807) : sem2 call bx ex d .mput [.mref s, .int .i64 n, .sl t sz es] = mpG s n (.sl t sz es) (bx (s + 1000000)) := by
  simp only [sem2, if_pos h]
  cases bx (s + 1000000) <;> rfl
theorem x_appo {sz bytes u : Nat} {t : Option Nat} {xs ys : List (List V)} (h2 : (xs.length + ys.length) * bytes ≤ 140737488355328) (hne : xs ≠ []) : sem2 call bx ex d (.appo sz bytes) [.sl (some u) sz xs, .sl t sz ys] =
    if memN (tb u / 100) ex = false then some (.app (.sl (some u) sz (xs ++ ys)) (tb u)) else none := by
  simp [sem2, elsOf, h2, hne]
@[simp] theorem x_app {dr : Bool} {sz bytes u : Nat} {t : Option Nat} {xs ys : List (List V)} (h2 : (xs.length + ys.length) * bytes ≤ 140737488355328) : sem2 call bx ex d (.append dr sz bytes) [.sl (some u) sz xs, .sl t sz ys] =
    if memN (tb u / 100) ex = false ∧ (mbT u = false ∨ tb u = d * 100) then some (if mbT u = true then (if dr = true then .app (.sl (some (unT u)) sz (xs ++ ys)) (d * 100) else .mkg (.sl (some (unT u)) sz (xs ++ ys)) d) else .app (.sl (some u) sz (xs ++ ys)) (tb u)) else none :=
  app_eq (by simp only [elsOf, if_true]) h2
@[simp] theorem x_store_own {n u m i off : Nat} {root : Option Nat} {cs : List V} {v : V} : sem2 call bx ex d (.store n root) [.eref u m i off cs, v] = esE u m i off n cs ex root v.frzE := by
  simp only [sem2]
  cases root with
  | some r => rfl
  | none =>
    cases v.frzE with
    | none => rfl
    | some p =>
      obtain ⟨v', l⟩ := p
      cases l with
      | cons _ _ => rfl
      | nil =>
        simp only [esE, splice]
        split
        · rename_i h
          rw [h.2.2.1]
          by_cases hl : off + n ≤ cs.length <;> simp [hl]
        · rfl
/-! ### What is not known parts the ways -/
section
variable {P : Prop} [Decidable P]
@[simp low] theorem goG_bool (b c : Bool) : goG call dst k xs ex is σ b (some (.bool c)) = if c = true then goG call dst k xs ex is σ b (some (.bool true)) else goG call dst k xs ex is σ b (some (.bool false)) := by cases c <;> rfl
@[simp low] theorem conE_bool {a b : LCode} (c : Bool) : conE call N a b σ (some (.bool c)) = if c = true then evC2 call N a σ else evC2 call N b σ := by cases c <;> rfl
@[simp low] theorem x_pick_b {c : Bool} {a b : V} : sem2 call bx ex d .pick [.bool c, a, b] = if c = true then some (.val a) else some (.val b) := by cases c <;> rfl
@[simp] theorem goE_ite {x y : Option Eff2} : goE call dst is σ (if P then x else y) = if P then goE call dst is σ x else goE call dst is σ y := by split <;> rfl
@[simp] theorem regE_ite {kn : Nat} {kp : List Nat} {x y : Option St} : regE kn kp (if P then x else y) = if P then regE kn kp x else regE kn kp y := by split <;> rfl
@[simp] theorem seqE_ite {b : LCode} {x y : Option (Ex × St)} : seqE call N b (if P then x else y) = if P then seqE call N b x else seqE call N b y := by split <;> rfl
@[simp] theorem blkE_ite {id : Nat} {x y : Option (Ex × St)} : blkE id (if P then x else y) = if P then blkE id x else blkE id y := by split <;> rfl
@[simp] theorem endE_ite {it : Bool} {res : List RV} {x y : Option (Ex × St)} : endE it res (if P then x else y) = if P then endE it res x else endE it res y := by split <;> rfl
@[simp] theorem caR_ite {d : Nat} {dr al mk : Bool} {x y : Option V} : caR d dr al mk (if P then x else y) = if P then caR d dr al mk x else caR d dr al mk y := by split <;> rfl
end
@[simp] theorem valO2_some {v : V} : valO2 (some v) = some (.val v) := rfl
@[simp] theorem dst_getD {n m : Nat} : (some n).getD m = n := rfl
def opV (s : Nat) : Option V → Option V
  | some (.box _) => some (.ref s 0)
  | some (.mbox _) => some (.mref s)
  | some .dead => none
  | r => r
@[simp] theorem opd_c {fr : List (Nat × V)} {v : V} : opd fr (.c v) = some v := rfl
@[simp] theorem opd_f {fr : List (Nat × V)} {n : Nat} : opd fr (.f n) = some (.fn (.f n) []) := rfl
@[simp] theorem opd_t {fr : List (Nat × V)} {s : Nat} : opd fr (.t s) = opV s (get fr s) := by
  simp only [opd]
  cases get fr s with
  | none => rfl
  | some v => cases v <;> rfl
@[simp] theorem opV_mbox {s : Nat} {cs : List V} : opV s (some (.mbox cs)) = some (.mref s) := rfl
@[simp] theorem opV_mref {s t : Nat} : opV s (some (.mref t)) = some (.mref t) := rfl
@[simp] theorem opV_box {s : Nat} {cs : List V} : opV s (some (.box cs)) = some (.ref s 0) := rfl
@[simp] theorem opV_int {s : Nat} {k : IntKind} {n : Int} : opV s (some (.int k n)) = some (.int k n) := rfl
@[simp] theorem opV_bool {s : Nat} {b : Bool} : opV s (some (.bool b)) = some (.bool b) := rfl
@[simp] theorem opV_agg {s : Nat} {cs : List V} : opV s (some (.agg cs)) = some (.agg cs) := rfl
@[simp] theorem opV_tup {s : Nat} {cs : List V} : opV s (some (.tup cs)) = some (.tup cs) := rfl
@[simp] theorem opV_nil {s : Nat} : opV s (some .nil) = some .nil := rfl
@[simp] theorem opV_und {s : Nat} : opV s (some .und) = some .und := rfl
@[simp] theorem opV_sl {s : Nat} {t : Option Nat} {sz : Nat} {es : List (List V)} : opV s (some (.sl t sz es)) = some (.sl t sz es) := rfl
@[simp] theorem opV_fn {s : Nat} {f : Fk} {cs : List V} : opV s (some (.fn f cs)) = some (.fn f cs) := rfl
@[simp] theorem opV_ref {s a b : Nat} : opV s (some (.ref a b)) = some (.ref a b) := rfl
@[simp] theorem opV_gref {s : Nat} {cs : List V} : opV s (some (.gref cs)) = some (.gref cs) := rfl
@[simp] theorem opV_np {s : Nat} : opV s (some .np) = some .np := rfl
@[simp] theorem opV_cref {s : Nat} {cs : List V} : opV s (some (.cref cs)) = some (.cref cs) := rfl
@[simp] theorem opV_eref {s t n i o : Nat} {cs : List V} : opV s (some (.eref t n i o cs)) = some (.eref t n i o cs) := rfl
def opsC (v : Option V) (vs : Option (List V)) : Option (List V) := match v, vs with
  | some v, some vs => some (v :: vs)
  | _, _ => none
@[simp] theorem opsC_some {v : V} {vs : List V} : opsC (some v) (some vs) = some (v :: vs) := rfl
@[simp] theorem opds_nil {fr : List (Nat × V)} : opds fr [] = some [] := rfl
@[simp] theorem opds_cons {fr : List (Nat × V)} {x : Opd} {xs : List Opd} : opds fr (x :: xs) = opsC (opd fr x) (opds fr xs) := by
  simp only [opds, opsC]
  cases opd fr x <;> cases opds fr xs <;> rfl
@[simp] theorem frzL_nil {rd : Nat → Option (List V)} : frzL rd [] = some [] := rfl
@[simp] theorem frzL_cons {rd : Nat → Option (List V)} {v : V} {vs : List V} : frzL rd (v :: vs) = opsC (v.frz rd) (frzL rd vs) := by
  simp only [frzL, opsC]
  cases v.frz rd <;> cases frzL rd vs <;> rfl
def bxV : Option V → Option (List V)
  | some (.box cs) => some cs
  | _ => none
@[simp] theorem bxV_some {cs : List V} : bxV (some (.box cs)) = some cs := rfl
def mbV : Option V → Option (List V)
  | some (.mbox cs) => some cs
  | _ => none
@[simp] theorem mbV_some {cs : List V} : mbV (some (.mbox cs)) = some cs := rfl
@[simp] theorem bxOf_eq {fr : List (Nat × V)} {ex : List Nat} {s : Nat} : bxOf fr ex s = if s < 1000000 then (if memN s ex = true then none else bxV (get fr s)) else (if memN (s - 1000000) ex = true then none else mbV (get fr (s - 1000000))) := by
  unfold bxOf
  split
  · split
    · rfl
    · cases get fr s with
      | none => rfl
      | some v => cases v <;> rfl
  · split
    · rfl
    · cases get fr (s - 1000000) with
      | none => rfl
      | some v => cases v <;> rfl
def bxG (bx : Nat → Option (List V)) (n : Nat) : Option (List V) → Option (List V)
  | some cs => frzL (bxF bx n) cs
  | none => none
@[simp] theorem bxG_some {n : Nat} {cs : List V} : bxG bx n (some cs) = frzL (bxF bx n) cs := rfl
@[simp] theorem bxF_succ {n s : Nat} : bxF bx (n + 1) s = if s < 1000000 then bxG bx n (bx s) else none := by
  simp only [bxF]; cases bx s <;> rfl
end
@[simp] theorem flatE_ints (xs : List Int) : flatE (xs.map fun x => [V.int .i64 x]) = true := by simp [flatE, V.flat]
@[simp] theorem flatE_nil : flatE [] = true := rfl
section
variable {f : Nat → Nat} {u : Nat} {e : List V} {es : List (List V)}
@[simp] theorem keepN_nil : keepN f u [] = if mbT u = true then u else f u := rfl
@[simp] theorem keepN_cons : keepN f u (e :: es) = f u := by simp [keepN]
@[simp] theorem keepN_nn (h : mbT u = false) : keepN f u es = f u := by simp [keepN, h]
@[simp] theorem keepN_same (h : f u = u) : keepN f u es = u := by
  unfold keepN
  split
  · cases es <;> simp [h]
  · exact h
@[simp] theorem mod_keepN_ro : keepN roT u es % 1000000 = u % 1000000 := tb_keepN tb_roT u es
@[simp] theorem mod_keepN_ru : keepN ruT u es % 1000000 = u % 1000000 := tb_keepN tb_ruT u es
@[simp] theorem mod_keepN_roU {ps : List Nat} : keepN (roU ps) u es % 1000000 = u % 1000000 := tb_keepN (tb_roU ps) u es
@[simp high] theorem tb_keepN_ro : tb (keepN roT u es) = tb u := tb_keepN tb_roT u es
@[simp high] theorem tb_keepN_ru : tb (keepN ruT u es) = tb u := tb_keepN tb_ruT u es
@[simp high] theorem tb_keepN_roU {ps : List Nat} : tb (keepN (roU ps) u es) = tb u := tb_keepN (tb_roU ps) u es
@[simp high] theorem mb_keepN_ro : mbT (keepN roT u es) = mbT u := mb_keepN mb_roT u es
@[simp high] theorem mb_keepN_ru : mbT (keepN ruT u es) = mbT u := mb_keepN mb_ruT u es
@[simp high] theorem mb_keepN_roU {ps : List Nat} : mbT (keepN (roU ps) u es) = mbT u := mb_keepN (mb_roU ps) u es
end
attribute [simp] List.getElem?_cons_zero List.getElem?_cons_succ
attribute [simp] params deadL liveL prep2 prepG prS surP neTL V.neT killT killG roF roA ruA roU exB estT mpF V.mp mpL get put putO partV binV2 binV binI binS unV nilCmp apply2 keepL dropL memN V.frz frzEL V.frzE V.pureR pureRL V.tks tksL V.al alL V.rn rnL distinctN fill splice fillE V.cells V.cellOk V.pm eqSh intsOf maxL minL ranged finish2 result2 givL V.giv givC givB V.plainR plainRL apartT bxOf rvs finL2 V.fin2 one goesOn tb rwT mbT roX roT ruT unT roundE_eq putA itemsOf itemsL tupsL caR
end Go.Lo

/- The base of the statements over the layers. -/
namespace Go.Lo
open Go.Proofs
set_option linter.unusedSimpArgs false
/-- Rows of one integer each: one of them, or two. -/
def catI : List V → Option V
  | [.sl none 1 [[.sl none 1 [[.int .i64 a]]]]] => some (.sl (some 2000000) 1 [[.int .i64 a]])
  | [.sl none 1 [[.sl none 1 [[.int .i64 a]]], [.sl none 1 [[.int .i64 b]]]]] => some (.sl (some 2000000) 1 [[.int .i64 a], [.int .i64 b]])
  | _ => none
def F2 : Nat → Option (List V → Option V)
  | 76 => some catI
  | _ => none
noncomputable abbrev R : Nat → List V → Option V := run2 F2 C2
end Go.Lo

/- Lists put together on the first machine. -/
namespace Go.Lo
open Go.Proofs
set_option linter.unusedSimpArgs false
theorem run1_catI (a : Int) : run Ft Ct 76 [.sl none 1 [[.sl none 1 [[.int .i64 a]]]]] = some (.sl (some 0) 1 [[.int .i64 a]]) := run_of (n := 30) (by kernel_rfl)
theorem run1_catI2 (a b : Int) : run Ft Ct 76 [.sl none 1 [[.sl none 1 [[.int .i64 a]]], [.sl none 1 [[.int .i64 b]]]]] = some (.sl (some 0) 1 [[.int .i64 a], [.int .i64 b]]) := run_of (n := 30) (by kernel_rfl)
end Go.Lo

/- Arguments that read as data, for the plain machine. -/
namespace Go.Lo
def i64r (n : Int) : Prop := -9223372036854775808 ≤ n ∧ n ≤ 9223372036854775807
theorem wf_i64r {n : Int} (h : (Lit.int .i64 n).wf = true) : i64r n := by
  simp [Lit.wf, IntKind.min, IntKind.max, IntKind.bits, IntKind.signed] at h
  unfold i64r
  omega
theorem relL_ints (k : IntKind) : ∀ xs : List Int, RelL (xs.map fun x => .int k x) noT (xs.map fun x => .int k x)
  | [] => RelL.nil
  | x :: xs => by rw [List.map_cons]; exact RelL.cons (by simp only [Rel]) (relL_ints k xs)
theorem relE_eI1 : ∀ xs : List Int, RelE (eI xs) (eI xs)
  | [] => by simp [RelE]
  | x :: xs => by
    have := relE_eI1 xs
    simp only [List.map_cons] at this ⊢
    exact RelE.cons (RelL.one (by simp only [Rel])) this
theorem can_ints {v : V} (h : HasC (.sl (.int .i64)) [v]) : ∃ xs : List Int, Rel (S 1 (eI xs)) noT v ∧ ∀ x ∈ xs, i64r x := by
  simp only [HasC] at h
  rcases h with h | ⟨es, h, _, he⟩
  · injection h with h _
    subst h
    exact ⟨[], by rw [Rel]; left; exact ⟨rfl, rfl⟩, fun x hx => by cases hx⟩
  · injection h with h _
    subst h
    have key : ∀ es : List (List V), (∀ x ∈ es, ∃ n, x = [V.int .i64 n] ∧ (Lit.int .i64 n).wf = true) → ∃ xs : List Int, es = eI xs ∧ ∀ x ∈ xs, i64r x := by
      intro es
      induction es with
      | nil => exact fun _ => ⟨[], rfl, fun x hx => by cases hx⟩
      | cons e es ih =>
        intro h
        obtain ⟨n, h1, h2⟩ := h e (by simp)
        obtain ⟨xs, g1, g2⟩ := ih fun x hx => h x (by simp [hx])
        subst h1
        refine ⟨n :: xs, by simp [g1], fun x hx => ?_⟩
        rcases List.mem_cons.1 hx with rfl | hx
        · exact wf_i64r h2
        · exact g2 x hx
    obtain ⟨xs, rfl, hx⟩ := key es he
    exact ⟨xs, by rw [Rel]; right; exact ⟨_, rfl, relE_eI1 xs⟩, hx⟩
theorem can_rows {v : V} (h : HasC (.sl (.sl (.int .i64))) [v]) : ∃ rs : List (List Int), Rel (S 1 (rs.map fun r => [S 1 (eI r)])) noT v ∧ ∀ r ∈ rs, ∀ x ∈ r, i64r x := by
  rw [HasC] at h
  rcases h with h | ⟨es, h, _, he⟩
  · injection h with h _
    subst h
    exact ⟨[], by rw [Rel]; left; exact ⟨rfl, rfl⟩, fun x hx => by cases hx⟩
  · injection h with h _
    subst h
    have key : ∀ es : List (List V), (∀ x ∈ es, HasC (.sl (.int .i64)) x) → ∃ rs : List (List Int), RelE (rs.map fun r => [S 1 (eI r)]) es ∧ ∀ r ∈ rs, ∀ x ∈ r, i64r x := by
      intro es
      induction es with
      | nil => exact fun _ => ⟨[], by simp [RelE], fun x hx => by cases hx⟩
      | cons e es ih =>
        intro h
        have h1 := h e (by simp)
        obtain ⟨v, rfl⟩ : ∃ v, e = [v] := by
          simp only [HasC] at h1
          rcases h1 with h1 | ⟨_, h1, _⟩ <;> exact ⟨_, h1⟩
        obtain ⟨xs, hx, hb⟩ := can_ints h1
        obtain ⟨rs, g1, g2⟩ := ih fun x hx => h x (by simp [hx])
        refine ⟨xs :: rs, by rw [List.map_cons]; exact RelE.cons (RelL.one hx) g1, fun r hr => ?_⟩
        rcases List.mem_cons.1 hr with rfl | hr
        · exact hb
        · exact g2 r hr
    obtain ⟨rs, hr, hb⟩ := key es he
    exact ⟨rs, by rw [Rel]; right; exact ⟨_, rfl, hr⟩, hb⟩
theorem can_arr {k : IntKind} {n : Nat} {v : V} (h : HasV (.arr n (.int k)) v) : ∃ xs : List Int, xs.length = n ∧ v = .agg (xs.map fun x => .int k x) ∧ ∀ x ∈ xs, (Lit.int k x).wf = true := by
  simp only [HasV, HasC] at h
  obtain ⟨cs, rfl, es, rfl, rfl, he⟩ := h
  have key : ∀ es : List (List V), (∀ x ∈ es, ∃ n, x = [V.int k n] ∧ (Lit.int k n).wf = true) → ∃ xs : List Int, xs.length = es.length ∧ es.flatten = xs.map (fun x => .int k x) ∧ ∀ x ∈ xs, (Lit.int k x).wf = true := by
    intro es
    induction es with
    | nil => exact fun _ => ⟨[], rfl, rfl, fun x hx => by cases hx⟩
    | cons e es ih =>
      intro h
      obtain ⟨n, h1, h2⟩ := h e (by simp)
      obtain ⟨xs, g1, g2, g3⟩ := ih fun x hx => h x (by simp [hx])
      subst h1
      refine ⟨n :: xs, by simp [g1], by simp [g2], fun x hx => ?_⟩
      rcases List.mem_cons.1 hx with rfl | hx
      · exact h2
      · exact g3 x hx
  obtain ⟨xs, g1, g2, g3⟩ := key es he
  exact ⟨xs, g1, by rw [g2], g3⟩
theorem can_int {k : IntKind} {v : V} (h : HasV (.int k) v) : ∃ n, v = .int k n ∧ (Lit.int k n).wf = true := by
  simp only [HasV, HasC] at h
  obtain ⟨n, h, w⟩ := h
  injection h with h _
  exact ⟨n, h, w⟩
theorem can_bool {v : V} (h : HasV .bool v) : ∃ b, v = .bool b := by
  simp only [HasV, HasC] at h
  obtain ⟨n, h⟩ := h
  injection h with h _
  exact ⟨n, h⟩
theorem HasCs.inv {t : Ty} {ts : List Ty} {cs : List V} (h : HasCs (t :: ts) cs) : ∃ a b, cs = a ++ b ∧ HasC t a ∧ HasCs ts b := by rw [HasCs] at h; exact h
theorem HasC.sl1 {t : Ty} {x : List V} (hx : HasC (.sl t) x) : ∃ v, x = [v] := by
  rw [HasC] at hx
  rcases hx with hx | ⟨_, hx, _⟩ <;> exact ⟨_, hx⟩
end Go.Lo

/- More arguments that read as data. -/
namespace Go.Lo
theorem wf_u8 {n : Int} (h : (Lit.int .u8 n).wf = true) : 0 ≤ n ∧ n ≤ 255 := by
  simp [Lit.wf, IntKind.min, IntKind.max, IntKind.bits, IntKind.signed] at h; omega
theorem wf_u16 {n : Int} (h : (Lit.int .u16 n).wf = true) : 0 ≤ n ∧ n ≤ 65535 := by
  simp [Lit.wf, IntKind.min, IntKind.max, IntKind.bits, IntKind.signed] at h; omega
theorem wf_i8 {n : Int} (h : (Lit.int .i8 n).wf = true) : -128 ≤ n ∧ n ≤ 127 := by
  simp [Lit.wf, IntKind.min, IntKind.max, IntKind.bits, IntKind.signed] at h; omega
theorem wf_i16 {n : Int} (h : (Lit.int .i16 n).wf = true) : -32768 ≤ n ∧ n ≤ 32767 := by
  simp [Lit.wf, IntKind.min, IntKind.max, IntKind.bits, IntKind.signed] at h; omega
/-- A slice whose elements are told by things of a type, each of which stands for its cells. -/
theorem can_sl {α : Type} {t : Ty} {E : α → List V} {Q : α → Prop} {v : V} (h : HasC (.sl t) [v]) (he : ∀ x, HasC t x → ∃ a, RelL (E a) noT x ∧ Q a) : ∃ l : List α, Rel (S t.cells (l.map E)) noT v ∧ ∀ a ∈ l, Q a := by
  rw [HasC] at h
  rcases h with h | ⟨es, h, _, hes⟩
  · injection h with h _
    subst h
    exact ⟨[], by rw [Rel]; left; exact ⟨rfl, rfl⟩, fun x hx => by cases hx⟩
  · injection h with h _
    subst h
    have key : ∀ es : List (List V), (∀ x ∈ es, HasC t x) → ∃ l : List α, RelE (l.map E) es ∧ ∀ a ∈ l, Q a := by
      intro es
      induction es with
      | nil => exact fun _ => ⟨[], by simp [RelE], fun x hx => by cases hx⟩
      | cons e es ih =>
        intro h
        obtain ⟨a, h1, h2⟩ := he e (h e (by simp))
        obtain ⟨l, g1, g2⟩ := ih fun x hx => h x (by simp [hx])
        refine ⟨a :: l, by rw [List.map_cons]; exact RelE.cons h1 g1, fun x hx => ?_⟩
        rcases List.mem_cons.1 hx with rfl | hx
        · exact h2
        · exact g2 x hx
    obtain ⟨l, hr, hb⟩ := key es hes
    exact ⟨l, by rw [Rel]; right; exact ⟨_, rfl, hr⟩, hb⟩
theorem can_intsK {k : IntKind} {v : V} (h : HasC (.sl (.int k)) [v]) : ∃ xs : List Int, Rel (S 1 (xs.map fun x => [V.int k x])) noT v ∧ ∀ x ∈ xs, (Lit.int k x).wf = true :=
  can_sl (E := fun x => [V.int k x]) (Q := fun x => (Lit.int k x).wf = true) h fun x hx => by
    simp only [HasC] at hx
    obtain ⟨n, rfl, hn⟩ := hx
    exact ⟨n, RelL.one (by simp only [Rel]), hn⟩
theorem can_arrs {k : IntKind} {n : Nat} {v : V} (h : HasC (.sl (.arr n (.int k))) [v]) : ∃ rs : List (List Int), Rel (S n (rs.map fun r => r.map fun x => V.int k x)) noT v ∧ ∀ r ∈ rs, r.length = n ∧ ∀ x ∈ r, (Lit.int k x).wf = true := by
  have := can_sl (E := fun r : List Int => r.map fun x => V.int k x) (Q := fun r => r.length = n ∧ ∀ x ∈ r, (Lit.int k x).wf = true) h fun x hx => by
    obtain ⟨xs, h1, h2, h3⟩ := can_arr (k := k) (n := n) (v := .agg x) (by simp only [HasV]; exact ⟨x, rfl, hx⟩)
    injection h2 with h2
    exact ⟨xs, by rw [h2]; exact relL_ints k xs, h1, h3⟩
  rwa [show (Ty.arr n (.int k)).cells = n from by simp [Ty.cells]] at this
theorem rel_aggK (k : IntKind) (xs : List Int) : Rel (.agg (xs.map fun x => .int k x)) noT (.agg (xs.map fun x => .int k x)) := by
  rw [Rel]
  exact ⟨_, rfl, relL_ints k xs⟩
theorem rel_int (k : IntKind) (n : Int) : Rel (.int k n) noT (.int k n) := by rw [Rel]
theorem rel_bool (b : Bool) : Rel (.bool b) noT (.bool b) := by rw [Rel]
end Go.Lo

/- The plain machine's table is a table of the first machine; threads and spans as arguments. -/
namespace Go.Lo
open Go.Proofs
set_option linter.unusedSimpArgs false
theorem sl_inv {n : Nat} {e : List V} {es : List (List V)} {v : V} (h : Rel (.sl none n (e :: es)) noT v) : ∃ d r, v = .sl none n (d :: r) ∧ RelL e noT d ∧ RelE es r := by
  simp only [Rel] at h
  rcases h with ⟨h, _⟩ | ⟨es', rfl, he⟩
  · cases h
  · simp only [RelE] at he
    obtain ⟨d, r, rfl, h1, h2⟩ := he
    exact ⟨d, r, rfl, h1, h2⟩
theorem int_inv {a : Int} {v : V} (h : Rel (.sl none 1 [[.int .i64 a]]) noT v) : v = .sl none 1 [[.int .i64 a]] := by
  obtain ⟨d, r, rfl, h1, h2⟩ := sl_inv h
  simp only [RelE] at h2
  subst h2
  obtain ⟨v, rfl, h3⟩ := RelL.inv1 h1
  simp only [Rel] at h3
  subst h3; rfl
theorem relE_ints : ∀ xs : List Int, RelE (xs.map fun x => [V.int .i64 x]) (xs.map fun x => [V.int .i64 x])
  | [] => RelE.nil
  | x :: xs => RelE.cons (RelL.one (by simp only [Rel])) (relE_ints xs)
theorem catI_rel {as2 as1 : List V} {r2 : V} (h : catI as2 = some r2) (ha : RelL as2 noT as1) : ∃ r, run Ft Ct 76 as1 = some r ∧ RelR r2 r ∧ ∀ l2, itemsOf (some r2) = some l2 → ∃ l, itemsOf (some r) = some l ∧ RelE l2 l := by
  unfold catI at h
  split at h
  · rename_i a
    injection h with h
    subst h
    obtain ⟨v, rfl, hv⟩ := RelL.inv1 ha
    obtain ⟨d1, r1, rfl, hd1, hr1⟩ := sl_inv hv
    simp only [RelE] at hr1
    subst hr1
    obtain ⟨s1, rfl, hs1⟩ := RelL.inv1 hd1
    have := int_inv hs1
    subst this
    refine ⟨_, run1_catI _, ?_, fun l2 h => by simp [itemsOf] at h⟩
    have hr : ∀ ρ : TkF, ρ 0 = some (1, true) → Rel (.sl (some 2000000) 1 [[.int .i64 a]]) ρ (.sl (some 0) 1 [[.int .i64 a]]) := fun ρ hρ => by
      rw [Rel]; right
      exact ⟨_, rfl, relE_ints [a], true, hρ, fun _ => rfl, fun h => by simp [roX] at h, fun _ => by simp⟩
    exact ⟨⟨fun _ => some (1, true), hr _ rfl⟩, fun ρ h => hr ρ (h 0 _ (by simp [V.tks]))⟩
  · rename_i a b
    injection h with h
    subst h
    obtain ⟨v, rfl, hv⟩ := RelL.inv1 ha
    obtain ⟨d1, r1, rfl, hd1, hr1⟩ := sl_inv hv
    simp only [RelE] at hr1
    obtain ⟨d2, r2, rfl, hd2, rfl⟩ := hr1
    obtain ⟨s1, rfl, hs1⟩ := RelL.inv1 hd1
    obtain ⟨s2, rfl, hs2⟩ := RelL.inv1 hd2
    have := int_inv hs1
    subst this
    have := int_inv hs2
    subst this
    refine ⟨_, run1_catI2 _ _, ?_, fun l2 h => by simp [itemsOf] at h⟩
    have hr : ∀ ρ : TkF, ρ 0 = some (2, true) → Rel (.sl (some 2000000) 1 [[.int .i64 a], [.int .i64 b]]) ρ (.sl (some 0) 1 [[.int .i64 a], [.int .i64 b]]) := fun ρ hρ => by
      rw [Rel]; right
      exact ⟨_, rfl, relE_ints [a, b], true, hρ, fun _ => rfl, fun h => by simp [roX] at h, fun _ => by simp⟩
    exact ⟨⟨fun _ => some (2, true), hr _ rfl⟩, fun ρ h => hr ρ (h 0 _ (by simp [V.tks]))⟩
  · cases h
theorem tabR : TabR F2 Ft C2 Ct := by
  refine ⟨fun f g2 as2 r2 as1 h1 h2 h3 => ?_, fun f lf h1 h2 => ⟨rfl, tabC f lf h2⟩⟩
  unfold F2 at h1
  split at h1
  · injection h1 with h1
    subst h1
    exact catI_rel h2 h3
  · cases h1
end Go.Lo

/- Threads are checked. -/
namespace Go.Lo
open Go.Proofs
set_option linter.unusedSimpArgs false
set_option maxHeartbeats 4000000
/-! ### The first of a list for which a function says so -/
theorem p77 {α : Type} {E : α → List V} {W : α → V} {g : Nat} {caps : List V} {pr : α → Bool} (hc : ∀ rd, frzL rd caps = some caps) {xs : List α} (hE : ∀ x ∈ xs, partV (E x) 0 none = some (W x) ∧ (∀ rd, (W x).frz rd = some (W x)) ∧ ∀ s, opV s (some (W x)) = some (W x)) (hp : ∀ x ∈ xs, R g (W x :: caps) = some (B (pr x))) (hl : xs.length < 4611686018427387904) :
    R 77 [S 1 (xs.map E), .fn (.f g) caps] = some (I (match xs.findIdx? pr with | none => -1 | some k => k)) := by
  have L := loop_find (s := fun i => { fr := [(0, S 1 (xs.map E)), (1, .fn (.f g) caps), (7, I xs.length), (8, I i)], tk := [] }) (f := evC2 R (xs.length + 1) b77_0) (n := xs.length) (g := prAt pr xs) (E := fun i => (.ret, { fr := [(4, I i)], tk := [] })) (X := (.exit 0, { fr := [(0, S 1 (xs.map E)), (1, .fn (.f g) caps), (7, I xs.length), (8, I xs.length), (9, B false)], tk := [] }))
    (fun i hi => by
      have h1 : xs[i]? = some xs[i] := List.getElem?_eq_getElem hi
      have hm : xs[i] ∈ xs := List.getElem_mem hi
      have hp' := hp _ hm
      obtain ⟨h2, h3, h4⟩ := hE _ hm
      have hlt : (i : Int) < xs.length := by omega
      clear hp hE
      generalize xs[i] = x at *
      rw [prAt_some h1]
      generalize hw : W x = w at *
      cases hx : pr x <;> rw [hx] at hp' <;> simp (maxSteps := 2000000) (disch := first | omega | (simp; done) | (simp; omega)) [-getElem?_pos, -partV, b77_0, h1, h2, h3, h4, hc, hp', hlt, wrap64]) (fun _ => by simp) (by simp [b77_0]) (by simp) xs.length 0 (by omega)
  rw [find_idx] at L
  refine run2_body (xs.length + 1) rfl rfl rfl rfl rfl ?_
  cases hf : xs.findIdx? pr with
  | none =>
    rw [hf] at L
    simp at L
    simp [l77, L]
  | some k =>
    rw [hf] at L
    simp at L
    simp [l77, L]
theorem p64 {α : Type} {E : α → List V} {W : α → V} {g : Nat} {caps : List V} {pr : α → Bool} (hc : ∀ rd, frzL rd caps = some caps) {xs : List α} (hE : ∀ x ∈ xs, partV (E x) 0 none = some (W x) ∧ (∀ rd, (W x).frz rd = some (W x)) ∧ ∀ s, opV s (some (W x)) = some (W x)) (hp : ∀ x ∈ xs, R g (W x :: caps) = some (B (pr x))) (hl : xs.length < 4611686018427387904) :
    R 64 [S 1 (xs.map E), .fn (.f g) caps] = some (B (xs.any pr)) := by
  have h := p77 hc hE hp hl
  refine run2_body 1 rfl rfl rfl rfl rfl ?_
  cases hf : xs.findIdx? pr with
  | none =>
    rw [hf] at h
    have : xs.any pr = false := by
      rw [List.findIdx?_eq_none_iff] at hf
      rw [List.any_eq_false]; simpa using hf
    simp [l64, h, hc, this]
  | some k =>
    rw [hf] at h
    have : xs.any pr = true := by
      have := List.findIdx?_isSome (xs := xs) (p := pr)
      rw [hf] at this
      exact this.symm
    simp (maxSteps := 2000000) (disch := first | omega | (simp; done) | (simp; omega)) [l64, h, hc, this]

theorem p65 (x lo hi : Int) : R 65 [I x, .cref [I lo], .cref [I hi]] = some (B (decide (x < lo) || decide (x > hi))) := by
  refine run2_body 1 rfl rfl rfl rfl rfl ?_
  by_cases h : x < lo <;> simp [l65, h]
theorem p35 (lo hi : Int) {xs : List Int} (hl : xs.length < 4611686018427387904) : R 35 [I lo, I hi, S 1 (eI xs)] = some (B (xs.all fun x => decide (lo ≤ x ∧ x ≤ hi))) := by
  have h := p64 (g := 65) (caps := [.cref [I lo], .cref [I hi]]) (pr := fun x => decide (x < lo) || decide (x > hi)) (E := fun x => [I x]) (W := fun x => I x) (xs := xs) (fun _ => rfl) (fun _ _ => ⟨rfl, fun _ => rfl, fun _ => rfl⟩) (fun x _ => p65 x lo hi) hl
  refine run2_body 1 rfl rfl rfl rfl rfl ?_
  have e : (xs.all fun x => decide (lo ≤ x ∧ x ≤ hi)) = !(xs.any fun x => decide (x < lo) || decide (x > hi)) := by
    rw [List.not_any_eq_all_not]
    congr 1
    funext x
    by_cases h1 : x < lo <;> by_cases h2 : x > hi <;> simp [h1, h2] <;> omega
  rw [e]
  simp [l35, h]

abbrev eS (x : Int × Int) : V := .agg [I x.1, I x.2]
abbrev eS2 (l : List (Int × Int)) : List (List V) := l.map fun x => [I x.1, I x.2]
/-- A thread: turns, and how its flanks lean. -/
abbrev Thr := List (Int × Int) × Int × Int
abbrev eT (t : Thr) : List V := [S 2 (eS2 t.1), I t.2.1, I t.2.2]
theorem p35_1 (lo hi x : Int) : R 35 [I lo, I hi, S 1 [[I x]]] = some (B (decide (lo ≤ x ∧ x ≤ hi))) := by
  have := p35 lo hi (xs := [x]) (by simp)
  simpa using this
theorem p35_2 (lo hi x y : Int) : R 35 [I lo, I hi, S 1 [[I x], [I y]]] = some (B (decide ((lo ≤ x ∧ x ≤ hi) ∧ (lo ≤ y ∧ y ≤ hi)))) := by
  have := p35 lo hi (xs := [x, y]) (by simp)
  simpa using this
theorem p66 (s : Int × Int) (lo hi : Int) : R 66 [eS s, I lo, I hi] = some (B (decide (lo ≤ s.1 ∧ s.1 ≤ s.2 ∧ s.2 ≤ hi))) := by
  have e1 := p35_2 lo hi s.1 s.2
  refine run2_body 1 rfl rfl rfl rfl rfl ?_
  rw [show decide (lo ≤ s.1 ∧ s.1 ≤ s.2 ∧ s.2 ≤ hi) = (decide (s.1 ≤ s.2) && decide ((lo ≤ s.1 ∧ s.1 ≤ hi) ∧ (lo ≤ s.2 ∧ s.2 ≤ hi))) from by rw [Bool.eq_iff_iff]; simp; omega]
  generalize decide ((lo ≤ s.1 ∧ s.1 ≤ hi) ∧ (lo ≤ s.2 ∧ s.2 ≤ hi)) = q at *
  by_cases h : s.1 ≤ s.2 <;> simp (maxSteps := 2000000) (disch := first | omega | (simp; done) | (simp; omega)) [-getElem?_pos, l66, e1, h]
def dOk (d : Int × Int) : Bool := decide (-200000 ≤ d.1 ∧ d.1 ≤ d.2 ∧ d.2 ≤ 200000)
theorem p36 (d : Int × Int) : R 36 [eS d] = some (I (if dOk d = true then 0 else 3)) := by
  have e1 := p66 d (-200000) 200000
  rw [show decide (-200000 ≤ d.1 ∧ d.1 ≤ d.2 ∧ d.2 ≤ 200000) = dOk d from rfl] at e1
  generalize dOk d = q at *
  refine run2_body 1 rfl rfl rfl rfl rfl ?_
  cases q <;> simp (maxSteps := 2000000) (disch := first | omega | (simp; done) | (simp; omega)) [-getElem?_pos, l36, e1]
/-! ### What is checked -/
def turn (ts : List (Int × Int)) (i : Nat) : Int × Int := ts.getD i (0, 0)
def aftT (ts : List (Int × Int)) (i : Nat) : Int := if i = 0 then -10000000 else (turn ts (i - 1)).2
def turnB (ts : List (Int × Int)) (i : Nat) : Bool := decide ((aftT ts i ≤ (turn ts i).1 ∧ (turn ts i).1 ≤ 10000000) ∧ ((turn ts i).1 ≤ (turn ts i).2 ∧ (turn ts i).2 ≤ 10000000))
def leanB (l r : Int) : Bool := decide ((0 ≤ l ∧ l ≤ 3000) ∧ (0 ≤ r ∧ r ≤ 3000))
/-- The error of a thread. -/
def chkT (t : Thr) : Int :=
  if 60 < t.1.length then 5
  else if t.1 = [] ∨ leanB t.2.1 t.2.2 = false then 2
  else if (List.range t.1.length).all (turnB t.1) = true then 0 else 2
theorem turn_get {ts : List (Int × Int)} {i : Nat} (hi : i < ts.length) : ts[i]? = some (turn ts i) := by
  unfold turn
  simp [hi]
theorem all_find {n : Nat} {g : Nat → Bool} : (List.range n).all g = ((List.range n).find? fun i => !g i).isNone := by
  rw [Bool.eq_iff_iff, List.all_eq_true, Option.isNone_iff_eq_none, List.find?_eq_none]
  simp
theorem loop67_0 {ts : List (Int × Int)} (hl : ts.length ≤ 60) (M : Nat) :
    iter (evC2 R M b67_0) (ts.length + 1) { fr := [(3, I (-10000000)), (24, S 2 (eS2 ts)), (25, I ts.length), (26, I 0)], tk := [] } =
      if (List.range ts.length).all (turnB ts) = true then some (.exit 1, { fr := [(3, I (aftT ts ts.length)), (24, S 2 (eS2 ts)), (25, I ts.length), (26, I ts.length), (27, B false)], tk := [] })
      else some (.ret, { fr := [(2, I 2)], tk := [] }) := by
  have L := loop_if (s := fun i => { fr := [(3, I (aftT ts i)), (24, S 2 (eS2 ts)), (25, I ts.length), (26, I i)], tk := [] }) (f := evC2 R M b67_0) (n := ts.length) (g := fun i => !turnB ts i) (E := fun _ => (.ret, { fr := [(2, I 2)], tk := [] })) (X := (.exit 1, { fr := [(3, I (aftT ts ts.length)), (24, S 2 (eS2 ts)), (25, I ts.length), (26, I ts.length), (27, B false)], tk := [] }))
    (fun i hi => by
      have h1 := turn_get hi
      have haft : aftT ts (i + 1) = (turn ts i).2 := by simp [aftT]
      rw [haft]
      unfold turnB
      generalize turn ts i = x at *
      generalize aftT ts i = a at *
      have e1 := p35_1 a 10000000 x.1
      have e2 := p35_1 x.1 10000000 x.2
      by_cases c1 : a ≤ x.1 ∧ x.1 ≤ 10000000
      · by_cases c2 : x.1 ≤ x.2 ∧ x.2 ≤ 10000000
        · simp only [c1, c2, and_self, decide_true] at e1 e2
          simp (maxSteps := 2000000) (disch := first | omega | (simp; done) | (simp; omega)) [-getElem?_pos, b67_0, h1, hi, e1, e2, c1, c2, wrap64]
        · simp only [c1, c2, and_self, decide_true, decide_false] at e1 e2
          simp (maxSteps := 2000000) (disch := first | omega | (simp; done) | (simp; omega)) [-getElem?_pos, b67_0, h1, hi, e1, e2, c1, c2, wrap64]
      · simp only [c1, decide_false] at e1
        simp (maxSteps := 2000000) (disch := first | omega | (simp; done) | (simp; omega)) [-getElem?_pos, b67_0, h1, hi, e1, c1, wrap64]) (fun _ => by simp) (by simp (maxSteps := 2000000) (disch := first | omega | (simp; done) | (simp; omega)) [-getElem?_pos, b67_0]) (by simp)
  rw [← List.range_eq_range'] at L
  have h0 : aftT ts 0 = -10000000 := rfl
  simp only [h0] at L
  rw [show ((0 : Nat) : Int) = 0 from rfl] at L
  rw [L, all_find]
  cases (List.range ts.length).find? (fun i => !turnB ts i) <;> simp
theorem p67 (t : Thr) : R 67 [.agg (eT t)] = some (I (chkT t)) := by
  obtain ⟨ts, l, r⟩ := t
  have e1 := p35_2 0 3000 l r
  rw [show decide ((0 ≤ l ∧ l ≤ 3000) ∧ (0 ≤ r ∧ r ≤ 3000)) = leanB l r from rfl] at e1
  refine run2_body (ts.length + 1) rfl rfl rfl rfl rfl ?_
  unfold chkT
  simp only [eT]
  by_cases c1 : (ts.length : Int) > 60
  · have c1' : 60 < ts.length := by omega
    simp (maxSteps := 2000000) (disch := first | omega | (simp; done) | (simp; omega)) [-getElem?_pos, l67, c1, c1']
  · have c1' : ¬ 60 < ts.length := by omega
    by_cases c2 : ts = []
    · subst c2
      simp (maxSteps := 2000000) (disch := first | omega | (simp; done) | (simp; omega)) [-getElem?_pos, l67]
    · have c2' : ¬ ts.length = 0 := fun h => c2 (List.length_eq_zero_iff.1 h)
      have L := loop67_0 (ts := ts) (by omega) (ts.length + 1)
      generalize (List.range ts.length).all (turnB ts) = q at *
      generalize leanB l r = q2 at *
      cases q2
      · simp (maxSteps := 2000000) (disch := first | omega | (simp; done) | (simp; omega)) [-getElem?_pos, l67, c1, c1', c2, c2', e1]
      · cases q <;> simp at L <;> simp (maxSteps := 2000000) (disch := first | omega | (simp; done) | (simp; omega)) [-getElem?_pos, l67, c1, c1', c2, c2', e1, L]
/-- The first error of some threads, and of a depth. -/
def chkAll (d : Int × Int) (l : List Thr) : Int := match l.find? fun t => decide (chkT t ≠ 0) with
  | some t => chkT t
  | none => if dOk d = true then 0 else 3
theorem find_prAt {α : Type} (pr : α → Bool) (xs : List α) : (match (List.range' 0 xs.length).find? (prAt pr xs) with | some i => xs[i]? | none => none) = xs.find? pr := by
  rw [find_idx]
  cases h : xs.findIdx? pr with
  | none =>
    rw [List.findIdx?_eq_none_iff] at h
    symm
    rw [List.find?_eq_none]
    intro x hx
    rw [h x hx]; simp
  | some k =>
    obtain ⟨hk, h1, h2⟩ := List.findIdx?_eq_some_iff_getElem.1 h
    show xs[k]? = _
    rw [List.getElem?_eq_getElem hk]
    symm
    rw [List.find?_eq_some_iff_append]
    refine ⟨h1, xs.take k, xs.drop (k + 1), by rw [List.getElem_cons_drop]; exact (List.take_append_drop k xs).symm, fun a ha => ?_⟩
    obtain ⟨j, hj, rfl⟩ := List.mem_iff_getElem.1 ha
    rw [List.length_take] at hj
    have := h2 j (by omega)
    rw [List.getElem_take]
    simpa using this
theorem p40 (d : Int × Int) {l : List Thr} (hl : l.length ≤ 1000000) : R 40 [eS d, S 3 (l.map eT)] = some (I (chkAll d l)) := by
  have L := loop_if (s := fun i => { fr := [(2, .box [I d.1, I d.2]), (8, S 3 (l.map eT)), (9, I l.length), (10, I i)], tk := [] }) (f := evC2 R (l.length + 1) b40_0) (n := l.length) (g := prAt (fun t => decide (chkT t ≠ 0)) l) (E := fun i => (.ret, { fr := [(4, I (chkT (l.getD i ([], 0, 0))))], tk := [] })) (X := (.exit 0, { fr := [(2, .box [I d.1, I d.2]), (8, S 3 (l.map eT)), (9, I l.length), (10, I l.length), (11, B false)], tk := [] }))
    (fun i hi => by
      have h1 : l[i]? = some l[i] := List.getElem?_eq_getElem hi
      rw [prAt_some h1, show l.getD i ([], 0, 0) = l[i] by simp [hi]]
      have e1 := p67 l[i]
      generalize l[i] = t at *
      simp only [eT] at e1
      generalize chkT t = c at *
      by_cases hc : c = 0 <;> simp (maxSteps := 2000000) (disch := first | omega | (simp; done) | (simp; omega)) [-getElem?_pos, b40_0, eT, h1, hi, e1, hc, wrap64]) (fun _ => by simp) (by simp (maxSteps := 2000000) (disch := first | omega | (simp; done) | (simp; omega)) [-getElem?_pos, b40_0]) (by simp)
  have e2 := p36 d
  unfold chkAll
  have hf := find_prAt (fun t => decide (chkT t ≠ 0)) l
  cases hk : (List.range' 0 l.length).find? (prAt (fun t => decide (chkT t ≠ 0)) l) with
  | none =>
    rw [hk] at L hf
    simp only at L hf
    rw [← hf]
    simp at L
    refine run2_body (l.length + 1) rfl rfl rfl rfl rfl ?_
    generalize dOk d = q at *
    simp (maxSteps := 2000000) (disch := first | omega | (simp; done) | (simp; omega)) [-getElem?_pos, l40, L, e2]
  | some k =>
    rw [hk] at L hf
    simp only at L hf
    rw [← hf]
    have hk2 : k < l.length := by
      have := List.mem_of_find?_eq_some hk
      simp at this; omega
    rw [List.getElem?_eq_getElem hk2]
    rw [show l.getD k ([], 0, 0) = l[k] by simp [hk2]] at L
    simp at L
    refine run2_body (l.length + 1) rfl rfl rfl rfl rfl ?_
    simp (maxSteps := 2000000) (disch := first | omega | (simp; done) | (simp; omega)) [-getElem?_pos, l40, L]
end Go.Lo

/- Threads and spans, as arguments. -/
namespace Go.Lo
open Go.Proofs
set_option linter.unusedSimpArgs false
abbrev spTy : Ty := .st [.int .i64, .int .i64]
abbrev thrTy : Ty := .st [.sl spTy, .int .i64, .int .i64]
theorem can_i {x : List V} (h : HasC (.int .i64) x) : ∃ n, x = [.int .i64 n] := by
  simp only [HasC] at h
  obtain ⟨n, rfl, _⟩ := h
  exact ⟨n, rfl⟩
theorem can_b {x : List V} (h : HasC .bool x) : ∃ b, x = [.bool b] := by
  simp only [HasC] at h
  exact h
theorem can_sp {x : List V} (h : HasC spTy x) : ∃ a b, x = [.int .i64 a, .int .i64 b] := by
  rw [HasC] at h
  obtain ⟨x1, r1, rfl, h1, h⟩ := h.inv
  obtain ⟨x2, r2, rfl, h2, h⟩ := h.inv
  rw [HasCs] at h
  subst h
  obtain ⟨a, rfl⟩ := can_i h1
  obtain ⟨b, rfl⟩ := can_i h2
  exact ⟨a, b, rfl⟩
theorem rel_i (n : Int) : Rel (I n) noT (.int .i64 n) := by rw [Rel]
theorem can_thr {v : V} (h : HasV thrTy v) : ∃ t : Thr, Rel (.agg (eT t)) noT v := by
  simp only [HasV] at h
  obtain ⟨cs, rfl, h⟩ := h
  obtain ⟨x1, r1, rfl, h1, h⟩ := h.inv
  obtain ⟨x2, r2, rfl, h2, h⟩ := h.inv
  obtain ⟨x3, r3, rfl, h3, h⟩ := h.inv
  rw [HasCs] at h
  subst h
  obtain ⟨s, rfl⟩ := h1.sl1
  obtain ⟨a, rfl⟩ := can_i h2
  obtain ⟨b, rfl⟩ := can_i h3
  obtain ⟨l, hl, _⟩ := can_sl (E := fun x : Int × Int => [I x.1, I x.2]) (Q := fun _ => True) h1 fun x hx => by
    obtain ⟨a, b, rfl⟩ := can_sp hx
    exact ⟨(a, b), RelL.cons (rel_i a) (RelL.one (rel_i b)), trivial⟩
  refine ⟨(l, a, b), ?_⟩
  rw [Rel]
  refine ⟨_, rfl, RelL.cons ?_ (RelL.cons (rel_i a) (RelL.one (rel_i b)))⟩
  exact hl
theorem can_span {v : V} (h : HasV spTy v) : ∃ d : Int × Int, v = .agg [I d.1, I d.2] := by
  simp only [HasV] at h
  obtain ⟨cs, rfl, h⟩ := h
  obtain ⟨a, b, rfl⟩ := can_sp h
  exact ⟨(a, b), rfl⟩
theorem rel_is : ∀ xs : List Int, RelL (xs.map fun x => I x) noT (xs.map fun x => I x)
  | [] => RelL.nil
  | x :: xs => by rw [List.map_cons]; exact RelL.cons (rel_i x) (rel_is xs)
theorem rel_aggI (xs : List Int) : Rel (.agg (xs.map fun x => I x)) noT (.agg (xs.map fun x => I x)) := by
  rw [Rel]; exact ⟨_, rfl, rel_is xs⟩
/-- Three integers and a span. -/
theorem can_at {v : V} (h : HasV (.st [.int .i64, .int .i64, .int .i64, spTy]) v) : ∃ a b c : Int, ∃ d : Int × Int, v = .agg [I a, I b, I c, I d.1, I d.2] := by
  simp only [HasV] at h
  obtain ⟨cs, rfl, h⟩ := h
  obtain ⟨x1, r1, rfl, h1, h⟩ := h.inv
  obtain ⟨x2, r2, rfl, h2, h⟩ := h.inv
  obtain ⟨x3, r3, rfl, h3, h⟩ := h.inv
  obtain ⟨x4, r4, rfl, h4, h⟩ := h.inv
  rw [HasCs] at h
  subst h
  obtain ⟨a, rfl⟩ := can_i h1
  obtain ⟨b, rfl⟩ := can_i h2
  obtain ⟨c, rfl⟩ := can_i h3
  obtain ⟨d, e, rfl⟩ := can_sp h4
  exact ⟨a, b, c, (d, e), rfl⟩
end Go.Lo

/- How teeth lie in grooves. -/
namespace Go.Lo
open Go.Proofs
set_option linter.unusedSimpArgs false
set_option maxHeartbeats 4000000
theorem maxL2 {a b : Int} : maxL a [b] = max a b := by simp only [maxL]; split <;> omega
theorem minL2 {a b : Int} : minL a [b] = min a b := by simp only [minL]; split <;> omega
theorem maxL3 {a b c : Int} : maxL a [b, c] = max (max a b) c := by simp only [maxL]; split <;> split <;> omega
theorem abs_mul {a b A C : Int} (h1 : -A ≤ a ∧ a ≤ A) (h2 : -C ≤ b ∧ b ≤ C) : -(A * C) ≤ a * b ∧ a * b ≤ A * C := by
  have hA : 0 ≤ A := by omega
  have hC : 0 ≤ C := by omega
  have key : ∀ {x y : Int}, 0 ≤ x → x ≤ A → -C ≤ y → y ≤ C → -(A * C) ≤ x * y ∧ x * y ≤ A * C := fun {x y} p1 p2 p3 p4 => by
    have e1 := Int.mul_le_mul_of_nonneg_left p4 p1
    have e2 := Int.mul_le_mul_of_nonneg_right p2 hC
    have e3 := Int.mul_le_mul_of_nonneg_left p3 p1
    have e4 : x * -C = -(x * C) := Int.mul_neg x C
    omega
  by_cases h : 0 ≤ a
  · exact key h h1.2 h2.1 h2.2
  · have := key (x := -a) (y := b) (by omega) (by omega) h2.1 h2.2
    rw [Int.neg_mul] at this
    omega
/-- A height is one of those at which flanks can touch. -/
structure DOk (d : Int × Int) : Prop where
  lo : -200000 ≤ d.1
  le : d.1 ≤ d.2
  hi : d.2 ≤ 200000
theorem dOk_iff {d : Int × Int} : dOk d = true ↔ DOk d := by
  unfold dOk
  rw [decide_eq_true_eq]
  exact ⟨fun h => ⟨h.1, h.2.1, h.2.2⟩, fun h => ⟨h.1, h.2, h.3⟩⟩
def mst (d : Int × Int) (b : Int) : Int := max (d.1 * b) (d.2 * b)
theorem mst_bd {d : Int × Int} (hd : DOk d) {b : Int} (hb : -3000 ≤ b ∧ b ≤ 3000) : -600000000 ≤ mst d b ∧ mst d b ≤ 600000000 := by
  obtain ⟨h1, h2, h3⟩ := hd
  have := abs_mul (a := d.1) (b := b) (A := 200000) (C := 3000) (by omega) (by omega)
  have := abs_mul (a := d.2) (b := b) (A := 200000) (C := 3000) (by omega) (by omega)
  unfold mst
  omega
theorem p69 {d : Int × Int} (hd : DOk d) {b : Int} (hb : -3000 ≤ b ∧ b ≤ 3000) : R 69 [eS d, I b] = some (I (mst d b)) := by
  obtain ⟨h1, h2, h3⟩ := hd
  have b1 := abs_mul (a := d.1) (b := b) (A := 200000) (C := 3000) (by omega) (by omega)
  have b2 := abs_mul (a := d.2) (b := b) (A := 200000) (C := 3000) (by omega) (by omega)
  unfold mst
  have w1 := wrap64 (n := d.1 * b) (by omega) (by omega)
  have w2 := wrap64 (n := d.2 * b) (by omega) (by omega)
  generalize hx : d.1 * b = x at *
  generalize hy : d.2 * b = y at *
  refine run2_body 1 rfl rfl rfl rfl rfl ?_
  simp (maxSteps := 2000000) (disch := first | omega | (simp; done) | (simp; omega)) [-getElem?_pos, -maxL, maxL2, l69, hx, hy, w1, w2]
/-- What two flanks need of the shift. -/
def nd (d : Int × Int) (a b : Int × Int) (sl sr nl nr : Int) : Int × Int := (1000 * (b.1 - a.1) + mst d (nl - sl), 1000 * (b.2 - a.2) - mst d (nr - sr))
abbrev far1 (x : Int × Int) : Prop := (-10000000 ≤ x.1 ∧ x.1 ≤ 10000000) ∧ (-10000000 ≤ x.2 ∧ x.2 ≤ 10000000)
abbrev lean1 (l r : Int) : Prop := (0 ≤ l ∧ l ≤ 3000) ∧ (0 ≤ r ∧ r ≤ 3000)
theorem nd_bd {d : Int × Int} (hd : DOk d) {a b : Int × Int} (ha : far1 a) (hb : far1 b) {sl sr nl nr : Int} (hs : lean1 sl sr) (hn : lean1 nl nr) : (-30000000000 ≤ (nd d a b sl sr nl nr).1 ∧ (nd d a b sl sr nl nr).1 ≤ 30000000000) ∧ (-30000000000 ≤ (nd d a b sl sr nl nr).2 ∧ (nd d a b sl sr nl nr).2 ≤ 30000000000) := by
  have m1 := mst_bd hd (b := nl - sl) (by omega)
  have m2 := mst_bd hd (b := nr - sr) (by omega)
  unfold nd
  omega
theorem p71 {d : Int × Int} (hd : DOk d) {a b : Int × Int} (ha : far1 a) (hb : far1 b) {sl sr nl nr : Int} (hs : lean1 sl sr) (hn : lean1 nl nr) (x y : V) (hx : x = .sl none 2 [] ∨ ∃ es, x = .sl none 2 es) (hy : ∃ es, y = .sl none 2 es) :
    R 71 [eS d, eS a, eS b, .agg [x, I sl, I sr], .agg [y, I nl, I nr]] = some (eS (nd d a b sl sr nl nr)) := by
  have hx' : ∃ es, x = .sl none 2 es := by rcases hx with h | h; exact ⟨_, h⟩; exact h
  obtain ⟨ex, rfl⟩ := hx'
  obtain ⟨ey, rfl⟩ := hy
  have e1 := p69 hd (b := nl - sl) (by omega)
  have e2 := p69 hd (b := nr - sr) (by omega)
  have m1 := mst_bd hd (b := nl - sl) (by omega)
  have m2 := mst_bd hd (b := nr - sr) (by omega)
  unfold nd
  generalize mst d (nl - sl) = y1 at *
  generalize mst d (nr - sr) = y2 at *
  refine run2_body 1 rfl rfl rfl rfl rfl ?_
  simp (maxSteps := 2000000) (disch := first | omega | (simp; done) | (simp; omega)) [-getElem?_pos, l71, e1, e2, wrap64]
/-- The shifts that all of these allow. -/
def shf : List (Int × Int) → Int × Int
  | [] => (0, 0)
  | x :: r => r.foldl (fun s n => (max s.1 n.1, min s.2 n.2)) x
theorem shf_snoc (l : List (Int × Int)) (x : Int × Int) : shf (l ++ [x]) = if l = [] then x else (max (shf l).1 x.1, min (shf l).2 x.2) := by
  cases l with
  | nil => rfl
  | cons y l => simp [shf]
abbrev nds (d : Int × Int) (s n : Thr) (ts gs : List (Int × Int)) : List (Int × Int) := List.zipWith (fun a b => nd d a b s.2.1 s.2.2 n.2.1 n.2.2) ts gs
theorem take_at {α : Type} {l : List α} {i : Nat} {x : α} (h : l[i]? = some x) : l.take (i + 1) = l.take i ++ [x] := by
  rw [List.take_add_one, h]; rfl
theorem nds_take {d : Int × Int} {s n : Thr} {ts gs : List (Int × Int)} {i : Nat} {a b : Int × Int} (h1 : ts[i]? = some a) (h2 : gs[i]? = some b) : nds d s n (ts.take (i + 1)) (gs.take (i + 1)) = nds d s n (ts.take i) (gs.take i) ++ [nd d a b s.2.1 s.2.2 n.2.1 n.2.2] := by
  rw [take_at h1, take_at h2]
  have := (List.getElem?_eq_some_iff.1 h1).1
  have := (List.getElem?_eq_some_iff.1 h2).1
  unfold nds
  rw [List.zipWith_append (by simp; omega)]
  rfl
theorem zw_take {α β γ : Type} (f : α → β → γ) : ∀ (l : List α) (r : List β), List.zipWith f l (r.take l.length) = List.zipWith f l r
  | [], r => by simp
  | x :: l, [] => by simp
  | x :: l, y :: r => by simp [zw_take f l r]
theorem flat_eS2 (l : List (Int × Int)) : flatE (eS2 l) = true := by simp [flatE, V.flat]
/-- A valid thread. -/
structure TOk (t : Thr) : Prop where
  len : t.1.length ≤ 60
  pos : 0 < t.1.length
  lean : lean1 t.2.1 t.2.2
  turn : ∀ x ∈ t.1, far1 x ∧ x.1 ≤ x.2
theorem chkT_ok {t : Thr} (h : chkT t = 0) : TOk t := by
  obtain ⟨ts, l, r⟩ := t
  unfold chkT at h
  simp only at h
  split at h
  · omega
  · rename_i h1
    split at h
    · omega
    · rename_i h2
      split at h
      · rename_i h3
        rw [List.all_eq_true] at h3
        have hb : ∀ i, i < ts.length → turnB ts i = true := fun i hi => h3 i (List.mem_range.2 hi)
        have hlow : ∀ i, i < ts.length → -10000000 ≤ (turn ts i).1 ∧ (turn ts i).1 ≤ (turn ts i).2 := by
          intro i
          induction i with
          | zero =>
            intro hi
            have := hb 0 hi
            unfold turnB aftT at this
            rw [decide_eq_true_eq] at this
            simp at this
            omega
          | succ i ih =>
            intro hi
            have h4 := hb (i + 1) hi
            have h5 := ih (by omega)
            unfold turnB aftT at h4
            rw [decide_eq_true_eq] at h4
            simp at h4
            omega
        refine ⟨by simp only; omega, ?_, ?_, fun x hx => ?_⟩
        · have : ts ≠ [] := fun e => h2 (.inl e)
          exact Nat.pos_of_ne_zero fun e => this (List.length_eq_zero_iff.1 e)
        · have h4 : leanB l r = true := by
            cases hq : leanB l r with
            | true => rfl
            | false => exact absurd (.inr hq) h2
          unfold leanB at h4
          rw [decide_eq_true_eq] at h4
          exact h4
        · obtain ⟨i, hi, rfl⟩ := List.mem_iff_getElem.1 hx
          have h4 := hb i hi
          have h5 := hlow i hi
          have h6 : ts[i] = turn ts i := by simp [Go.Lo.turn, hi]
          rw [h6]
          unfold turnB at h4
          rw [decide_eq_true_eq] at h4
          exact ⟨⟨by omega, by omega⟩, h5.2⟩
      · omega
theorem p47 {d : Int × Int} (hd : DOk d) {s n : Thr} (hs : TOk s) (hn : TOk n) {ts gs : List (Int × Int)} (ht : ∀ x ∈ ts, far1 x) (hg : ∀ x ∈ gs, far1 x) (hl : ts.length ≤ gs.length) (hl2 : ts.length ≤ 1000) :
    R 47 [.agg ([I d.1, I d.2] ++ eT s ++ eT n), S 2 (eS2 ts), S 2 (eS2 gs)] = some (.tup [eS (shf (nds d s n ts gs)), B (decide ((shf (nds d s n ts gs)).1 ≤ (shf (nds d s n ts gs)).2))]) := by
  have hnb : ∀ i, i ≤ ts.length → (-30000000000 ≤ (shf (nds d s n (ts.take i) (gs.take i))).1 ∧ (shf (nds d s n (ts.take i) (gs.take i))).1 ≤ 30000000000) ∧ (-30000000000 ≤ (shf (nds d s n (ts.take i) (gs.take i))).2 ∧ (shf (nds d s n (ts.take i) (gs.take i))).2 ≤ 30000000000) := by
    intro i
    induction i with
    | zero => intro _; simp [shf]
    | succ i ih =>
      intro hi
      have h1 : ts[i]? = some ts[i] := List.getElem?_eq_getElem (by omega)
      have h2 : gs[i]? = some gs[i] := List.getElem?_eq_getElem (by omega)
      have k1 := ht _ (List.getElem_mem (show i < ts.length by omega))
      have k2 := hg _ (List.getElem_mem (show i < gs.length by omega))
      rw [nds_take h1 h2, shf_snoc]
      have b1 := nd_bd hd k1 k2 hs.lean hn.lean
      have b2 := ih (by omega)
      split
      · exact b1
      · simp only; omega
  have L := loop_all (s := fun i => { fr := [(2, S 2 (eS2 gs)), (3, .box ([I d.1, I d.2] ++ eT s ++ eT n)), (6, .box [I (shf (nds d s n (ts.take i) (gs.take i))).1, I (shf (nds d s n (ts.take i) (gs.take i))).2]), (11, S 2 (eS2 ts)), (12, I ts.length), (13, I i)], tk := [] }) (f := evC2 R (ts.length + 1) b47_0) (n := ts.length)
    (X := (.exit 0, { fr := [(2, S 2 (eS2 gs)), (3, .box ([I d.1, I d.2] ++ eT s ++ eT n)), (6, .box [I (shf (nds d s n ts gs)).1, I (shf (nds d s n ts gs)).2]), (11, S 2 (eS2 ts)), (12, I ts.length), (13, I ts.length), (14, B false)], tk := [] }))
    (fun i hi => by
      have h1 : ts[i]? = some ts[i] := List.getElem?_eq_getElem hi
      have h2 : gs[i]? = some gs[i] := List.getElem?_eq_getElem (by omega)
      have k1 := ht _ (List.getElem_mem hi)
      have k2 := hg _ (List.getElem_mem (show i < gs.length by omega))
      have hz : nds d s n (ts.take i) (gs.take i) = [] ↔ i = 0 := by
        rw [← List.length_eq_zero_iff, List.length_zipWith, List.length_take, List.length_take]; omega
      rw [nds_take h1 h2, shf_snoc]
      generalize ts[i] = a at *
      generalize gs[i] = b at *
      have e1 := p71 hd k1 k2 hs.lean hn.lean (S 2 (eS2 s.1)) (S 2 (eS2 n.1)) (.inr ⟨_, rfl⟩) ⟨_, rfl⟩
      generalize nd d a b s.2.1 s.2.2 n.2.1 n.2.2 = z at *
      generalize shf (nds d s n (ts.take i) (gs.take i)) = y at *
      by_cases h0 : i = 0
      · rw [if_pos (hz.2 h0)]
        subst h0
        have m1 : max z.1 z.1 = z.1 := by omega
        have m2 : min z.2 z.2 = z.2 := by omega
        simp (maxSteps := 2000000) (disch := first | omega | (simp; done) | (simp; omega)) [-getElem?_pos, -maxL, -minL, maxL2, minL2, b47_0, eT, h1, h2, hi, e1, m1, m2, wrap64]
      · rw [if_neg (fun h => h0 (hz.1 h))]
        simp (maxSteps := 2000000) (disch := first | omega | (simp; done) | (simp; omega)) [-getElem?_pos, -maxL, -minL, maxL2, minL2, b47_0, eT, h1, h2, hi, e1, h0, wrap64]) (by
      have e : nds d s n (ts.take ts.length) (gs.take ts.length) = nds d s n ts gs := by
        rw [List.take_length]; exact zw_take _ _ _
      rw [e]
      generalize shf (nds d s n ts gs) = y at *
      simp (maxSteps := 2000000) (disch := first | omega | (simp; done) | (simp; omega)) [-getElem?_pos, b47_0, eT]) (by simp)
  generalize shf (nds d s n ts gs) = y at *
  simp [eT, shf] at L
  refine run2_body (ts.length + 1) rfl rfl rfl rfl rfl ?_
  simp (maxSteps := 2000000) (disch := first | omega | (simp; done) | (simp; omega)) [-getElem?_pos, l47, eT, L]
end Go.Lo

/- Shifts and steps, by the program. -/
namespace Go.Lo
open Go.Proofs
set_option linter.unusedSimpArgs false
set_option maxHeartbeats 8000000
theorem chkAll_two {d : Int × Int} {s n : Thr} (h : chkAll d [s, n] = 0) : chkT s = 0 ∧ chkT n = 0 ∧ dOk d = true := by
  unfold chkAll at h
  by_cases h1 : chkT s = 0
  · by_cases h2 : chkT n = 0
    · simp [h1, h2] at h
      exact ⟨h1, h2, h⟩
    · simp [h1, h2] at h
  · simp [h1] at h
theorem chkAll_one {d : Int × Int} {s : Thr} (h : chkAll d [s] = 0) : chkT s = 0 ∧ dOk d = true := by
  unfold chkAll at h
  by_cases h1 : chkT s = 0
  · simp [h1] at h
    exact ⟨h1, h⟩
  · simp [h1] at h
theorem chkAll_2 (d : Int × Int) (s n : Thr) : chkAll d [s, n] = if chkT s ≠ 0 then chkT s else if chkT n ≠ 0 then chkT n else if dOk d = true then 0 else 3 := by
  unfold chkAll
  by_cases h1 : chkT s = 0
  · by_cases h2 : chkT n = 0 <;> simp [h1, h2]
  · simp [h1]
def goesB (d : Int × Int) (s n : Thr) : Bool := decide ((shf (nds d s n s.1 n.1)).1 ≤ (shf (nds d s n s.1 n.1)).2)
theorem p41 {d : Int × Int} (hd : DOk d) {s n : Thr} (hs : TOk s) (hn : TOk n) (hl : s.1.length ≤ n.1.length) : R 41 [.agg (eT s), .agg (eT n), eS d] = some (B (goesB d s n)) := by
  have e1 := p47 hd hs hn (fun x hx => (hs.turn x hx).1) (fun x hx => (hn.turn x hx).1) hl (by have := hs.len; omega)
  unfold goesB
  generalize shf (nds d s n s.1 n.1) = z at *
  refine run2_body 1 rfl rfl rfl rfl rfl ?_
  simp only [eT, List.cons_append, List.nil_append] at e1
  simp (maxSteps := 2000000) (disch := first | omega | (simp; done) | (simp; omega)) [-getElem?_pos, l41, eT, e1]
end Go.Lo

/- Forms are checked: by the program, and by chapter 1's reference. -/
namespace Go.Lo
open Go.Proofs
set_option linter.unusedSimpArgs false
set_option maxHeartbeats 8000000
theorem p92 (x lo hi : Int) : R 92 [I x, .cref [I lo], .cref [I hi]] = some (B (decide (x < lo) || decide (x > hi))) := by
  refine run2_body 1 rfl rfl rfl rfl rfl ?_
  by_cases h : x < lo <;> simp [l92, h]
theorem p62 (lo hi : Int) {xs : List Int} (hl : xs.length < 4611686018427387904) : R 62 [I lo, I hi, S 1 (eI xs)] = some (B (xs.all fun x => decide (lo ≤ x ∧ x ≤ hi))) := by
  have h := p64 (g := 92) (caps := [.cref [I lo], .cref [I hi]]) (pr := fun x => decide (x < lo) || decide (x > hi)) (E := fun x => [I x]) (W := fun x => I x) (xs := xs) (fun _ => rfl) (fun _ _ => ⟨rfl, fun _ => rfl, fun _ => rfl⟩) (fun x _ => p92 x lo hi) hl
  refine run2_body 1 rfl rfl rfl rfl rfl ?_
  have e : (xs.all fun x => decide (lo ≤ x ∧ x ≤ hi)) = !(xs.any fun x => decide (x < lo) || decide (x > hi)) := by
    rw [List.not_any_eq_all_not]
    congr 1
    funext x
    by_cases h1 : x < lo <;> by_cases h2 : x > hi <;> simp [h1, h2] <;> omega
  rw [e]
  simp [l62, h]

/-- A form of a thread. -/
structure Frm where
  pitch : Int
  left : Int
  right : Int
  above : Int
  below : Int
  starts : Int
  hand : Bool
  taper : Int
abbrev eF (f : Frm) : List V := [I f.pitch, I f.left, I f.right, I f.above, I f.below, I f.starts, B f.hand, I f.taper]
abbrev eX (f : Frm) (d : Int × Int) : List V := eF f ++ [I d.1, I d.2]
theorem t62_1 (lo hi x : Int) : R 62 [I lo, I hi, S 1 [[I x]]] = some (B (decide (lo ≤ x ∧ x ≤ hi))) := by
  have := p62 lo hi (xs := [x]) (by simp)
  simpa using this
theorem t62_2 (lo hi x y : Int) : R 62 [I lo, I hi, S 1 [[I x], [I y]]] = some (B (decide ((lo ≤ x ∧ x ≤ hi) ∧ (lo ≤ y ∧ y ≤ hi)))) := by
  have := p62 lo hi (xs := [x, y]) (by simp)
  simpa using this
def wid (f : Frm) (y : Int) : Int := 1000 * f.pitch - 2 * y * (f.left + f.right)
/-- Numbers that make no sum too great. -/
structure FNum (f : Frm) : Prop where
  pitch : 100 ≤ f.pitch ∧ f.pitch ≤ 200000
  left : 0 ≤ f.left ∧ f.left ≤ 3000
  right : 0 ≤ f.right ∧ f.right ≤ 3000
  above : 0 ≤ f.above ∧ f.above ≤ 200000
  below : 0 ≤ f.below ∧ f.below ≤ 200000
def frmN (f : Frm) : Bool := decide ((((((100 ≤ f.pitch ∧ f.pitch ≤ 200000) ∧ ((0 ≤ f.left ∧ f.left ≤ 3000) ∧ (0 ≤ f.right ∧ f.right ≤ 3000))) ∧ ((0 ≤ f.above ∧ f.above ≤ 200000) ∧ (0 ≤ f.below ∧ f.below ≤ 200000))) ∧ f.above + f.below ≥ 1) ∧ (1 ≤ f.starts ∧ f.starts ≤ 8)) ∧ (0 ≤ f.taper ∧ f.taper ≤ 100))
/-- Is it a form? -/
def frmB (f : Frm) : Bool := frmN f && decide (0 ≤ wid f f.above ∧ 0 ≤ wid f f.below)
theorem frmN_num {f : Frm} (h : frmN f = true) : FNum f := by
  unfold frmN at h
  rw [decide_eq_true_eq] at h
  exact ⟨h.1.1.1.1.1, h.1.1.1.1.2.1, h.1.1.1.1.2.2, h.1.1.1.2.1, h.1.1.1.2.2⟩
theorem p63 {f : Frm} (h : FNum f) {y : Int} (hy : -200000 ≤ y ∧ y ≤ 200000) : R 63 [.agg (eF f), I y] = some (I (wid f y)) := by
  have h1 := h.pitch
  have h2 := h.left
  have h3 := h.right
  have m := abs_mul (a := 2 * y) (b := f.left + f.right) (A := 400000) (C := 6000) (by omega) (by omega)
  have e1 : R 93 [.agg (eF f)] = some (I (f.left + f.right)) := by
    refine run2_body 1 rfl rfl rfl rfl rfl ?_
    simp (maxSteps := 2000000) (disch := first | omega | (simp; done) | (simp; omega)) [-getElem?_pos, l93, eF, wrap64]
  unfold wid
  have w1 := wrap64 (n := 2 * y * (f.left + f.right)) (by omega) (by omega)
  have w2 := wrap64 (n := f.left + f.right) (by omega) (by omega)
  generalize hz : 2 * y * (f.left + f.right) = z at *
  refine run2_body 1 rfl rfl rfl rfl rfl ?_
  simp only [eF] at e1
  simp (maxSteps := 2000000) (disch := first | omega | (simp; done) | (simp; omega)) [-getElem?_pos, l63, eF, e1, hz, w1, w2, wrap64]
theorem p34 (f : Frm) : R 34 [.agg (eF f)] = some (I (if frmB f = true then 0 else 2)) := by
  have e1 := t62_1 100 200000 f.pitch
  have e2 := t62_2 0 3000 f.left f.right
  have e3 := t62_2 0 200000 f.above f.below
  have e4 := t62_1 1 8 f.starts
  have e5 := t62_1 0 100 f.taper
  unfold frmB
  by_cases c1 : 100 ≤ f.pitch ∧ f.pitch ≤ 200000
  · by_cases c2 : (0 ≤ f.left ∧ f.left ≤ 3000) ∧ (0 ≤ f.right ∧ f.right ≤ 3000)
    · by_cases c3 : (0 ≤ f.above ∧ f.above ≤ 200000) ∧ (0 ≤ f.below ∧ f.below ≤ 200000)
      · by_cases c4 : f.above + f.below ≥ 1
        · by_cases c5 : 1 ≤ f.starts ∧ f.starts ≤ 8
          · by_cases c6 : 0 ≤ f.taper ∧ f.taper ≤ 100
            · have hn : FNum f := ⟨c1, c2.1, c2.2, c3.1, c3.2⟩
              have w1 := p63 hn (y := f.above) (by omega)
              have w2 := p63 hn (y := f.below) (by omega)
              have hN : frmN f = true := by unfold frmN; rw [decide_eq_true_eq]; exact ⟨⟨⟨⟨⟨c1, c2⟩, c3⟩, c4⟩, c5⟩, c6⟩
              rw [hN]
              generalize wid f f.above = z1 at *
              generalize wid f f.below = z2 at *
              simp only [c1, c2, c3, c5, c6, and_self, decide_true] at e1 e2 e3 e4 e5
              simp only [eF] at w1 w2
              refine run2_body 1 rfl rfl rfl rfl rfl ?_
              by_cases k1 : z1 < 0
              · have k1' : ¬ 0 ≤ z1 := by omega
                simp (maxSteps := 2000000) (disch := first | omega | (simp; done) | (simp; omega)) [-getElem?_pos, l34, eF, e1, e2, e3, e4, e5, w1, w2, c4, k1, k1', wrap64]
              · have k1' : 0 ≤ z1 := by omega
                by_cases k2 : z2 < 0
                · have k2' : ¬ 0 ≤ z2 := by omega
                  simp (maxSteps := 2000000) (disch := first | omega | (simp; done) | (simp; omega)) [-getElem?_pos, l34, eF, e1, e2, e3, e4, e5, w1, w2, c4, k1, k1', k2, k2', wrap64]
                · have k2' : 0 ≤ z2 := by omega
                  simp (maxSteps := 2000000) (disch := first | omega | (simp; done) | (simp; omega)) [-getElem?_pos, l34, eF, e1, e2, e3, e4, e5, w1, w2, c4, k1, k1', k2, k2', wrap64]
            · have hN : frmN f = false := by unfold frmN; rw [decide_eq_false_iff_not]; exact fun h => c6 h.2
              rw [hN]
              simp only [c1, c2, c3, c5, c6, and_self, decide_true, decide_false] at e1 e2 e3 e4 e5
              refine run2_body 1 rfl rfl rfl rfl rfl ?_
              simp (maxSteps := 2000000) (disch := first | omega | (simp; done) | (simp; omega)) [-getElem?_pos, l34, eF, e1, e2, e3, e4, e5, c4, wrap64]
          · have hN : frmN f = false := by unfold frmN; rw [decide_eq_false_iff_not]; exact fun h => c5 h.1.2
            rw [hN]
            simp only [c1, c2, c3, c5, and_self, decide_true, decide_false] at e1 e2 e3 e4
            refine run2_body 1 rfl rfl rfl rfl rfl ?_
            simp (maxSteps := 2000000) (disch := first | omega | (simp; done) | (simp; omega)) [-getElem?_pos, l34, eF, e1, e2, e3, e4, c4, wrap64]
        · have hN : frmN f = false := by unfold frmN; rw [decide_eq_false_iff_not]; exact fun h => c4 h.1.1.2
          rw [hN]
          simp only [c1, c2, c3, and_self, decide_true] at e1 e2 e3
          refine run2_body 1 rfl rfl rfl rfl rfl ?_
          simp (maxSteps := 2000000) (disch := first | omega | (simp; done) | (simp; omega)) [-getElem?_pos, l34, eF, e1, e2, e3, c4, wrap64]
      · have hN : frmN f = false := by unfold frmN; rw [decide_eq_false_iff_not]; exact fun h => c3 h.1.1.1.2
        rw [hN]
        simp only [c1, c2, c3, and_self, decide_true, decide_false] at e1 e2 e3
        refine run2_body 1 rfl rfl rfl rfl rfl ?_
        simp (maxSteps := 2000000) (disch := first | omega | (simp; done) | (simp; omega)) [-getElem?_pos, l34, eF, e1, e2, e3, wrap64]
    · have hN : frmN f = false := by unfold frmN; rw [decide_eq_false_iff_not]; exact fun h => c2 h.1.1.1.1.2
      rw [hN]
      simp only [c1, c2, and_self, decide_true, decide_false] at e1 e2
      refine run2_body 1 rfl rfl rfl rfl rfl ?_
      simp (maxSteps := 2000000) (disch := first | omega | (simp; done) | (simp; omega)) [-getElem?_pos, l34, eF, e1, e2, wrap64]
  · have hN : frmN f = false := by unfold frmN; rw [decide_eq_false_iff_not]; exact fun h => c1 h.1.1.1.1.1
    rw [hN]
    simp only [c1, decide_false] at e1
    refine run2_body 1 rfl rfl rfl rfl rfl ?_
    simp (maxSteps := 2000000) (disch := first | omega | (simp; done) | (simp; omega)) [-getElem?_pos, l34, eF, e1, wrap64]
end Go.Lo

/- Forms, as arguments. -/
namespace Go.Lo
open Go.Proofs
set_option linter.unusedSimpArgs false
abbrev frmTy : Ty := .st [.int .i64, .int .i64, .int .i64, .int .i64, .int .i64, .int .i64, .bool, .int .i64]
theorem can_frm {v : V} (h : HasV frmTy v) : ∃ f : Frm, v = .agg (eF f) := by
  simp only [HasV] at h
  obtain ⟨cs, rfl, h⟩ := h
  obtain ⟨x1, r1, rfl, h1, h⟩ := h.inv
  obtain ⟨x2, r2, rfl, h2, h⟩ := h.inv
  obtain ⟨x3, r3, rfl, h3, h⟩ := h.inv
  obtain ⟨x4, r4, rfl, h4, h⟩ := h.inv
  obtain ⟨x5, r5, rfl, h5, h⟩ := h.inv
  obtain ⟨x6, r6, rfl, h6, h⟩ := h.inv
  obtain ⟨x7, r7, rfl, h7, h⟩ := h.inv
  obtain ⟨x8, r8, rfl, h8, h⟩ := h.inv
  rw [HasCs] at h
  subst h
  obtain ⟨a1, rfl⟩ := can_i h1
  obtain ⟨a2, rfl⟩ := can_i h2
  obtain ⟨a3, rfl⟩ := can_i h3
  obtain ⟨a4, rfl⟩ := can_i h4
  obtain ⟨a5, rfl⟩ := can_i h5
  obtain ⟨a6, rfl⟩ := can_i h6
  obtain ⟨a7, rfl⟩ := can_b h7
  obtain ⟨a8, rfl⟩ := can_i h8
  exact ⟨⟨a1, a2, a3, a4, a5, a6, a7, a8⟩, rfl⟩
theorem rel_frm (f : Frm) : Rel (.agg (eF f)) noT (.agg (eF f)) := by
  rw [Rel]
  exact ⟨_, rfl, RelL.cons (rel_i _) (RelL.cons (rel_i _) (RelL.cons (rel_i _) (RelL.cons (rel_i _) (RelL.cons (rel_i _) (RelL.cons (rel_i _) (RelL.cons (rel_bool _) (RelL.one (rel_i _))))))))⟩
end Go.Lo

/- Small numbers, as arguments. -/
namespace Go.Lo
open Go.Proofs
set_option linter.unusedSimpArgs false
abbrev arTy (n : Nat) (k : IntKind) : Ty := .arr n (.int k)
theorem can_k {k : IntKind} {x : List V} (h : HasC (.int k) x) : ∃ n, x = [.int k n] ∧ (Lit.int k n).wf = true := by
  simp only [HasC] at h
  exact h
theorem can_ar {k : IntKind} {n : Nat} {x : List V} (h : HasC (arTy n k) x) : ∃ xs : List Int, xs.length = n ∧ x = xs.map (fun x => .int k x) ∧ ∀ y ∈ xs, (Lit.int k y).wf = true := by
  obtain ⟨xs, h1, h2, h3⟩ := can_arr (v := .agg x) (k := k) (n := n) (by simp only [HasV]; exact ⟨x, rfl, h⟩)
  injection h2 with h2
  exact ⟨xs, h1, h2, h3⟩
theorem can_ar2 {k : IntKind} {x : List V} (h : HasC (arTy 2 k) x) : ∃ a b : Int, x = [.int k a, .int k b] ∧ (Lit.int k a).wf = true ∧ (Lit.int k b).wf = true := by
  obtain ⟨xs, h1, rfl, h3⟩ := can_ar h
  match xs, h1 with
  | [a, b], _ => exact ⟨a, b, rfl, h3 a (by simp), h3 b (by simp)⟩
theorem can_arV {k : IntKind} {n : Nat} {v : V} (h : HasV (arTy n k) v) : ∃ xs : List Int, xs.length = n ∧ v = .agg (xs.map fun x => .int k x) ∧ ∀ y ∈ xs, (Lit.int k y).wf = true := can_arr h
theorem can_arV2 {k : IntKind} {v : V} (h : HasV (arTy 2 k) v) : ∃ a b : Int, v = .agg [.int k a, .int k b] ∧ (Lit.int k a).wf = true ∧ (Lit.int k b).wf = true := by
  simp only [HasV] at h
  obtain ⟨cs, rfl, h⟩ := h
  obtain ⟨a, b, rfl, h1, h2⟩ := can_ar2 h
  exact ⟨a, b, rfl, h1, h2⟩
theorem rel_ar (k : IntKind) (xs : List Int) : Rel (.agg (xs.map fun x => .int k x)) noT (.agg (xs.map fun x => .int k x)) := rel_aggK k xs
end Go.Lo

/- A die with one steel, and one order: what is checked; the shop. -/
namespace Go.Lo
open Go.Proofs
set_option linter.unusedSimpArgs false
set_option maxHeartbeats 8000000
/-! ### The first of a list for which a function says so -/
theorem p105 {α : Type} {E : α → List V} {W : α → V} {g : Nat} {caps : List V} {pr : α → Bool} (hc : ∀ rd, frzL rd caps = some caps) {xs : List α} (hE : ∀ x ∈ xs, partV (E x) 0 (some 2) = some (W x) ∧ (∀ rd, (W x).frz rd = some (W x)) ∧ ∀ s, opV s (some (W x)) = some (W x)) (hp : ∀ x ∈ xs, R g (W x :: caps) = some (B (pr x))) (hl : xs.length < 4611686018427387904) :
    R 105 [S 2 (xs.map E), .fn (.f g) caps] = some (I (match xs.findIdx? pr with | none => -1 | some k => k)) := by
  have L := loop_find (s := fun i => { fr := [(0, S 2 (xs.map E)), (1, .fn (.f g) caps), (7, I xs.length), (8, I i)], tk := [] }) (f := evC2 R (xs.length + 1) b105_0) (n := xs.length) (g := prAt pr xs) (E := fun i => (.ret, { fr := [(4, I i)], tk := [] })) (X := (.exit 0, { fr := [(0, S 2 (xs.map E)), (1, .fn (.f g) caps), (7, I xs.length), (8, I xs.length), (9, B false)], tk := [] }))
    (fun i hi => by
      have h1 : xs[i]? = some xs[i] := List.getElem?_eq_getElem hi
      have hm : xs[i] ∈ xs := List.getElem_mem hi
      have hp' := hp _ hm
      obtain ⟨h2, h3, h4⟩ := hE _ hm
      have hlt : (i : Int) < xs.length := by omega
      clear hp hE
      generalize xs[i] = x at *
      rw [prAt_some h1]
      generalize hw : W x = w at *
      cases hx : pr x <;> rw [hx] at hp' <;> simp (maxSteps := 2000000) (disch := first | omega | (simp; done) | (simp; omega)) [-getElem?_pos, -partV, b105_0, h1, h2, h3, h4, hc, hp', hlt, wrap64]) (fun _ => by simp) (by simp [b105_0]) (by simp) xs.length 0 (by omega)
  rw [find_idx] at L
  refine run2_body (xs.length + 1) rfl rfl rfl rfl rfl ?_
  cases hf : xs.findIdx? pr with
  | none =>
    rw [hf] at L
    simp at L
    simp [l105, L]
  | some k =>
    rw [hf] at L
    simp at L
    simp [l105, L]
theorem p103 {α : Type} {E : α → List V} {W : α → V} {g : Nat} {caps : List V} {pr : α → Bool} (hc : ∀ rd, frzL rd caps = some caps) {xs : List α} (hE : ∀ x ∈ xs, partV (E x) 0 (some 2) = some (W x) ∧ (∀ rd, (W x).frz rd = some (W x)) ∧ ∀ s, opV s (some (W x)) = some (W x)) (hp : ∀ x ∈ xs, R g (W x :: caps) = some (B (pr x))) (hl : xs.length < 4611686018427387904) :
    R 103 [S 2 (xs.map E), .fn (.f g) caps] = some (B (xs.any pr)) := by
  have h := p105 hc hE hp hl
  refine run2_body 1 rfl rfl rfl rfl rfl ?_
  cases hf : xs.findIdx? pr with
  | none =>
    rw [hf] at h
    have : xs.any pr = false := by
      rw [List.findIdx?_eq_none_iff] at hf
      rw [List.any_eq_false]; simpa using hf
    simp [l103, h, hc, this]
  | some k =>
    rw [hf] at h
    have : xs.any pr = true := by
      have := List.findIdx?_isSome (xs := xs) (p := pr)
      rw [hf] at this
      exact this.symm
    simp (maxSteps := 2000000) (disch := first | omega | (simp; done) | (simp; omega)) [l103, h, hc, this]

theorem p84 (x lo hi : Int) : R 84 [I x, .cref [I lo], .cref [I hi]] = some (B (decide (x < lo) || decide (x > hi))) := by
  refine run2_body 1 rfl rfl rfl rfl rfl ?_
  by_cases h : x < lo <;> simp [l84, h]
theorem p56 (lo hi : Int) {xs : List Int} (hl : xs.length < 4611686018427387904) : R 56 [I lo, I hi, S 1 (eI xs)] = some (B (xs.all fun x => decide (lo ≤ x ∧ x ≤ hi))) := by
  have h := p64 (g := 84) (caps := [.cref [I lo], .cref [I hi]]) (pr := fun x => decide (x < lo) || decide (x > hi)) (E := fun x => [I x]) (W := fun x => I x) (xs := xs) (fun _ => rfl) (fun _ _ => ⟨rfl, fun _ => rfl, fun _ => rfl⟩) (fun x _ => p84 x lo hi) hl
  refine run2_body 1 rfl rfl rfl rfl rfl ?_
  have e : (xs.all fun x => decide (lo ≤ x ∧ x ≤ hi)) = !(xs.any fun x => decide (x < lo) || decide (x > hi)) := by
    rw [List.not_any_eq_all_not]
    congr 1
    funext x
    by_cases h1 : x < lo <;> by_cases h2 : x > hi <;> simp [h1, h2] <;> omega
  rw [e]
  simp [l56, h]

theorem dW_1 (lo hi x : Int) : R 56 [I lo, I hi, S 1 [[I x]]] = some (B (decide (lo ≤ x ∧ x ≤ hi))) := by
  have := p56 lo hi (xs := [x]) (by simp)
  simpa using this
theorem dW_2 (lo hi x y : Int) : R 56 [I lo, I hi, S 1 [[I x], [I y]]] = some (B (decide ((lo ≤ x ∧ x ≤ hi) ∧ (lo ≤ y ∧ y ≤ hi)))) := by
  have := p56 lo hi (xs := [x, y]) (by simp)
  simpa using this
theorem p102 (s : Int × Int) (lo hi : Int) : R 102 [eS s, I lo, I hi] = some (B (decide (lo ≤ s.1 ∧ s.1 ≤ s.2 ∧ s.2 ≤ hi))) := by
  have e1 := dW_2 lo hi s.1 s.2
  refine run2_body 1 rfl rfl rfl rfl rfl ?_
  rw [show decide (lo ≤ s.1 ∧ s.1 ≤ s.2 ∧ s.2 ≤ hi) = (decide (s.1 ≤ s.2) && decide ((lo ≤ s.1 ∧ s.1 ≤ hi) ∧ (lo ≤ s.2 ∧ s.2 ≤ hi))) from by rw [Bool.eq_iff_iff]; simp; omega]
  generalize decide ((lo ≤ s.1 ∧ s.1 ≤ hi) ∧ (lo ≤ s.2 ∧ s.2 ≤ hi)) = q at *
  by_cases h : s.1 ≤ s.2 <;> simp (maxSteps := 2000000) (disch := first | omega | (simp; done) | (simp; omega)) [-getElem?_pos, l102, e1, h]
/-- A die, and what is ordered. -/
structure Shp where
  set : Int × Int
  scat : Int × Int
  wear : Int × Int
  n : Nat
  zone : Int × Int
structure Shp.Ok (s : Shp) : Prop where
  set : -1000000 ≤ s.set.1 ∧ s.set.1 ≤ s.set.2 ∧ s.set.2 ≤ 1000000
  scat : -1000000 ≤ s.scat.1 ∧ s.scat.1 ≤ s.scat.2 ∧ s.scat.2 ≤ 1000000
  wear : 0 ≤ s.wear.1 ∧ s.wear.1 ≤ s.wear.2 ∧ s.wear.2 ≤ 100000
  n : 1 ≤ s.n ∧ s.n ≤ 10000
  zone : 0 ≤ s.zone.1 ∧ s.zone.1 ≤ s.zone.2 ∧ s.zone.2 ≤ 10000000000
abbrev eTool (s : Shp) : List V := [B false, I s.set.1, I s.set.2, I s.scat.1, I s.scat.2, S 2 [[I s.wear.1, I s.wear.2]]]
abbrev eOrd (s : Shp) : List (List V) := [[I s.n, I 0, I s.zone.1, I s.zone.2]]
abbrev eShop (s : Shp) : List V := eTool s ++ [S 4 (eOrd s), S 1 [[I 0], [I s.n]], B false]
theorem p101 {s : Int × Int} (h : -1000000 ≤ s.1 ∧ s.1 ≤ s.2 ∧ s.2 ≤ 1000000) : R 101 [eS s] = some (B true) := by
  have e1 := p102 s (-1000000) 1000000
  rw [decide_eq_true h] at e1
  refine run2_body 1 rfl rfl rfl rfl rfl ?_
  simp (maxSteps := 2000000) (disch := first | omega | (simp; done) | (simp; omega)) [-getElem?_pos, l101, e1]
theorem p104 {s : Int × Int} (h : 0 ≤ s.1 ∧ s.1 ≤ s.2 ∧ s.2 ≤ 100000) : R 104 [eS s] = some (B false) := by
  have e1 := p102 s 0 100000
  rw [decide_eq_true h] at e1
  refine run2_body 1 rfl rfl rfl rfl rfl ?_
  simp (maxSteps := 2000000) (disch := first | omega | (simp; done) | (simp; omega)) [-getElem?_pos, l104, e1]
theorem p97 {s : Shp} (h : s.Ok) : R 97 [.agg (eTool s)] = some (I 0) := by
  have e1 := p101 h.set
  have e2 := p101 h.scat
  have e3 := p103 (g := 104) (caps := []) (pr := fun _ => false) (E := fun x : Int × Int => [I x.1, I x.2]) (W := fun x => eS x) (xs := [s.wear]) (fun _ => rfl) (fun _ _ => ⟨rfl, fun _ => rfl, fun _ => rfl⟩) (fun x hx => by
    simp only [List.mem_cons, List.not_mem_nil, or_false] at hx
    subst hx
    exact p104 h.wear) (by simp)
  simp only [List.map_cons, List.map_nil, List.any_cons, List.any_nil, Bool.or_self] at e3
  refine run2_body 1 rfl rfl rfl rfl rfl ?_
  simp (maxSteps := 2000000) (disch := first | omega | (simp; done) | (simp; omega)) [-getElem?_pos, l97, eTool, e1, e2, e3]
theorem p98 {s : Int × Int} (h : 0 ≤ s.1 ∧ s.1 ≤ s.2 ∧ s.2 ≤ 10000000000) : R 98 [eS s] = some (B true) := by
  have e1 := p102 s 0 10000000000
  rw [decide_eq_true h] at e1
  refine run2_body 1 rfl rfl rfl rfl rfl ?_
  simp (maxSteps := 2000000) (disch := first | omega | (simp; done) | (simp; omega)) [-getElem?_pos, l98, e1]
theorem p99 (s : Shp) : R 99 [.agg (eTool s), I 0] = some (I 0) := by
  have e1 := dW_1 0 0 0
  have w : IntKind.i64.wrap 0 = 0 := rfl
  refine run2_body 1 rfl rfl rfl rfl rfl ?_
  simp (maxSteps := 2000000) (disch := first | omega | (simp; done) | (simp; omega)) [-getElem?_pos, l99, eTool, e1, w]
theorem p82 {s : Shp} (h : s.Ok) : R 82 [.agg (eTool s), S 4 (eOrd s)] = some (I 0) := by
  have e1 := p97 h
  have e2 := dW_1 1 10000 s.n
  have hn := h.n
  rw [decide_eq_true (show 1 ≤ (s.n : Int) ∧ (s.n : Int) ≤ 10000 by omega)] at e2
  have e3 := p98 h.zone
  have e4 := p99 s
  simp only [eTool, eOrd] at e1 e4 ⊢
  have L : iter (evC2 R 3 b82_0) 3 { fr := [(1, S 4 [[I s.n, I 0, I s.zone.1, I s.zone.2]]), (2, .box (eTool s)), (21, S 4 [[I s.n, I 0, I s.zone.1, I s.zone.2]]), (22, I 1), (23, I 0)], tk := [] } =
      some (.exit 1, { fr := [(1, S 4 [[I s.n, I 0, I s.zone.1, I s.zone.2]]), (2, .box (eTool s)), (21, S 4 [[I s.n, I 0, I s.zone.1, I s.zone.2]]), (22, I 1), (23, I 1), (24, B false)], tk := [] }) := by
    rw [iter_succ]
    simp (maxSteps := 2000000) (disch := first | omega | (simp; done) | (simp; omega)) [-getElem?_pos, b82_0, eTool, e2, e3, e4, wrap64]
    rw [iter_succ]
    simp (maxSteps := 2000000) (disch := first | omega | (simp; done) | (simp; omega)) [-getElem?_pos, b82_0, eTool]
  simp only [eTool] at L
  refine run2_body 3 rfl rfl rfl rfl rfl ?_
  simp (maxSteps := 2000000) (disch := first | omega | (simp; done) | (simp; omega)) [-getElem?_pos, l82, e1, L]
theorem p83 (s : Shp) : R 83 [.agg (eTool s), S 4 (eOrd s)] = some (.tup [.agg (eTool s), S 4 (eOrd s)]) := by
  simp only [eTool, eOrd]
  refine run2_body 1 rfl rfl rfl rfl rfl ?_
  simp (maxSteps := 2000000) (disch := first | omega | (simp; done) | (simp; omega)) [-getElem?_pos, l83]
theorem p57_1 (s : Shp) : R 57 [.gref (eTool s ++ [S 4 (eOrd s), S 1 [[I 0]], B false])] = some (I 0) := by
  simp only [eTool, eOrd, List.cons_append, List.nil_append]
  refine run2_body 1 rfl rfl rfl rfl rfl ?_
  simp (maxSteps := 2000000) (disch := first | omega | (simp; done) | (simp; omega)) [-getElem?_pos, l57, wrap64]
theorem p57_c (s : Shp) : R 57 [.cref (eTool s ++ [S 4 (eOrd s), S 1 [[I 0]], B false])] = some (I 0) := by
  simp only [eTool, eOrd, List.cons_append, List.nil_append]
  refine run2_body 1 rfl rfl rfl rfl rfl ?_
  simp (maxSteps := 2000000) (disch := first | omega | (simp; done) | (simp; omega)) [-getElem?_pos, l57, wrap64]
theorem p57 (s : Shp) : R 57 [.gref (eShop s)] = some (I s.n) := by
  simp only [eShop, eTool, eOrd, List.cons_append, List.nil_append]
  refine run2_body 1 rfl rfl rfl rfl rfl ?_
  simp (maxSteps := 2000000) (disch := first | omega | (simp; done) | (simp; omega)) [-getElem?_pos, l57, wrap64]
@[simp] theorem slT2_int {ts : List Nat} {k : IntKind} {i : Int} : slT2 ts (.int k i) = some false := rfl
@[simp] theorem slT2_bool {ts : List Nat} {b : Bool} : slT2 ts (.bool b) = some false := rfl
@[simp] theorem slT2_none {ts : List Nat} {z : Nat} {es : List (List V)} : slT2 ts (.sl none z es) = some false := rfl
theorem p55 {s : Shp} (h : s.Ok) : R 55 [.agg (eTool s), S 4 (eOrd s)] = some (.tup [.gref (eShop s), I 0]) := by
  have e1 := p82 h
  have e2 := p83 s
  have e3 := p57_c s
  have hn := h.n
  simp only [eShop, eTool, eOrd, List.cons_append, List.nil_append] at e1 e2 e3 ⊢
  have L : iter (evC2 R 3 b55_0) 3 { fr := [(7, .ref 20 0), (20, .box [B false, I s.set.1, I s.set.2, I s.scat.1, I s.scat.2, S 2 [[I s.wear.1, I s.wear.2]], S 4 [[I s.n, I 0, I s.zone.1, I s.zone.2]], .sl (some 5001600) 1 [[I 0]], B false]), (33, S 4 [[I s.n, I 0, I s.zone.1, I s.zone.2]]), (34, I 1), (35, I 0)], tk := [] } =
      some (.exit 0, { fr := [(7, .ref 20 0), (20, .box [B false, I s.set.1, I s.set.2, I s.scat.1, I s.scat.2, S 2 [[I s.wear.1, I s.wear.2]], S 4 [[I s.n, I 0, I s.zone.1, I s.zone.2]], .sl (some 5001600) 1 [[I 0], [I s.n]], B false]), (33, S 4 [[I s.n, I 0, I s.zone.1, I s.zone.2]]), (34, I 1), (35, I 1), (36, B false)], tk := [] }) := by
    rw [iter_succ]
    simp (maxSteps := 2000000) (disch := first | omega | (simp; done) | (simp; omega)) [-getElem?_pos, b55_0, e3, wrap64]
    rw [iter_succ]
    simp (maxSteps := 2000000) (disch := first | omega | (simp; done) | (simp; omega)) [-getElem?_pos, b55_0]
  refine run2_body 3 rfl rfl rfl rfl rfl ?_
  simp (maxSteps := 2000000) (disch := first | omega | (simp; done) | (simp; omega)) [-getElem?_pos, l55, e1, e2, L]
theorem p89 {a b : Int × Int} (ha : (-100000000000 ≤ a.1 ∧ a.1 ≤ 100000000000) ∧ (-100000000000 ≤ a.2 ∧ a.2 ≤ 100000000000)) (hb : (-100000000000 ≤ b.1 ∧ b.1 ≤ 100000000000) ∧ (-100000000000 ≤ b.2 ∧ b.2 ≤ 100000000000)) : R 89 [eS a, eS b] = some (eS (a.1 + b.1, a.2 + b.2)) := by
  refine run2_body 1 rfl rfl rfl rfl rfl ?_
  simp (maxSteps := 2000000) (disch := first | omega | (simp; done) | (simp; omega)) [-getElem?_pos, l89, wrap64]
theorem p91 {a : Int × Int} (ha : (-1000000 ≤ a.1 ∧ a.1 ≤ 1000000) ∧ (-1000000 ≤ a.2 ∧ a.2 ≤ 1000000)) {n : Int} (hn : 0 ≤ n ∧ n ≤ 10000) : R 91 [eS a, I n] = some (eS (a.1 * n, a.2 * n)) := by
  have m1 := abs_mul (a := a.1) (b := n) (A := 1000000) (C := 10000) (by omega) (by omega)
  have m2 := abs_mul (a := a.2) (b := n) (A := 1000000) (C := 10000) (by omega) (by omega)
  have w1 := wrap64 (n := a.1 * n) (by omega) (by omega)
  have w2 := wrap64 (n := a.2 * n) (by omega) (by omega)
  generalize hz1 : a.1 * n = z1 at *
  generalize hz2 : a.2 * n = z2 at *
  refine run2_body 1 rfl rfl rfl rfl rfl ?_
  simp (maxSteps := 2000000) (disch := first | omega | (simp; done) | (simp; omega)) [-getElem?_pos, l91, hz1, hz2, w1, w2]
end Go.Lo

/- One order, one steel: targets, how far a setting can go. -/
namespace Go.Lo
open Go.Proofs
set_option linter.unusedSimpArgs false
set_option maxHeartbeats 8000000
theorem p90 (s : Shp) (a b : Int) : R 90 [.gref (eShop s), I a, I b] = some (.fn (.f 100) [.gref [.gref (eShop s)], .gref [I b], .gref [I a]]) := by
  refine run2_body 1 rfl rfl rfl rfl rfl ?_
  simp (maxSteps := 2000000) (disch := first | omega | (simp; done) | (simp; omega)) [-getElem?_pos, l90]
abbrev eOr (s : Shp) : V := .agg [I s.n, I 0, I s.zone.1, I s.zone.2]
theorem p100 {s : Shp} (h : s.Ok) {a b : Int} (ha : 0 ≤ a) (hab : a < b) (hb : b ≤ s.n) : R 100 [.fn (.y 0) [], .gref [.gref (eShop s)], .gref [I b], .gref [I a]] = some (.tup (tupsL [[eOr s, I (b - a)]])) := by
  have hn := h.n
  have m1 : minL b [(s.n : Int)] = b := by simp only [minL]; rw [if_neg (by omega)]
  have m2 : maxL a [0] = a := by
    simp only [maxL]
    split <;> omega
  simp only [eShop, eTool, eOrd, List.cons_append, List.nil_append]
  refine run2_iter 3 rfl rfl rfl rfl rfl ?_
  have L : iter (evC2 R 3 b100_0) 3 { fr := [(0, .fn (.y 0) []), (1, .gref [.gref [B false, I s.set.1, I s.set.2, I s.scat.1, I s.scat.2, S 2 [[I s.wear.1, I s.wear.2]], S 4 [[I s.n, I 0, I s.zone.1, I s.zone.2]], S 1 [[I 0], [I s.n]], B false]]), (2, .gref [I b]), (3, .gref [I a]), (11, S 4 [[I s.n, I 0, I s.zone.1, I s.zone.2]]), (12, I 1), (13, I 0)], tk := [], tr := some [] } =
      some (.exit 0, { fr := [(0, .fn (.y 0) []), (1, .gref [.gref [B false, I s.set.1, I s.set.2, I s.scat.1, I s.scat.2, S 2 [[I s.wear.1, I s.wear.2]], S 4 [[I s.n, I 0, I s.zone.1, I s.zone.2]], S 1 [[I 0], [I s.n]], B false]]), (2, .gref [I b]), (3, .gref [I a]), (11, S 4 [[I s.n, I 0, I s.zone.1, I s.zone.2]]), (12, I 1), (13, I 1), (14, B false)], tk := [], tr := some [[eOr s, I (b - a)]] }) := by
    have hw := wrap64 (n := b - a) (by omega) (by omega)
    have hp : 0 < b - a := by omega
    have w01 := wrap64 (n := 1) (by omega) (by omega)
    generalize hm : b - a = m at *
    rw [iter_succ]
    simp (maxSteps := 2000000) (disch := first | omega | (simp; done) | (simp; omega)) [-getElem?_pos, -maxL, -minL, b100_0, m1, m2, hm, hw, hp, w01]
    rw [iter_succ]
    simp (maxSteps := 2000000) (disch := first | omega | (simp; done) | (simp; omega)) [-getElem?_pos, b100_0]
  simp (maxSteps := 2000000) (disch := first | omega | (simp; done) | (simp; omega)) [-getElem?_pos, l100, L]
/-- A range that yields once. -/
theorem rng_one {f : St → List V → Option (Ex × St)} {it : Nat → Option V} {σ0 σ1 : St} {W : List V} (h1 : it 0 = some (.tup (tupsL [W]))) (hf : f σ0 W = some (.normal, σ1)) : rngE f it σ0 = some (.normal, σ1) := by
  have := rng_fold (f := f) (it := it) (σ0 := σ0) (s := fun l : List Unit => match l with | [] => σ0 | _ :: _ => σ1) (W := fun _ : Unit => W) (h := fun _ => [()]) (xs := [()]) (l0 := []) h1 (by simp) (fun _ => rfl) (fun pre x suf e => by
    have : pre = [] := by
      cases pre with
      | nil => rfl
      | cons y l =>
        have := congrArg List.length e
        simp at this
    subst this
    exact hf)
  exact this
/-- The targets of so many pieces. -/
def tgS (s : Shp) (m : Int) : Int × Int := (s.zone.1 - (s.set.1 + s.scat.1), s.zone.2 - (s.set.2 + s.scat.2) - s.wear.2 * (m - 1))
theorem p61 {s : Shp} (h : s.Ok) {a b : Int} (ha : 0 ≤ a) (hab : a < b) (hb : b ≤ s.n) : R 61 [.gref (eShop s), I a, I b] = some (eS (tgS s (b - a))) := by
  have e1 := p100 h ha hab hb
  have e2 := p90 s a b
  have hn := h.n
  have hs := h.set
  have hc := h.scat
  have hw := h.wear
  have hz := h.zone
  have hm1 : 1 ≤ b - a := by omega
  have hm2 : b - a ≤ 10000 := by omega
  clear ha hab hb
  unfold tgS
  generalize b - a = m at *
  have e3 := p89 (a := s.set) (b := s.scat) (by omega) (by omega)
  have e4 := p91 (a := s.wear) (n := m) (by omega) (by omega)
  have k1 := abs_mul (a := s.wear.1) (b := m) (A := 100000) (C := 10000) (by omega) (by omega)
  have k2 := abs_mul (a := s.wear.2) (b := m) (A := 100000) (C := 10000) (by omega) (by omega)
  have k3 := abs_mul (a := s.wear.2) (b := m - 1) (A := 100000) (C := 10000) (by omega) (by omega)
  have e5 := p89 (a := (0, 0)) (b := (s.wear.1 * m, s.wear.2 * m)) (by omega) (by simp only; omega)
  simp only [Int.zero_add] at e5
  generalize hx1 : s.wear.1 * m = x1 at *
  generalize hx2 : s.wear.2 * m = x2 at *
  have w1 := wrap64 (n := m - 1) (by omega) (by omega)
  have w2 := wrap64 (n := s.wear.2 * (m - 1)) (by omega) (by omega)
  generalize hx3 : s.wear.2 * (m - 1) = x3 at *
  have w3 := wrap64 (n := s.zone.1 - (s.set.1 + s.scat.1)) (by omega) (by omega)
  have w4 := wrap64 (n := s.zone.2 - (s.set.2 + s.scat.2)) (by omega) (by omega)
  have w5 := wrap64 (n := s.zone.2 - (s.set.2 + s.scat.2) - x3) (by omega) (by omega)
  generalize hx4 : s.zone.1 - (s.set.1 + s.scat.1) = x4 at *
  generalize hx5 : s.zone.2 - (s.set.2 + s.scat.2) = x5 at *
  generalize hx6 : x5 - x3 = x6 at *
  have EQ := fun (_ : Unit) => And.intro w1 (And.intro w2 (And.intro w3 (And.intro w4 (And.intro w5 (And.intro hx3 (And.intro hx4 (And.intro hx5 hx6)))))))
  clear w1 w2 w3 w4 w5 hx1 hx2 hx3 hx4 hx5 hx6 k1 k2 k3 hs hc hw hz hn hm1 hm2 h
  simp only [eShop, eTool, eOrd, List.cons_append, List.nil_append] at e1 e2 ⊢
  have L := rng_one (f := roundE (evC2 R 3 b61_0a) (evC2 R 3 b61_0) [32, 33] b61_0w) (it := fun y => R 100 [.fn (.y y) [], .gref [.gref [B false, I s.set.1, I s.set.2, I s.scat.1, I s.scat.2, S 2 [[I s.wear.1, I s.wear.2]], S 4 [[I s.n, I 0, I s.zone.1, I s.zone.2]], S 1 [[I 0], [I s.n]], B false]], .gref [I b], .gref [I a]])
    (σ0 := { fr := [(3, .box [.gref [B false, I s.set.1, I s.set.2, I s.scat.1, I s.scat.2, S 2 [[I s.wear.1, I s.wear.2]], S 4 [[I s.n, I 0, I s.zone.1, I s.zone.2]], S 1 [[I 0], [I s.n]], B false]]), (6, .box [I 0, I 0]), (7, .box [I (s.set.1 + s.scat.1), I (s.set.2 + s.scat.2)]), (8, .box [I 0, I 0]), (9, .box [I 0, I 0]), (10, .box [B false]), (31, .fn (.f 100) [.gref [.gref [B false, I s.set.1, I s.set.2, I s.scat.1, I s.scat.2, S 2 [[I s.wear.1, I s.wear.2]], S 4 [[I s.n, I 0, I s.zone.1, I s.zone.2]], S 1 [[I 0], [I s.n]], B false]], .gref [I b], .gref [I a]])], tk := [] })
    (σ1 := { fr := [(3, .box [.gref [B false, I s.set.1, I s.set.2, I s.scat.1, I s.scat.2, S 2 [[I s.wear.1, I s.wear.2]], S 4 [[I s.n, I 0, I s.zone.1, I s.zone.2]], S 1 [[I 0], [I s.n]], B false]]), (6, .box [I 0, I 0]), (7, .box [I (s.set.1 + s.scat.1), I (s.set.2 + s.scat.2)]), (8, .box [I x4, I x6]), (9, .box [I x1, I x2]), (10, .box [B true])], tk := [] }) e1 (by
    clear e1 e2
    simp (maxSteps := 2000000) (disch := first | omega | (simp; done) | (simp; omega)) [-getElem?_pos, b61_0a, b61_0, b61_0w, e3, e4, e5, EQ ()])
  clear e1
  simp only [b61_0w] at L
  refine run2_body 3 rfl rfl rfl rfl rfl ?_
  simp (maxSteps := 2000000) (disch := first | omega | (simp; done) | (simp; omega)) [-getElem?_pos, l61, b61_0w, e2, e3, L]
end Go.Lo

/- sort.Search, and how far a setting can go. -/
namespace Go.Lo
open Go.Proofs
set_option linter.unusedSimpArgs false
set_option maxHeartbeats 8000000
theorem p87 {s : Shp} (h : s.Ok) {a b : Int} (ha : 0 ≤ a) (hab : a < b) (hb : b ≤ s.n) : R 87 [.gref (eShop s), I a, I b] = some (B (decide ((tgS s (b - a)).1 ≤ (tgS s (b - a)).2))) := by
  have e1 := p61 h ha hab hb
  generalize tgS s (b - a) = x at *
  simp only [eShop, eTool, eOrd, List.cons_append, List.nil_append] at e1 ⊢
  refine run2_body 1 rfl rfl rfl rfl rfl ?_
  simp (maxSteps := 2000000) (disch := first | omega | (simp; done) | (simp; omega)) [-getElem?_pos, l87, e1]
theorem p86 {s : Shp} (h : s.Ok) {a i : Int} (ha : 0 ≤ a) (hi : 0 ≤ i) (hb : a + i < s.n) : R 86 [I i, .cref [.gref (eShop s)], .cref [I a]] = some (B (!decide ((tgS s (i + 1)).1 ≤ (tgS s (i + 1)).2))) := by
  have hn := h.n
  have e1 := p87 h (a := a) (b := a + i + 1) ha (by omega) (by omega)
  rw [show a + i + 1 - a = i + 1 by omega] at e1
  have w1 := wrap64 (n := a + i) (by omega) (by omega)
  have w2 := wrap64 (n := a + i + 1) (by omega) (by omega)
  generalize tgS s (i + 1) = x at *
  simp only [eShop, eTool, eOrd, List.cons_append, List.nil_append] at e1 ⊢
  clear hb hi ha hn
  refine run2_body 1 rfl rfl rfl rfl rfl ?_
  simp (maxSteps := 2000000) (disch := first | omega | (simp; done) | (simp; omega)) [-getElem?_pos, l86, e1, w1, w2]
abbrev capR (s : Shp) (a : Int) : List V := [.cref [.gref [B false, I s.set.1, I s.set.2, I s.scat.1, I s.scat.2, S 2 [[I s.wear.1, I s.wear.2]], S 4 [[I s.n, I 0, I s.zone.1, I s.zone.2]], S 1 [[I 0], [I s.n]], B false]], .cref [I a]]
abbrev sSe (s : Shp) (a i j : Int) : St := { fr := [(1, .fn (.f 86) (capR s a)), (5, I i), (6, I j)], tk := [] }
theorem shr_half {n : Int} (h0 : 0 ≤ n) (h1 : n ≤ 1000000000) : IntKind.i64.wrap ((IntKind.u64.wrap n).fdiv (2 ^ min 1 IntKind.u64.bits)) = n / 2 := by
  have h2 : IntKind.u64.wrap n = n := by
    simp [IntKind.wrap, IntKind.bits, IntKind.signed]
    omega
  rw [h2, show (2 : Int) ^ min 1 IntKind.u64.bits = 2 from rfl, Int.fdiv_eq_ediv_of_nonneg _ (by omega)]
  exact wrap64 (by omega) (by omega)
theorem se_end {s : Shp} {M : Nat} {a i : Int} : evC2 R M b85_0 (sSe s a i i) = some (.exit 0, { fr := [(1, .fn (.f 86) (capR s a)), (5, I i), (6, I i), (11, B false)], tk := [] }) := by
  simp (maxSteps := 2000000) (disch := first | omega | (simp; done) | (simp; omega)) [-getElem?_pos, b85_0]
theorem se_round {s : Shp} {M : Nat} {a i j : Int} {q : Bool} (h0 : 0 ≤ i) (hij : i < j) (hj : j ≤ 1000000) (hc : R 86 (I ((i + j) / 2) :: capR s a) = some (B q)) :
    evC2 R M b85_0 (sSe s a i j) = some (.normal, if q then sSe s a i ((i + j) / 2) else sSe s a ((i + j) / 2 + 1) j) := by
  have w1 := wrap64 (n := i + j) (by omega) (by omega)
  have w2 := shr_half (n := i + j) (by omega) (by omega)
  have w3 := wrap64 (n := (i + j) / 2 + 1) (by omega) (by omega)
  generalize (i + j) / 2 = m at *
  clear h0 hj
  cases q <;> simp (maxSteps := 2000000) (disch := first | omega | (simp; done) | (simp; omega)) [-getElem?_pos, b85_0, hc, hij, w1, w2, w3]
/-- The room that a setting leaves for wear, and how many pieces it lets be done. -/
def room (s : Shp) : Int := s.zone.2 - (s.set.2 + s.scat.2) - (s.zone.1 - (s.set.1 + s.scat.1))
def lim (s : Shp) : Int := if room s < 0 then 0 else if s.wear.2 = 0 then 1000000 else room s / s.wear.2 + 1
theorem tg_can (s : Shp) (i : Int) : (tgS s (i + 1)).1 ≤ (tgS s (i + 1)).2 ↔ s.wear.2 * i ≤ room s := by
  unfold tgS room
  rw [show i + 1 - 1 = i by omega]
  simp only
  omega
theorem lim_iff {s : Shp} (h : s.Ok) {i : Int} (h0 : 0 ≤ i) (h1 : i ≤ 10000) : s.wear.2 * i ≤ room s ↔ i < lim s := by
  have hw := h.wear
  unfold lim
  by_cases hr : room s < 0
  · rw [if_pos hr]
    have : 0 ≤ s.wear.2 * i := Int.mul_nonneg (by omega) h0
    omega
  · rw [if_neg hr]
    by_cases hz : s.wear.2 = 0
    · rw [if_pos hz, hz, Int.zero_mul]
      omega
    · rw [if_neg hz]
      have : i ≤ room s / s.wear.2 ↔ i * s.wear.2 ≤ room s := Int.le_ediv_iff_mul_le (by omega)
      rw [Int.mul_comm] at this
      rw [← this]
      omega
theorem lim_nn {s : Shp} (h : s.Ok) : 0 ≤ lim s := by
  have hw := h.wear
  unfold lim
  by_cases hr : room s < 0
  · rw [if_pos hr]; omega
  · rw [if_neg hr]
    by_cases hz : s.wear.2 = 0
    · rw [if_pos hz]; omega
    · rw [if_neg hz]
      have := Int.ediv_nonneg (show 0 ≤ room s by omega) (show 0 ≤ s.wear.2 by omega)
      omega
theorem reach1_at {s : Shp} (h : s.Ok) {a i : Int} (ha : 0 ≤ a) (hi : 0 ≤ i) (hb : a + i < s.n) : R 86 (I i :: capR s a) = some (B (!decide (i < lim s))) := by
  have hn := h.n
  have e := p86 h ha hi hb
  rw [show decide ((tgS s (i + 1)).1 ≤ (tgS s (i + 1)).2) = decide (i < lim s) from decide_eq_decide.2 ((tg_can s i).trans (lim_iff h hi (by omega)))] at e
  exact e
theorem se_loop {s : Shp} (h : s.Ok) {a : Int} (ha : 0 ≤ a) {M : Nat} : ∀ (d : Nat) (i j : Int), 0 ≤ i → i ≤ min (s.n - a) (lim s) → min (s.n - a) (lim s) ≤ j → j ≤ s.n - a → j - i ≤ d →
    iter (evC2 R M b85_0) (d + 1) (sSe s a i j) = some (.exit 0, { fr := [(1, .fn (.f 86) (capR s a)), (5, I (min (s.n - a) (lim s))), (6, I (min (s.n - a) (lim s))), (11, B false)], tk := [] }) := by
  have hn := h.n
  have stop : ∀ (d : Nat) (i : Int), i = min (s.n - a) (lim s) → iter (evC2 R M b85_0) (d + 1) (sSe s a i i) = some (.exit 0, { fr := [(1, .fn (.f 86) (capR s a)), (5, I (min (s.n - a) (lim s))), (6, I (min (s.n - a) (lim s))), (11, B false)], tk := [] }) := by
    intro d i e
    subst e
    rw [iter_succ, se_end]
  intro d
  induction d with
  | zero =>
    intro i j h0 h1 h2 h3 h4
    have e1 : i = min (s.n - a) (lim s) := by omega
    have e2 : j = i := by omega
    rw [e2]
    exact stop 0 i e1
  | succ d ih =>
    intro i j h0 h1 h2 h3 h4
    by_cases hij : i < j
    · have hc := reach1_at h (a := a) (i := (i + j) / 2) ha (by omega) (by omega)
      rw [iter_succ, se_round h0 hij (by omega) hc]
      by_cases hl : (i + j) / 2 < lim s
      · simp only [hl, decide_true, Bool.not_true, Bool.false_eq_true, if_false]
        exact ih _ _ (by omega) (by omega) h2 h3 (by omega)
      · simp only [hl, decide_false, Bool.not_false, if_true]
        exact ih _ _ h0 h1 (by omega) (by omega) (by omega)
    · have e1 : i = min (s.n - a) (lim s) := by omega
      have e2 : j = i := by omega
      rw [e2]
      exact stop (d + 1) i e1
theorem p85 {s : Shp} (h : s.Ok) {a : Int} (ha : 0 ≤ a) (hb : a ≤ s.n) : R 85 [I (s.n - a), .fn (.f 86) (capR s a)] = some (I (min (s.n - a) (lim s))) := by
  have hl := lim_nn h
  have L := se_loop h ha (M := s.n + 1) s.n 0 (s.n - a) (by omega) (by omega) (by omega) (by omega) (by omega)
  generalize min (s.n - a) (lim s) = x at *
  generalize (s.n : Int) - a = y at *
  refine run2_body (s.n + 1) rfl rfl rfl rfl rfl ?_
  simp (maxSteps := 2000000) (disch := first | omega | (simp; done) | (simp; omega)) [-getElem?_pos, l85, L]
theorem p58 {s : Shp} (h : s.Ok) {a : Int} (ha : 0 ≤ a) (hb : a ≤ s.n) : R 58 [.gref (eShop s), I a] = some (I (a + min (s.n - a) (lim s))) := by
  have hn := h.n
  have hl := lim_nn h
  have e1 := p85 h ha hb
  have e2 := p57 s
  have w1 := wrap64 (n := s.n - a) (by omega) (by omega)
  have w2 := wrap64 (n := a + min (s.n - a) (lim s)) (by omega) (by omega)
  generalize min (s.n - a) (lim s) = x at *
  simp only [eShop, eTool, eOrd, List.cons_append, List.nil_append] at e1 e2 ⊢
  refine run2_body 1 rfl rfl rfl rfl rfl ?_
  simp (maxSteps := 2000000) (disch := first | omega | (simp; done) | (simp; omega)) [-getElem?_pos, l58, e1, e2, w1, w2]
theorem p60 (s : Shp) (x : Int × Int) : R 60 [.gref (eShop s), eS x] = some (eS x) := by
  simp only [eShop, eTool, eOrd, List.cons_append, List.nil_append]
  refine run2_body 1 rfl rfl rfl rfl rfl ?_
  simp (maxSteps := 2000000) (disch := first | omega | (simp; done) | (simp; omega)) [-getElem?_pos, l60]
end Go.Lo

/- The settings of a plan. -/
namespace Go.Lo
open Go.Proofs
set_option linter.unusedSimpArgs false
set_option maxHeartbeats 8000000
/-- Where the k-th setting begins, and how many there are. -/
def pos (s : Shp) (k : Nat) : Int := min ((k : Int) * lim s) s.n
def cuts (s : Shp) : Nat := ((s.n + lim s - 1) / lim s).toNat
theorem cut_iff {s : Shp} (h : s.Ok) (hl : 1 ≤ lim s) (k : Nat) : k < cuts s ↔ (k : Int) * lim s < s.n := by
  have hn := h.n
  unfold cuts
  have h1 : (k : Int) + 1 ≤ (s.n + lim s - 1) / lim s ↔ ((k : Int) + 1) * lim s ≤ s.n + lim s - 1 := Int.le_ediv_iff_mul_le (by omega)
  rw [Int.add_mul, Int.one_mul] at h1
  generalize (k : Int) * lim s = x at *
  generalize (s.n + lim s - 1) / lim s = y at *
  omega
theorem pos_zero {s : Shp} : pos s 0 = 0 := by
  unfold pos
  simp only [Int.natCast_zero, Int.zero_mul]
  omega
theorem pos_bd {s : Shp} (h : s.Ok) (hl : 1 ≤ lim s) (k : Nat) : 0 ≤ pos s k ∧ pos s k ≤ s.n := by
  have hn := h.n
  have : 0 ≤ (k : Int) * lim s := Int.mul_nonneg (by omega) (by omega)
  unfold pos
  omega
theorem pos_lt {s : Shp} (h : s.Ok) (hl : 1 ≤ lim s) {k : Nat} (hk : k < cuts s) : pos s k < s.n := by
  have := (cut_iff h hl k).1 hk
  unfold pos
  omega
theorem pos_end {s : Shp} (h : s.Ok) (hl : 1 ≤ lim s) : pos s (cuts s) = s.n := by
  have := (not_congr (cut_iff h hl (cuts s))).1 (by omega)
  unfold pos
  omega
theorem pos_succ {s : Shp} (h : s.Ok) (hl : 1 ≤ lim s) (k : Nat) : pos s k + min (s.n - pos s k) (lim s) = pos s (k + 1) := by
  unfold pos
  have e : ((k + 1 : Nat) : Int) * lim s = (k : Int) * lim s + lim s := by
    rw [Int.natCast_add, Int.natCast_one, Int.add_mul, Int.one_mul]
  rw [e]
  generalize (k : Int) * lim s = x at *
  omega
theorem pos_ne {s : Shp} (h : s.Ok) (hl : 1 ≤ lim s) {k : Nat} (hk : k < cuts s) : pos s k < pos s (k + 1) := by
  have h1 := pos_lt h hl hk
  rw [← pos_succ h hl k]
  omega
def accP (s : Shp) (k : Nat) : List (List V) := (List.range k).map fun k => [I (pos s k), I (pos s (k + 1))]
theorem accP_succ (s : Shp) (k : Nat) : accP s (k + 1) = accP s k ++ [[I (pos s k), I (pos s (k + 1))]] := by unfold accP; rw [List.range_succ, List.map_append]; rfl
theorem p59_0 {s : Shp} (h : s.Ok) (hl : 1 ≤ lim s) : R 59 [.gref (eShop s), .fn (.y 0) []] = some (.tup (tupsL (accP s (cuts s)))) := by
  have e0 := p57 s
  have L := loop_all (s := fun k => { fr := [(0, .gref (eShop s)), (1, .fn (.y 0) []), (4, I (pos s k))], tk := [], tr := some (accP s k) }) (f := evC2 R (cuts s + 1) b59_0) (n := cuts s)
    (X := (.exit 0, { fr := [(0, .gref (eShop s)), (1, .fn (.y 0) []), (4, I s.n), (9, B false)], tk := [], tr := some (accP s (cuts s)) }))
    (fun k hk => by
      have e1 := p58 h (pos_bd h hl k).1 (pos_bd h hl k).2
      rw [pos_succ h hl k] at e1
      have h1 := pos_lt h hl hk
      have h2 := pos_ne h hl hk
      rw [accP_succ]
      generalize pos s k = x at *
      generalize pos s (k + 1) = y at *
      generalize accP s k = acc at *
      have h3 : ¬ y = x := by omega
      simp only [eShop, eTool, eOrd, List.cons_append, List.nil_append] at e0 e1 ⊢
      simp (maxSteps := 2000000) (disch := first | omega | (simp; done) | (simp; omega)) [-getElem?_pos, b59_0, e0, e1, h1, h3]) (by
      rw [pos_end h hl]
      generalize accP s (cuts s) = acc at *
      simp only [eShop, eTool, eOrd, List.cons_append, List.nil_append] at e0 ⊢
      simp (maxSteps := 2000000) (disch := first | omega | (simp; done) | (simp; omega)) [-getElem?_pos, b59_0, e0]) (by simp)
  have hz : accP s 0 = [] := rfl
  rw [pos_zero, hz] at L
  generalize accP s (cuts s) = acc at *
  simp only [eShop, eTool, eOrd, List.cons_append, List.nil_append] at L ⊢
  refine run2_iter (cuts s + 1) rfl rfl rfl rfl rfl ?_
  simp (maxSteps := 2000000) (disch := first | omega | (simp; done) | (simp; omega)) [-getElem?_pos, l59, L]
theorem p59_no {s : Shp} (h : s.Ok) (hl : lim s = 0) (a : Nat) : R 59 [.gref (eShop s), .fn (.y a) []] = some (.tup (tupsL [[I 0, I 0]])) := by
  have e0 := p57 s
  have hn := h.n
  have e1 := p58 h (a := 0) (by omega) (by omega)
  rw [hl, show (0 : Int) + min ((s.n : Int) - 0) 0 = 0 by omega] at e1
  have h1 : (0 : Int) < s.n := by omega
  have h2 : 0 < s.n := by omega
  simp only [eShop, eTool, eOrd, List.cons_append, List.nil_append] at e0 e1 ⊢
  clear hl hn h
  refine run2_iter 3 rfl rfl rfl rfl rfl ?_
  have L : iter (evC2 R 3 b59_0) 3 { fr := [(0, .gref (eShop s)), (1, .fn (.y a) []), (4, I 0)], tk := [], tr := some [] } =
      some (.ret, { fr := [(0, .gref (eShop s)), (1, .fn (.y a) []), (5, I 0), (22, B true)], tk := [], tr := some [[I 0, I 0]] }) := by
    simp only [eShop, eTool, eOrd, List.cons_append, List.nil_append]
    rw [iter_succ]
    rcases a with _ | a
    · simp (maxSteps := 2000000) (disch := first | omega | (simp; done) | (simp; omega)) [-getElem?_pos, b59_0, e0, e1, h1, h2]
    · by_cases ha : a = 0 <;> simp (maxSteps := 2000000) (disch := first | omega | (simp; done) | (simp; omega)) [-getElem?_pos, b59_0, e0, e1, h1, h2, ha]
  simp only [eShop, eTool, eOrd, List.cons_append, List.nil_append] at L
  simp (maxSteps := 2000000) (disch := first | omega | (simp; done) | (simp; omega)) [-getElem?_pos, l59, L]
end Go.Lo

/- A plan. -/
namespace Go.Lo
open Go.Proofs
set_option linter.unusedSimpArgs false
set_option maxHeartbeats 8000000
/-- A range that is left at its first round. -/
theorem rng_no {f : St → List V → Option (Ex × St)} {it : Nat → Option V} {σ0 : St} {W : List V} {E : Ex × St} (h1 : ∀ a, it a = some (.tup (tupsL [W]))) (hf : f σ0 W = some E) (hE : E.1 ≠ .normal) : rngE f it σ0 = some E := by
  have F : foldR f 0 σ0 [W] = some (some (0, E.1), E.2) := by
    simp only [foldR, hf]
  unfold rngE
  rw [h1 0]
  simp only [itemsOf, itemsL_tups]
  rw [F]
  simp only
  rw [h1 (0 + 1)]
  simp only [itemsL_tups]
  rw [F]
  simp
theorem p30_no {s : Shp} (h : s.Ok) (hl : lim s = 0) : R 30 [.agg (eTool s), S 4 (eOrd s)] = some (.tup [.sl (some 2000000) 2 [], I 7]) := by
  have e1 := p55 h
  have e2 := p59_no h hl
  have L := rng_no (f := roundE (evC2 R 1 b30_0a) (evC2 R 1 b30_0) [20, 21] b30_0w) (it := fun y => R 59 [.gref (eShop s), .fn (.y y) []])
    (σ0 := { fr := [(4, .box [.sl (some 2003600) 2 []]), (5, .box [I 0]), (6, .box [.gref (eShop s)]), (19, .fn (.m 59) [.gref (eShop s)])], tk := [] })
    (E := (.ret, { fr := [(4, .box [.sl (some 2003600) 2 []]), (5, .box [I 7])], tk := [] })) e2 (by
    simp only [eShop, eTool, eOrd, List.cons_append, List.nil_append]
    simp (maxSteps := 2000000) (disch := first | omega | (simp; done) | (simp; omega)) [-getElem?_pos, b30_0a, b30_0, b30_0w]) (by simp)
  simp only [b30_0w, eShop, eTool, eOrd, List.cons_append, List.nil_append] at e1 L ⊢
  refine run2_body 1 rfl rfl rfl rfl rfl ?_
  simp (maxSteps := 2000000) (disch := first | omega | (simp; done) | (simp; omega)) [-getElem?_pos, l30, b30_0w, e1, L]
abbrev ePl (s : Shp) (l : List Int) : List (List V) := l.map fun x => [I x, I (s.zone.1 - (s.set.1 + s.scat.1))]
abbrev sPl (s : Shp) (l : List Int) : St := { fr := [(4, .box [.sl (some 2003600) 2 (ePl s l)]), (5, .box [I 0]), (6, .box [.gref (eShop s)])], tk := [] }
theorem cuts_le {s : Shp} (h : s.Ok) (hl : 1 ≤ lim s) : cuts s ≤ 10000 := by
  have hn := h.n
  by_cases hc : cuts s ≤ 10000
  · exact hc
  · have := (cut_iff h hl 10000).1 (by omega)
    have : (1 : Int) * 10000 ≤ lim s * 10000 := Int.mul_le_mul_of_nonneg_right hl (by omega)
    omega
theorem pl_round {s : Shp} (h : s.Ok) (hl : 1 ≤ lim s) {k : Nat} (hk : k < cuts s) {l : List Int} (hll : l.length ≤ 10000) : roundE (evC2 R 1 b30_0a) (evC2 R 1 b30_0) [20, 21] b30_0w (sPl s l) [I (pos s k), I (pos s (k + 1))] = some (.normal, sPl s (l ++ [pos s k])) := by
  have h1 := pos_ne h hl hk
  have e1 := p61 h (pos_bd h hl k).1 h1 (pos_bd h hl (k + 1)).2
  have e2 := p60 s (tgS s (pos s (k + 1) - pos s k))
  unfold tgS at e1 e2
  generalize s.zone.2 - (s.set.2 + s.scat.2) - s.wear.2 * (pos s (k + 1) - pos s k - 1) = q at *
  generalize pos s k = x at *
  generalize pos s (k + 1) = y at *
  have h3 : ¬ x = y := by omega
  simp only [eShop, eTool, eOrd, List.cons_append, List.nil_append, ePl] at e1 e2 ⊢
  generalize hz : s.zone.1 - (s.set.1 + s.scat.1) = z at *
  clear h hl hk h1
  cases l with
  | nil => simp (maxSteps := 2000000) (disch := first | omega | (simp; done) | (simp; omega)) [-getElem?_pos, b30_0a, b30_0, b30_0w, e1, e2, h3, hz]
  | cons a l =>
    simp only [List.length_cons] at hll
    simp (maxSteps := 2000000) (disch := first | omega | (simp; done) | (simp; omega)) [-getElem?_pos, b30_0a, b30_0, b30_0w, e1, e2, h3, hz]
/-- The plan: settings at equal distances. -/
theorem p30 {s : Shp} (h : s.Ok) (hl : 1 ≤ lim s) : R 30 [.agg (eTool s), S 4 (eOrd s)] = some (.tup [.sl (some 2000000) 2 (ePl s ((List.range (cuts s)).map (pos s))), I 0]) := by
  have e1 := p55 h
  have e2 := p59_0 h hl
  have hc := cuts_le h hl
  have hc0 : 0 < cuts s := (cut_iff h hl 0).2 (by
    have hn := h.n
    simp only [Int.natCast_zero, Int.zero_mul]
    omega)
  have L := rng_fold (f := roundE (evC2 R 1 b30_0a) (evC2 R 1 b30_0) [20, 21] b30_0w) (it := fun y => R 59 [.gref (eShop s), .fn (.y y) []])
    (σ0 := { fr := [(4, .box [.sl (some 2003600) 2 []]), (5, .box [I 0]), (6, .box [.gref (eShop s)]), (19, .fn (.m 59) [.gref (eShop s)])], tk := [] })
    (s := sPl s) (l0 := []) (W := fun k => [I (pos s k), I (pos s (k + 1))]) (h := fun k => [pos s k]) (xs := List.range (cuts s)) e2 (fun e => by
      have := congrArg List.length e
      rw [List.length_range, List.length_nil] at this
      omega) (fun k => by
      simp only [eShop, eTool, eOrd, List.cons_append, List.nil_append]
      simp (maxSteps := 2000000) (disch := first | omega | (simp; done) | (simp; omega)) [-getElem?_pos, b30_0a, b30_0w]) (fun pre k suf e => by
      have hk : k < cuts s := by
        have : k ∈ List.range (cuts s) := by rw [e]; simp
        exact List.mem_range.1 this
      have hpre : pre.length ≤ 10000 := by
        have := congrArg List.length e
        simp at this
        omega
      have hll : ([] ++ pre.flatMap fun k => [pos s k]).length ≤ 10000 := by
        have := len_flatMap (h := fun k => [pos s k]) (c := 1) (fun _ => by simp) pre
        rw [List.nil_append]; omega
      exact pl_round h hl hk hll)
  have hlist : ([] ++ (List.range (cuts s)).flatMap fun k => [pos s k]) = (List.range (cuts s)).map (pos s) := by
    rw [List.nil_append]
    generalize List.range (cuts s) = r
    induction r with
    | nil => rfl
    | cons x r ih => rw [List.flatMap_cons, ih]; rfl
  rw [hlist] at L
  have hne : (List.range (cuts s)).map (pos s) ≠ [] := by
    intro e
    have := congrArg List.length e
    simp at this
    omega
  generalize (List.range (cuts s)).map (pos s) = l at *
  have hne2 : ePl s l ≠ [] := by simpa using hne
  simp only [b30_0w, eShop, eTool, eOrd, List.cons_append, List.nil_append] at e1 L ⊢
  generalize hq : ePl s l = q at *
  clear e2
  refine run2_body 1 rfl rfl rfl rfl rfl ?_
  cases q with
  | nil => exact absurd rfl hne2
  | cons x q => simp (maxSteps := 2000000) (disch := first | omega | (simp; done) | (simp; omega)) [-getElem?_pos, l30, b30_0w, e1, L, hq]
end Go.Lo

/- The die and the order in small numbers. -/
namespace Go.Lo
open Go.Proofs
set_option linter.unusedSimpArgs false
set_option maxHeartbeats 8000000
theorem arm_span (a b : Int) : R 8 [I a, I b] = some (eS (a, b)) := by
  refine run2_body 1 rfl rfl rfl rfl rfl ?_
  simp (maxSteps := 2000000) (disch := first | omega | (simp; done) | (simp; omega)) [-getElem?_pos, l8]
/-- A die in small numbers. -/
structure Ad where
  s0 : Int
  s1 : Int
  c0 : Int
  c1 : Int
  w0 : Int
  w1 : Int
  p : Int
  tr : List Int
structure Ad.Ok (x : Ad) : Prop where
  s0 : 0 ≤ x.s0 ∧ x.s0 ≤ 255
  s1 : 0 ≤ x.s1 ∧ x.s1 ≤ 255
  c0 : 0 ≤ x.c0 ∧ x.c0 ≤ 255
  c1 : 0 ≤ x.c1 ∧ x.c1 ≤ 255
  w0 : 0 ≤ x.w0 ∧ x.w0 ≤ 255
  w1 : 0 ≤ x.w1 ∧ x.w1 ≤ 255
  p : 0 ≤ x.p ∧ x.p ≤ 255
  tr : ∀ b ∈ x.tr, 0 ≤ b ∧ b ≤ 255
abbrev eAd (x : Ad) : List V := [.int .u8 x.s0, .int .u8 x.s1, .int .u8 x.c0, .int .u8 x.c1, .int .u8 x.w0, .int .u8 x.w1, .int .u8 x.p, S 1 (x.tr.map fun b => [.int .u8 b])]
/-- The shop that it stands for. -/
def shpOf (x : Ad) (z : Int × Int) : Shp := { set := (-200 * (x.s0 % 9), 200 * (x.s1 % 9)), scat := (-100 * (x.c0 % 9), 100 * (x.c1 % 9)), wear := (10 * (x.w0 % 20), 10 * (x.w0 % 20) + 10 * (x.w1 % 9)), n := (1 + x.p % 60).toNat, zone := (1000 * z.1, 1000 * z.2) }
theorem shpOf_ok {x : Ad} {z : Int × Int} (h : x.Ok) (hz : 0 ≤ z.1 ∧ z.1 ≤ z.2 ∧ z.2 ≤ 10000000) : (shpOf x z).Ok := by
  have h1 := h.s0
  have h2 := h.s1
  have h3 := h.c0
  have h4 := h.c1
  have h5 := h.w0
  have h6 := h.w1
  have h7 := h.p
  constructor <;> simp only [shpOf] <;> omega
theorem p31 {x : Ad} (h : x.Ok) {z : Int × Int} (hz : 0 ≤ z.1 ∧ z.1 ≤ z.2 ∧ z.2 ≤ 10000000) : R 31 [.agg (eAd x), eS z] = some (.sl (some 0) 4 (eOrd (shpOf x z))) := by
  have h7 := h.p
  have e1 := arm_span (1000 * z.1) (1000 * z.2)
  have hn : (((1 + x.p % 60).toNat : Nat) : Int) = 1 + x.p.tmod 60 := by
    rw [Int.tmod_eq_emod_of_nonneg h7.1]
    omega
  have ht : 0 ≤ x.p.tmod 60 ∧ x.p.tmod 60 < 60 := by
    rw [Int.tmod_eq_emod_of_nonneg h7.1]
    omega
  have w0 := wrap64 (n := x.p) (by omega) (by omega)
  have w1 := wrap64 (n := x.p.tmod 60) (by omega) (by omega)
  have w2 := wrap64 (n := 1 + x.p.tmod 60) (by omega) (by omega)
  have w3 := wrap64 (n := 1000 * z.1) (by omega) (by omega)
  have w4 := wrap64 (n := 1000 * z.2) (by omega) (by omega)
  simp only [shpOf, eOrd, hn, eAd]
  generalize x.tr.map _ = q
  refine run2_body 1 rfl rfl rfl rfl rfl ?_
  simp (maxSteps := 2000000) (disch := first | omega | (simp; done) | (simp; omega)) [-getElem?_pos, l31, e1, w0, w1, w2, w3, w4]
theorem p32 {x : Ad} (h : x.Ok) (z : Int × Int) : R 32 [.agg (eAd x)] = some (.agg [B false, I (shpOf x z).set.1, I (shpOf x z).set.2, I (shpOf x z).scat.1, I (shpOf x z).scat.2, .sl (some 0) 2 [[I (shpOf x z).wear.1, I (shpOf x z).wear.2]]]) := by
  have h1 := h.s0
  have h2 := h.s1
  have h3 := h.c0
  have h4 := h.c1
  have h5 := h.w0
  have h6 := h.w1
  simp only [shpOf]
  have g1 : x.s0.tmod 9 = x.s0 % 9 := Int.tmod_eq_emod_of_nonneg h1.1
  have g2 : x.s1.tmod 9 = x.s1 % 9 := Int.tmod_eq_emod_of_nonneg h2.1
  have g3 : x.c0.tmod 9 = x.c0 % 9 := Int.tmod_eq_emod_of_nonneg h3.1
  have g4 : x.c1.tmod 9 = x.c1 % 9 := Int.tmod_eq_emod_of_nonneg h4.1
  have g5 : x.w0.tmod 20 = x.w0 % 20 := Int.tmod_eq_emod_of_nonneg h5.1
  have g6 : x.w1.tmod 9 = x.w1 % 9 := Int.tmod_eq_emod_of_nonneg h6.1
  have b1 : 0 ≤ x.s0 % 9 ∧ x.s0 % 9 ≤ 8 := by omega
  have b2 : 0 ≤ x.s1 % 9 ∧ x.s1 % 9 ≤ 8 := by omega
  have b3 : 0 ≤ x.c0 % 9 ∧ x.c0 % 9 ≤ 8 := by omega
  have b4 : 0 ≤ x.c1 % 9 ∧ x.c1 % 9 ≤ 8 := by omega
  have b5 : 0 ≤ x.w0 % 20 ∧ x.w0 % 20 ≤ 19 := by omega
  have b6 : 0 ≤ x.w1 % 9 ∧ x.w1 % 9 ≤ 8 := by omega
  generalize x.s0 % 9 = a1 at *
  generalize x.s1 % 9 = a2 at *
  generalize x.c0 % 9 = a3 at *
  generalize x.c1 % 9 = a4 at *
  generalize x.w0 % 20 = a5 at *
  generalize x.w1 % 9 = a6 at *
  have u8 : ∀ {n : Int}, 0 ≤ n ∧ n ≤ 255 → IntKind.u8.wrap n = n := by
    intro n hn
    simp [IntKind.wrap, IntKind.bits, IntKind.signed]
    omega
  have v1 := u8 (n := a1) (by omega)
  have v2 := u8 (n := a2) (by omega)
  have v3 := u8 (n := a3) (by omega)
  have v4 := u8 (n := a4) (by omega)
  have v5 := u8 (n := a5) (by omega)
  have v6 := u8 (n := a6) (by omega)
  have w1 := wrap64 (n := a1) (by omega) (by omega)
  have w2 := wrap64 (n := a2) (by omega) (by omega)
  have w3 := wrap64 (n := a3) (by omega) (by omega)
  have w4 := wrap64 (n := a4) (by omega) (by omega)
  have w5 := wrap64 (n := a5) (by omega) (by omega)
  have w6 := wrap64 (n := a6) (by omega) (by omega)
  have y1 := wrap64 (n := -200 * a1) (by omega) (by omega)
  have y2 := wrap64 (n := 200 * a2) (by omega) (by omega)
  have y3 := wrap64 (n := -100 * a3) (by omega) (by omega)
  have y4 := wrap64 (n := 100 * a4) (by omega) (by omega)
  have y5 := wrap64 (n := 10 * a5) (by omega) (by omega)
  have y6 := wrap64 (n := 10 * a6) (by omega) (by omega)
  have y7 := wrap64 (n := 10 * a5 + 10 * a6) (by omega) (by omega)
  have e1 := fun a b => arm_span a b
  have EQ := fun (_ : Unit) => And.intro g1 (And.intro g2 (And.intro g3 (And.intro g4 (And.intro g5 (And.intro g6 (And.intro v1 (And.intro v2 (And.intro v3 (And.intro v4 (And.intro v5 v6))))))))))
  have EW := fun (_ : Unit) => And.intro w1 (And.intro w2 (And.intro w3 (And.intro w4 (And.intro w5 (And.intro w6 (And.intro y1 (And.intro y2 (And.intro y3 (And.intro y4 (And.intro y5 (And.intro y6 y7)))))))))))
  clear g1 g2 g3 g4 g5 g6 v1 v2 v3 v4 v5 v6 w1 w2 w3 w4 w5 w6 y1 y2 y3 y4 y5 y6 y7 b1 b2 b3 b4 b5 b6 h1 h2 h3 h4 h5 h6 u8 h
  simp only [eAd]
  generalize x.tr.map _ = q
  refine run2_body 1 rfl rfl rfl rfl rfl ?_
  simp (maxSteps := 2000000) (disch := first | omega | (simp; done) | (simp; omega)) [-getElem?_pos, l32, e1, EQ (), EW ()]
end Go.Lo

/- What a byte means. -/
namespace Go.Lo
open Go.Proofs
set_option linter.unusedSimpArgs false
set_option maxHeartbeats 8000000
/-- An integer of a span, by a byte. -/
def inn (s : Int × Int) (b : Int) : Int := s.1 + b % (s.2 - s.1 + 1)
theorem inn_bd {s : Int × Int} (hs : s.1 ≤ s.2) (b : Int) : s.1 ≤ inn s b ∧ inn s b ≤ s.2 := by
  have h1 := Int.emod_nonneg b (show s.2 - s.1 + 1 ≠ 0 by omega)
  have h2 := Int.emod_lt_of_pos b (show 0 < s.2 - s.1 + 1 by omega)
  unfold inn
  omega
theorem p13 {s : Int × Int} (hs : -1000000 ≤ s.1 ∧ s.1 ≤ s.2 ∧ s.2 ≤ 1000000) {b : Int} (hb : 0 ≤ b ∧ b ≤ 255) : R 13 [eS s, .int .u8 b] = some (I (inn s b)) := by
  have h1 := inn_bd (s := s) (by omega) b
  unfold inn at h1 ⊢
  have g1 : b.tmod (s.2 - s.1 + 1) = b % (s.2 - s.1 + 1) := Int.tmod_eq_emod_of_nonneg hb.1
  have n1 : ¬ s.2 - s.1 + 1 = 0 := by omega
  have w1 := wrap64 (n := b) (by omega) (by omega)
  have w2 := wrap64 (n := s.2 - s.1) (by omega) (by omega)
  have w3 := wrap64 (n := s.2 - s.1 + 1) (by omega) (by omega)
  have w4 := wrap64 (n := b % (s.2 - s.1 + 1)) (by omega) (by omega)
  have w5 := wrap64 (n := s.1 + b % (s.2 - s.1 + 1)) (by omega) (by omega)
  clear h1 hs hb
  generalize hd : s.2 - s.1 = d at *
  refine run2_body 1 rfl rfl rfl rfl rfl ?_
  simp (maxSteps := 2000000) (disch := first | omega | (simp; done) | (simp; omega)) [-getElem?_pos, l13, g1, n1, w1, w2, w3, w4, w5, hd]
/-- A byte of a list, round and round. -/
def byteAt (l : List Int) (i : Nat) : Int := (l[i % l.length]?).getD 0
theorem p14 {l : List Int} (hl : ∀ x ∈ l, 0 ≤ x ∧ x ≤ 255) {i : Nat} (hi : i ≤ 1000000) : R 14 [S 1 (l.map fun b => [.int .u8 b]), I i] = some (I (byteAt l i)) := by
  refine run2_body 1 rfl rfl rfl rfl rfl ?_
  unfold byteAt
  by_cases h0 : l = []
  · subst h0
    simp (maxSteps := 2000000) (disch := first | omega | (simp; done) | (simp; omega)) [-getElem?_pos, l14]
  · have hp : 0 < l.length := List.length_pos_iff.2 h0
    have hm := Nat.mod_lt i hp
    have hmi := Nat.mod_le i l.length
    have hx : l[i % l.length]? = some l[i % l.length] := List.getElem?_eq_getElem hm
    have hb := hl _ (List.getElem_mem hm)
    have g1 : (i : Int).tmod (l.length : Int) = ((i % l.length : Nat) : Int) := by
      rw [Int.tmod_eq_emod_of_nonneg (by omega)]
      rfl
    have n1 : ¬ (l.length : Int) = 0 := by omega
    have n2 : ¬ l.length = 0 := by omega
    rw [hx]
    generalize l[i % l.length] = v at *
    have w1 := wrap64 (n := ((i % l.length : Nat) : Int)) (by omega) (by omega)
    have w2 := wrap64 (n := v) (by omega) (by omega)
    generalize i % l.length = m at *
    clear hl hi hm hb hmi
    simp (maxSteps := 2000000) (disch := first | omega | (simp; done) | (simp; omega)) [-getElem?_pos, l14, hx, g1, n1, n2, w1, w2, h0]
theorem byteAt_bd {l : List Int} (hl : ∀ x ∈ l, 0 ≤ x ∧ x ≤ 255) (i : Nat) : 0 ≤ byteAt l i ∧ byteAt l i ≤ 255 := by
  unfold byteAt
  cases h : l[i % l.length]? with
  | none => simp
  | some v => exact hl v (List.mem_of_getElem? h)
theorem p11 : R 11 [] = some (B true) := run2_of (n := 60) (by kernel_rfl)
end Go.Lo

/- A die and an order in small numbers, as an argument. -/
namespace Go.Lo
open Go.Proofs
abbrev adTy : Ty := .st [arTy 2 .u8, arTy 2 .u8, arTy 2 .u8, .int .u8, .sl (.int .u8)]
theorem can_ad {v : V} (h : HasV adTy v) : ∃ x : Ad, Rel (.agg (eAd x)) noT v ∧ x.Ok := by
  simp only [HasV] at h
  obtain ⟨cs, rfl, h⟩ := h
  obtain ⟨x1, r1, rfl, h1, h⟩ := h.inv
  obtain ⟨x2, r2, rfl, h2, h⟩ := h.inv
  obtain ⟨x3, r3, rfl, h3, h⟩ := h.inv
  obtain ⟨x4, r4, rfl, h4, h⟩ := h.inv
  obtain ⟨x5, r5, rfl, h5, h⟩ := h.inv
  rw [HasCs] at h
  subst h
  obtain ⟨a, b, rfl, wa, wb⟩ := can_ar2 h1
  obtain ⟨c, d, rfl, wc, wd⟩ := can_ar2 h2
  obtain ⟨e, f, rfl, we, wf⟩ := can_ar2 h3
  obtain ⟨p, rfl, wp⟩ := can_k h4
  obtain ⟨v, rfl⟩ := h5.sl1
  obtain ⟨l, hl, hw⟩ := can_intsK h5
  refine ⟨⟨a, b, c, d, e, f, p, l⟩, ?_, ⟨wf_u8 wa, wf_u8 wb, wf_u8 wc, wf_u8 wd, wf_u8 we, wf_u8 wf, wf_u8 wp, fun y hy => wf_u8 (hw y hy)⟩⟩
  rw [Rel]
  exact ⟨_, rfl, RelL.cons (rel_int _ _) (RelL.cons (rel_int _ _) (RelL.cons (rel_int _ _) (RelL.cons (rel_int _ _) (RelL.cons (rel_int _ _) (RelL.cons (rel_int _ _) (RelL.cons (rel_int _ _) (RelL.one hl)))))))⟩
end Go.Lo

/- What the documents' examples say, of zones. -/
namespace Go.Lo
open Go.Proofs
set_option linter.unusedSimpArgs false
theorem p10 : R 10 [] = some (B true) := run2_of (n := 60) (by kernel_rfl)
end Go.Lo

/- What a die cuts. -/
namespace Go.Lo
open Go.Proofs
set_option linter.unusedSimpArgs false
set_option maxHeartbeats 8000000
/-- The size of the die before a piece, and the piece's diameter. -/
def szK (x : Ad) (s : Shp) (tg : Int) (a : Nat) : Nat → Int
  | 0 => tg + inn s.set (byteAt x.tr a)
  | k + 1 => szK x s tg a k + inn s.wear (byteAt x.tr (2 * (a + k)))
def dK (x : Ad) (s : Shp) (tg : Int) (a k : Nat) : Int := szK x s tg a k + inn s.scat (byteAt x.tr (2 * (a + k) + 1))
def cutL (x : Ad) (s : Shp) (tg : Int) (a n : Nat) : List Int := (List.range n).map fun k => dK x s tg a k / 1000
theorem cutL_succ (x : Ad) (s : Shp) (tg : Int) (a n : Nat) : cutL x s tg a (n + 1) = cutL x s tg a n ++ [dK x s tg a n / 1000] := by unfold cutL; rw [List.range_succ, List.map_append]; rfl
theorem cutL_len (x : Ad) (s : Shp) (tg : Int) (a n : Nat) : (cutL x s tg a n).length = n := by unfold cutL; simp
theorem szK_bd {x : Ad} {s : Shp} (h : s.Ok) (tg : Int) (a : Nat) : ∀ k : Nat, tg + s.set.1 + s.wear.1 * k ≤ szK x s tg a k ∧ szK x s tg a k ≤ tg + s.set.2 + s.wear.2 * k
  | 0 => by
    have := inn_bd (s := s.set) h.set.2.1 (byteAt x.tr a)
    simp only [szK, Int.natCast_zero, Int.mul_zero]
    omega
  | k + 1 => by
    have h1 := szK_bd (x := x) h tg a k
    have := inn_bd (s := s.wear) h.wear.2.1 (byteAt x.tr (2 * (a + k)))
    have e1 : s.wear.1 * ((k + 1 : Nat) : Int) = s.wear.1 * k + s.wear.1 := by rw [Int.natCast_add, Int.mul_add, Int.natCast_one, Int.mul_one]
    have e2 : s.wear.2 * ((k + 1 : Nat) : Int) = s.wear.2 * k + s.wear.2 := by rw [Int.natCast_add, Int.mul_add, Int.natCast_one, Int.mul_one]
    rw [e1, e2]
    simp only [szK]
    omega
theorem szK_big {x : Ad} {s : Shp} (h : s.Ok) {tg : Int} (ht : -30000000000 ≤ tg ∧ tg ≤ 30000000000) (a : Nat) {k : Nat} (hk : k ≤ 60) : -40000000000 ≤ szK x s tg a k ∧ szK x s tg a k ≤ 40000000000 := by
  have h1 := szK_bd (x := x) h tg a k
  have hw := h.wear
  have hs := h.set
  have m1 := abs_mul (a := s.wear.1) (b := (k : Int)) (A := 100000) (C := 60) (by omega) (by omega)
  have m2 := abs_mul (a := s.wear.2) (b := (k : Int)) (A := 100000) (C := 60) (by omega) (by omega)
  omega
abbrev sCt (x : Ad) (s : Shp) (b : Nat) (size : Int) (p : Nat) (l : List Int) : St := { fr := [(3, I b), (4, .box (eAd x)), (9, .box [B false, I s.set.1, I s.set.2, I s.scat.1, I s.scat.2, .sl (some 1500) 2 [[I s.wear.1, I s.wear.2]]]), (10, .sl (some 1600) 1 (l.map fun y => [I y])), (11, I size), (12, I p)], tk := [] }
theorem ct_round {M : Nat} {x : Ad} (h : x.Ok) {s : Shp} (hs : s.Ok) {b p : Nat} (hp : p < b) (hb : b ≤ 60) {size : Int} (hsz : -40000000000 ≤ size ∧ size ≤ 40000000000) {l : List Int} (hl : l.length ≤ 60)
    (hd : 0 ≤ size + inn s.scat (byteAt x.tr (2 * p + 1))) :
    evC2 R M b33_0 (sCt x s b size p l) = some (.normal, sCt x s b (size + inn s.wear (byteAt x.tr (2 * p))) (p + 1) (l ++ [(size + inn s.scat (byteAt x.tr (2 * p + 1))) / 1000])) := by
  have e1 := p14 h.tr (i := 2 * p + 1) (by omega)
  have e3 := p14 h.tr (i := 2 * p) (by omega)
  have b1 := byteAt_bd h.tr (2 * p + 1)
  have b2 := byteAt_bd h.tr (2 * p)
  have hsc := hs.scat
  have hwr := hs.wear
  have e2 := p13 (s := s.scat) (by omega) b1
  have e4 := p13 (s := s.wear) (by omega) b2
  have i1 := inn_bd (s := s.scat) (by omega) (byteAt x.tr (2 * p + 1))
  have i2 := inn_bd (s := s.wear) (by omega) (byteAt x.tr (2 * p))
  have u8 : ∀ {n : Int}, 0 ≤ n ∧ n ≤ 255 → IntKind.u8.wrap n = n := by
    intro n hn
    simp [IntKind.wrap, IntKind.bits, IntKind.signed]
    omega
  have v1 := u8 b1
  have v2 := u8 b2
  generalize inn s.scat (byteAt x.tr (2 * p + 1)) = c at *
  generalize inn s.wear (byteAt x.tr (2 * p)) = w at *
  generalize byteAt x.tr (2 * p + 1) = B1 at *
  generalize byteAt x.tr (2 * p) = B2 at *
  have c1 : ((2 * p + 1 : Nat) : Int) = 2 * (p : Int) + 1 := by omega
  have c2 : ((2 * p : Nat) : Int) = 2 * (p : Int) := by omega
  have c3 : ((p + 1 : Nat) : Int) = (p : Int) + 1 := by omega
  rw [c1] at e1
  rw [c2] at e3
  have w1 := wrap64 (n := 2 * (p : Int)) (by omega) (by omega)
  have w2 := wrap64 (n := 2 * (p : Int) + 1) (by omega) (by omega)
  have w3 := wrap64 (n := size + c) (by omega) (by omega)
  have w4 := wrap64 (n := size + w) (by omega) (by omega)
  have w5 := wrap64 (n := (p : Int) + 1) (by omega) (by omega)
  have w6 := wrap64 (n := (size + c) / 1000) (by omega) (by omega)
  have d1 : (size + c).tdiv 1000 = (size + c) / 1000 := Int.tdiv_eq_ediv_of_nonneg hd
  have n1 : ¬ size + c < 0 := by omega
  have hpb : (p : Int) < (b : Int) := by omega
  clear h hs b1 b2 hsc hwr i1 i2 u8 hsz hb hd
  simp only [sCt, c3, eAd, List.map_append, List.map_cons, List.map_nil]
  generalize hz : (size + c) / 1000 = q at *
  generalize hy : size + c = d at *
  generalize hv : size + w = size2 at *
  generalize hL : l.map (fun y => [I y]) = L at *
  have hL2 : L.length ≤ 60 := by rw [← hL]; simpa using hl
  clear hL hl
  generalize x.tr.map _ = tr at *
  clear hz
  have EQ := fun (_ : Unit) => And.intro w1 (And.intro w2 (And.intro w3 (And.intro w4 (And.intro w5 (And.intro w6 (And.intro d1 (And.intro hy (And.intro hv (And.intro v1 v2)))))))))
  clear w1 w2 w3 w4 w5 w6 d1 hy hv v1 v2 c1 c2 c3
  by_cases hm : d.tmod 1000 = 0
  · simp (maxSteps := 2000000) (disch := first | omega | (simp; done) | (simp; omega)) [-getElem?_pos, b33_0, e1, e2, e3, e4, EQ (), hpb, hm, n1]
  · simp (maxSteps := 2000000) (disch := first | omega | (simp; done) | (simp; omega)) [-getElem?_pos, b33_0, e1, e2, e3, e4, EQ (), hpb, hm, n1]
theorem p33 {x : Ad} (h : x.Ok) {z : Int × Int} (hz : 0 ≤ z.1 ∧ z.1 ≤ z.2 ∧ z.2 ≤ 10000000) {tg : Int} (ht : -30000000000 ≤ tg ∧ tg ≤ 30000000000) {a b : Nat} (hab : a ≤ b) (hb : b ≤ 60)
    (hd : ∀ k, k < b - a → 0 ≤ dK x (shpOf x z) tg a k) : R 33 [.agg (eAd x), I tg, I a, I b] = some (.sl (some 0) 1 ((cutL x (shpOf x z) tg a (b - a)).map fun y => [I y])) := by
  have hs := shpOf_ok h hz
  have e1 := p32 h z
  have e2 := p14 h.tr (i := a) (by omega)
  have b1 := byteAt_bd h.tr a
  have hst := hs.set
  have e3 := p13 (s := (shpOf x z).set) (by omega) b1
  have i1 := inn_bd (s := (shpOf x z).set) (by omega) (byteAt x.tr a)
  have v1 : IntKind.u8.wrap (byteAt x.tr a) = byteAt x.tr a := by
    simp [IntKind.wrap, IntKind.bits, IntKind.signed]
    omega
  have w1 := wrap64 (n := tg + inn (shpOf x z).set (byteAt x.tr a)) (by omega) (by omega)
  have L := loop_all (s := fun k => sCt x (shpOf x z) b (szK x (shpOf x z) tg a k) (a + k) (cutL x (shpOf x z) tg a k)) (f := evC2 R (b - a + 1) b33_0) (n := b - a)
    (X := (.exit 0, { fr := [(3, I b), (4, .box (eAd x)), (9, .box [B false, I (shpOf x z).set.1, I (shpOf x z).set.2, I (shpOf x z).scat.1, I (shpOf x z).scat.2, .sl (some 1500) 2 [[I (shpOf x z).wear.1, I (shpOf x z).wear.2]]]), (10, .sl (some 1600) 1 ((cutL x (shpOf x z) tg a (b - a)).map fun y => [I y])), (11, I (szK x (shpOf x z) tg a (b - a))), (12, I b), (30, B false)], tk := [] }))
    (fun k hk => by
      have r := ct_round (M := b - a + 1) h hs (b := b) (p := a + k) (by omega) hb (szK_big hs ht a (k := k) (by omega)) (l := cutL x (shpOf x z) tg a k) (by rw [cutL_len]; omega) (hd k hk)
      rw [cutL_succ]
      exact r) (by
      have e : a + (b - a) = b := by omega
      rw [e]
      generalize cutL x (shpOf x z) tg a (b - a) = q
      simp (maxSteps := 2000000) (disch := first | omega | (simp; done) | (simp; omega)) [-getElem?_pos, b33_0]) (by simp)
  simp only [eAd, szK, Nat.add_zero] at L e1 ⊢
  have hc0 : cutL x (shpOf x z) tg a 0 = [] := rfl
  rw [hc0] at L
  simp only [sCt, eAd, List.map_nil] at L
  generalize hq : (cutL x (shpOf x z) tg a (b - a)).map _ = q at *
  generalize inn (shpOf x z).set (byteAt x.tr a) = c at *
  generalize byteAt x.tr a = B1 at *
  generalize szK x (shpOf x z) tg a (b - a) = y at *
  generalize x.tr.map _ = tr at *
  generalize shpOf x z = s at *
  clear hz hst i1 b1 hd ht hs h hab hb
  refine run2_body (b - a + 1) rfl rfl rfl rfl rfl ?_
  simp (maxSteps := 2000000) (disch := first | omega | (simp; done) | (simp; omega)) [-getElem?_pos, l33, e1, e2, e3, v1, w1, L]
end Go.Lo

/- All pieces of a plan. -/
namespace Go.Lo
open Go.Proofs
set_option linter.unusedSimpArgs false
set_option maxHeartbeats 8000000
abbrev sPd (x : Ad) (Q : List (List V)) (n k : Nat) (l : List (List V)) : St := { fr := [(2, .box (eAd x)), (8, .sl (some 2002300) 2 Q), (9, I 0), (10, .sl (some 3100) 1 l), (11, I n), (12, I k)], tk := [] }
theorem pd_round {M : Nat} {x : Ad} {Q : List (List V)} {n k a b : Nat} {tg t2 : Int} (hk : k < Q.length) (hQ : Q.length ≤ 1000) (hq : Q[k]? = some [I a, I tg]) (hq1 : k + 1 < Q.length → Q[k + 1]? = some [I b, I t2]) (hq2 : ¬ k + 1 < Q.length → b = n)
    (hab : a < b) (hbn : b ≤ n) (hn : n ≤ 60) {l L2 : List (List V)} (hl : l.length = a) (hL : L2.length ≤ 60) (hfl : flatE L2 = true) (e : R 33 [.agg (eAd x), I tg, I a, I b] = some (.sl (some 0) 1 L2)) :
    evC2 R M b12_0 (sPd x Q n k l) = some (.normal, sPd x Q n (k + 1) (l ++ L2)) := by
  have w1 := wrap64 (n := (k : Int) + 1) (by omega) (by omega)
  have n1 : ¬ b ≤ l.length := by omega
  have n2 : ¬ n < b := by omega
  have hkQ : (k : Int) < (Q.length : Int) := by omega
  have c1 : ((k + 1 : Nat) : Int) = (k : Int) + 1 := by omega
  have n3 : (l.length : Int) = (a : Int) := by omega
  have n4 : ¬ (b : Int) ≤ (a : Int) := by omega
  have n5 : ¬ (n : Int) < (b : Int) := by omega
  have hl60 : l.length ≤ 60 := by omega
  by_cases hk1 : k + 1 < Q.length
  · have hkQ1 : (k : Int) + 1 < (Q.length : Int) := by omega
    have hq1 := hq1 hk1
    have c2 : ((k : Int) + 1).toNat = k + 1 := by omega
    clear hq2
    simp only [sPd, eAd] at e ⊢
    generalize x.tr.map _ = tr at *
    simp (maxSteps := 2000000) (disch := first | omega | (simp; done) | (simp; omega)) [-getElem?_pos, b12_0, e, hfl, w1, hkQ, hkQ1, hq, hq1, n1, n2, n3, n4, n5, c1, c2]
  · have hkQ1 : ¬ (k : Int) + 1 < (Q.length : Int) := by omega
    have hb := hq2 hk1
    subst hb
    clear hq2 hq1
    simp only [sPd, eAd] at e ⊢
    generalize x.tr.map _ = tr at *
    simp (maxSteps := 2000000) (disch := first | omega | (simp; done) | (simp; omega)) [-getElem?_pos, b12_0, e, hfl, w1, hkQ, hkQ1, hq, n1, n2, n3, n4, n5, c1]
def psN (s : Shp) (k : Nat) : Nat := (pos s k).toNat
theorem psN_cast {s : Shp} (h : s.Ok) (hl : 1 ≤ lim s) (k : Nat) : ((psN s k : Nat) : Int) = pos s k := by
  have := pos_bd h hl k
  unfold psN
  omega
def allL (x : Ad) (s : Shp) (tg : Int) : Nat → List Int
  | 0 => []
  | k + 1 => allL x s tg k ++ cutL x s tg (psN s k) (psN s (k + 1) - psN s k)
theorem allL_len {x : Ad} {s : Shp} (h : s.Ok) (hl : 1 ≤ lim s) (tg : Int) : ∀ k : Nat, k ≤ cuts s → (allL x s tg k).length = psN s k
  | 0, _ => by
    have := psN_cast h hl 0
    rw [pos_zero] at this
    simp only [allL, List.length_nil]
    omega
  | k + 1, hk => by
    have h1 := pos_ne h hl (k := k) (by omega)
    have h2 := psN_cast h hl k
    have h3 := psN_cast h hl (k + 1)
    simp only [allL, List.length_append, cutL_len, allL_len h hl tg k (by omega)]
    omega
def tgO (s : Shp) : Int := s.zone.1 - (s.set.1 + s.scat.1)
/-- A piece that is cut within a setting's reach lies in the zone. -/
theorem dK_in {x : Ad} {s : Shp} (h : s.Ok) (hl : 1 ≤ lim s) {a k : Nat} (hk : (k : Int) < lim s) (hk2 : k ≤ 10000) : s.zone.1 ≤ dK x s (tgO s) a k ∧ dK x s (tgO s) a k ≤ s.zone.2 := by
  have h1 := szK_bd (x := x) h (tgO s) a k
  have h2 := inn_bd (s := s.scat) h.scat.2.1 (byteAt x.tr (2 * (a + k) + 1))
  have h3 := (lim_iff h (i := k) (by omega) (by omega)).2 hk
  have h4 : 0 ≤ s.wear.1 * (k : Int) := Int.mul_nonneg h.wear.1 (by omega)
  unfold tgO at h1 ⊢
  unfold room at h3
  unfold dK
  generalize s.wear.1 * (k : Int) = u at *
  generalize s.wear.2 * (k : Int) = v at *
  generalize szK x s (s.zone.1 - (s.set.1 + s.scat.1)) a k = y at *
  generalize inn s.scat (byteAt x.tr (2 * (a + k) + 1)) = c at *
  omega
theorem pos_step {s : Shp} (h : s.Ok) (hl : 1 ≤ lim s) (k : Nat) : (psN s (k + 1) : Int) - psN s k ≤ lim s := by
  have h1 := pos_succ h hl k
  have h2 := psN_cast h hl k
  have h3 := psN_cast h hl (k + 1)
  omega
theorem allL_in {x : Ad} {z : Int × Int} (hx : x.Ok) (hz : 0 ≤ z.1 ∧ z.1 ≤ z.2 ∧ z.2 ≤ 10000000) (hl : 1 ≤ lim (shpOf x z)) : ∀ k : Nat, k ≤ cuts (shpOf x z) → ∀ e ∈ allL x (shpOf x z) (tgO (shpOf x z)) k, z.1 ≤ e ∧ e ≤ z.2
  | 0, _, e, he => by simp [allL] at he
  | k + 1, hk, e, he => by
    have hs := shpOf_ok hx hz
    simp only [allL, List.mem_append] at he
    rcases he with he | he
    · exact allL_in hx hz hl k (by omega) e he
    · unfold cutL at he
      obtain ⟨j, hj, rfl⟩ := List.mem_map.1 he
      rw [List.mem_range] at hj
      have h1 := pos_step hs hl k
      have h2 := psN_cast hs hl (k + 1)
      have h3 := pos_bd hs hl (k + 1)
      have hn := hs.n
      have h4 := dK_in (x := x) hs hl (a := psN (shpOf x z) k) (k := j) (by omega) (by omega)
      have z1 : (shpOf x z).zone.1 = 1000 * z.1 := rfl
      have z2 : (shpOf x z).zone.2 = 1000 * z.2 := rfl
      rw [z1, z2] at h4
      omega
theorem n60 (x : Ad) (hx : x.Ok) (z : Int × Int) : (shpOf x z).n ≤ 60 ∧ 1 ≤ (shpOf x z).n := by
  have := hx.p
  show (1 + x.p % 60).toNat ≤ 60 ∧ 1 ≤ (1 + x.p % 60).toNat
  omega
theorem cuts_60 {s : Shp} (h : s.Ok) (hl : 1 ≤ lim s) : cuts s ≤ s.n ∧ 0 < cuts s := by
  refine ⟨?_, (cut_iff h hl 0).2 ?_⟩
  · by_cases hc : cuts s ≤ s.n
    · exact hc
    · have := (cut_iff h hl s.n).1 (by omega)
      have h2 : (s.n : Int) * 1 ≤ s.n * lim s := Int.mul_le_mul_of_nonneg_left hl (by omega)
      omega
  · have hn := h.n
    simp only [Int.natCast_zero, Int.zero_mul]
    omega
theorem ints_flat (l : List Int) : flatE (l.map fun y => [I y]) = true := by simp [flatE, V.flat]
theorem p12 {x : Ad} (hx : x.Ok) {z : Int × Int} (hz : 0 ≤ z.1 ∧ z.1 ≤ z.2 ∧ z.2 ≤ 10000000) (hl : 1 ≤ lim (shpOf x z)) :
    R 12 [.agg (eAd x), eS z] = some (.tup [.sl (some 0) 1 ((allL x (shpOf x z) (tgO (shpOf x z)) (cuts (shpOf x z))).map fun y => [I y]), B true, B true]) := by
  have hs := shpOf_ok hx hz
  have e1 := p31 hx hz
  have e2 := p32 hx z
  have e3 := p30 hs hl
  have h60 := n60 x hx z
  have hc := cuts_60 hs hl
  have hzb := hs.zone
  have hsb := hs.set
  have hcb := hs.scat
  have hlen : (ePl (shpOf x z) ((List.range (cuts (shpOf x z))).map (pos (shpOf x z)))).length = cuts (shpOf x z) := by simp
  have hget : ∀ k, k < cuts (shpOf x z) → (ePl (shpOf x z) ((List.range (cuts (shpOf x z))).map (pos (shpOf x z))))[k]? = some [I (psN (shpOf x z) k), I (tgO (shpOf x z))] := fun k hk => by
    rw [psN_cast hs hl]
    simp [hk, tgO]
  have htg : -30000000000 ≤ tgO (shpOf x z) ∧ tgO (shpOf x z) ≤ 30000000000 := by unfold tgO; omega
  have hend := psN_cast hs hl (cuts (shpOf x z))
  rw [pos_end hs hl] at hend
  have hend2 : psN (shpOf x z) (cuts (shpOf x z)) = (shpOf x z).n := by omega
  have hall := allL_len (x := x) hs hl (tgO (shpOf x z)) (cuts (shpOf x z)) (Nat.le_refl _)
  have L := loop_all (s := fun k => sPd x (ePl (shpOf x z) ((List.range (cuts (shpOf x z))).map (pos (shpOf x z)))) (shpOf x z).n k ((allL x (shpOf x z) (tgO (shpOf x z)) k).map fun y => [I y])) (f := evC2 R (cuts (shpOf x z) + 1) b12_0) (n := cuts (shpOf x z))
    (X := (.exit 0, { fr := [(2, .box (eAd x)), (8, .sl (some 2002300) 2 (ePl (shpOf x z) ((List.range (cuts (shpOf x z))).map (pos (shpOf x z))))), (9, I 0), (10, .sl (some 3100) 1 ((allL x (shpOf x z) (tgO (shpOf x z)) (cuts (shpOf x z))).map fun y => [I y])), (11, I (shpOf x z).n), (12, I (cuts (shpOf x z))), (39, B false)], tk := [] }))
    (fun k hk => by
      have h1 := pos_ne hs hl hk
      have h2 := psN_cast hs hl k
      have h3 := psN_cast hs hl (k + 1)
      have h4 := pos_bd hs hl (k + 1)
      have hst := pos_step hs hl k
      have r := pd_round (M := cuts (shpOf x z) + 1) (x := x) (Q := ePl (shpOf x z) ((List.range (cuts (shpOf x z))).map (pos (shpOf x z)))) (n := (shpOf x z).n) (k := k) (a := psN (shpOf x z) k) (b := psN (shpOf x z) (k + 1)) (tg := tgO (shpOf x z)) (t2 := tgO (shpOf x z))
        (by rw [hlen]; exact hk) (by rw [hlen]; omega) (hget k hk) (fun h => hget (k + 1) (by rwa [hlen] at h)) (fun h => by
          rw [hlen] at h
          have : k + 1 = cuts (shpOf x z) := by omega
          rw [this]
          omega) (by omega) (by omega) (by omega) (l := (allL x (shpOf x z) (tgO (shpOf x z)) k).map fun y => [I y]) (L2 := (cutL x (shpOf x z) (tgO (shpOf x z)) (psN (shpOf x z) k) (psN (shpOf x z) (k + 1) - psN (shpOf x z) k)).map fun y => [I y])
        (by rw [List.length_map, allL_len hs hl _ k (by omega)]) (by rw [List.length_map, cutL_len]; omega) (ints_flat _) (p33 hx hz htg (by omega) (by omega) (fun j hj => by
          have := (dK_in (x := x) hs hl (a := psN (shpOf x z) k) (k := j) (by omega) (by omega)).1
          omega))
      rw [← List.map_append] at r
      exact r) (by
      generalize hq : ePl (shpOf x z) ((List.range (cuts (shpOf x z))).map (pos (shpOf x z))) = q at *
      generalize (allL x (shpOf x z) (tgO (shpOf x z)) (cuts (shpOf x z))) = al
      rw [← hlen]
      simp (maxSteps := 2000000) (disch := first | omega | (simp; done) | (simp; omega)) [-getElem?_pos, b12_0]) (by simp)
  generalize hQ : ePl (shpOf x z) ((List.range (cuts (shpOf x z))).map (pos (shpOf x z))) = Q at *
  have h00 : allL x (shpOf x z) (tgO (shpOf x z)) 0 = [] := rfl
  rw [h00] at L
  generalize hA : allL x (shpOf x z) (tgO (shpOf x z)) (cuts (shpOf x z)) = A at *
  have hAn : A.length = (shpOf x z).n := by rw [hall, hend2]
  have hAn2 : (A.length : Int) = ((shpOf x z).n : Int) := by omega
  simp only [sPd, eAd, eOrd, eTool, List.map_nil, Int.natCast_zero] at e1 e2 e3 L ⊢
  generalize cuts (shpOf x z) = cc at *
  generalize shpOf x z = s at *
  generalize x.tr.map _ = tr at *
  clear hget hzb hsb hcb htg hend hend2 hc h60 hs hx hz hl hall hlen
  refine run2_body (cc + 1) rfl rfl rfl rfl rfl ?_
  simp (maxSteps := 2000000) (disch := first | omega | (simp; done) | (simp; omega)) [-getElem?_pos, l12, e1, e2, e3, L, hAn, hAn2]
theorem p12_no {x : Ad} (hx : x.Ok) {z : Int × Int} (hz : 0 ≤ z.1 ∧ z.1 ≤ z.2 ∧ z.2 ≤ 10000000) (hl : lim (shpOf x z) = 0) :
    R 12 [.agg (eAd x), eS z] = some (.tup [.sl none 1 [], B false, B true]) := by
  have hs := shpOf_ok hx hz
  have e1 := p31 hx hz
  have e2 := p32 hx z
  have e3 := p30_no hs hl
  simp only [eAd, eOrd, eTool] at e1 e2 e3 ⊢
  generalize shpOf x z = s at *
  generalize x.tr.map _ = tr at *
  clear hs hx hz hl
  refine run2_body 1 rfl rfl rfl rfl rfl ?_
  simp (maxSteps := 2000000) (disch := first | omega | (simp; done) | (simp; omega)) [-getElem?_pos, l12, e1, e2, e3]
end Go.Lo

/- Tables of one step: two grades, two places. -/
namespace Go.Lo
open Go.Proofs
set_option linter.unusedSimpArgs false
set_option maxHeartbeats 8000000
/-! ### The first of a list for which a function says so -/
theorem p95 {α : Type} {E : α → List V} {W : α → V} {g : Nat} {caps : List V} {pr : α → Bool} (hc : ∀ rd, frzL rd caps = some caps) {xs : List α} (hE : ∀ x ∈ xs, partV (E x) 0 none = some (W x) ∧ (∀ rd, (W x).frz rd = some (W x)) ∧ ∀ s, opV s (some (W x)) = some (W x)) (hp : ∀ x ∈ xs, R g (W x :: caps) = some (B (pr x))) (hl : xs.length < 4611686018427387904) :
    R 95 [S 1 (xs.map E), .fn (.f g) caps] = some (I (match xs.findIdx? pr with | none => -1 | some k => k)) := by
  have L := loop_find (s := fun i => { fr := [(0, S 1 (xs.map E)), (1, .fn (.f g) caps), (7, I xs.length), (8, I i)], tk := [] }) (f := evC2 R (xs.length + 1) b95_0) (n := xs.length) (g := prAt pr xs) (E := fun i => (.ret, { fr := [(4, I i)], tk := [] })) (X := (.exit 0, { fr := [(0, S 1 (xs.map E)), (1, .fn (.f g) caps), (7, I xs.length), (8, I xs.length), (9, B false)], tk := [] }))
    (fun i hi => by
      have h1 : xs[i]? = some xs[i] := List.getElem?_eq_getElem hi
      have hm : xs[i] ∈ xs := List.getElem_mem hi
      have hp' := hp _ hm
      obtain ⟨h2, h3, h4⟩ := hE _ hm
      have hlt : (i : Int) < xs.length := by omega
      clear hp hE
      generalize xs[i] = x at *
      rw [prAt_some h1]
      generalize hw : W x = w at *
      cases hx : pr x <;> rw [hx] at hp' <;> simp (maxSteps := 2000000) (disch := first | omega | (simp; done) | (simp; omega)) [-getElem?_pos, -partV, b95_0, h1, h2, h3, h4, hc, hp', hlt, wrap64]) (fun _ => by simp) (by simp [b95_0]) (by simp) xs.length 0 (by omega)
  rw [find_idx] at L
  refine run2_body (xs.length + 1) rfl rfl rfl rfl rfl ?_
  cases hf : xs.findIdx? pr with
  | none =>
    rw [hf] at L
    simp at L
    simp [l95, L]
  | some k =>
    rw [hf] at L
    simp at L
    simp [l95, L]
theorem p74 {α : Type} {E : α → List V} {W : α → V} {g : Nat} {caps : List V} {pr : α → Bool} (hc : ∀ rd, frzL rd caps = some caps) {xs : List α} (hE : ∀ x ∈ xs, partV (E x) 0 none = some (W x) ∧ (∀ rd, (W x).frz rd = some (W x)) ∧ ∀ s, opV s (some (W x)) = some (W x)) (hp : ∀ x ∈ xs, R g (W x :: caps) = some (B (pr x))) (hl : xs.length < 4611686018427387904) :
    R 74 [S 1 (xs.map E), .fn (.f g) caps] = some (B (xs.any pr)) := by
  have h := p95 hc hE hp hl
  refine run2_body 1 rfl rfl rfl rfl rfl ?_
  cases hf : xs.findIdx? pr with
  | none =>
    rw [hf] at h
    have : xs.any pr = false := by
      rw [List.findIdx?_eq_none_iff] at hf
      rw [List.any_eq_false]; simpa using hf
    simp [l74, h, hc, this]
  | some k =>
    rw [hf] at h
    have : xs.any pr = true := by
      have := List.findIdx?_isSome (xs := xs) (p := pr)
      rw [hf] at this
      exact this.symm
    simp (maxSteps := 2000000) (disch := first | omega | (simp; done) | (simp; omega)) [l74, h, hc, this]

theorem p79 (x lo hi : Int) : R 79 [I x, .cref [I lo], .cref [I hi]] = some (B (decide (x < lo) || decide (x > hi))) := by
  refine run2_body 1 rfl rfl rfl rfl rfl ?_
  by_cases h : x < lo <;> simp [l79, h]
theorem p53 (lo hi : Int) {xs : List Int} (hl : xs.length < 4611686018427387904) : R 53 [I lo, I hi, S 1 (eI xs)] = some (B (xs.all fun x => decide (lo ≤ x ∧ x ≤ hi))) := by
  have h := p64 (g := 79) (caps := [.cref [I lo], .cref [I hi]]) (pr := fun x => decide (x < lo) || decide (x > hi)) (E := fun x => [I x]) (W := fun x => I x) (xs := xs) (fun _ => rfl) (fun _ _ => ⟨rfl, fun _ => rfl, fun _ => rfl⟩) (fun x _ => p79 x lo hi) hl
  refine run2_body 1 rfl rfl rfl rfl rfl ?_
  have e : (xs.all fun x => decide (lo ≤ x ∧ x ≤ hi)) = !(xs.any fun x => decide (x < lo) || decide (x > hi)) := by
    rw [List.not_any_eq_all_not]
    congr 1
    funext x
    by_cases h1 : x < lo <;> by_cases h2 : x > hi <;> simp [h1, h2] <;> omega
  rw [e]
  simp [l53, h]

abbrev eR (rs : List (List Int)) : List (List V) := rs.map fun r => [S 1 (eI r)]
theorem p72 (xs : List Int) (n : Int) : R 72 [S 1 (eI xs), I n] = some (B (decide ((xs.length : Int) > n))) := by
  refine run2_body 1 rfl rfl rfl rfl rfl ?_
  simp (maxSteps := 2000000) (disch := first | omega | (simp; done) | (simp; omega)) [-getElem?_pos, l72]
theorem p73 (xs : List (List Int)) (n : Int) : R 73 [S 1 (eR xs), I n] = some (B (decide ((xs.length : Int) > n))) := by
  refine run2_body 1 rfl rfl rfl rfl rfl ?_
  simp (maxSteps := 2000000) (disch := first | omega | (simp; done) | (simp; omega)) [-getElem?_pos, l73]
theorem p75 (r s : List Int) (g p : List (List Int)) : R 75 [S 1 (eI r), .cref [S 1 (eI s), S 1 (eR g), S 1 (eR p)]] = some (B (decide (r.length ≠ s.length))) := by
  refine run2_body 1 rfl rfl rfl rfl rfl ?_
  by_cases h : r.length = s.length <;> simp (maxSteps := 2000000) (disch := first | omega | (simp; done) | (simp; omega)) [-getElem?_pos, l75, h]
  omega
theorem p74_1 (s : List Int) (g p rs : List (List Int)) (hl : rs.length < 4611686018427387904) : R 74 [S 1 (eR rs), .fn (.f 75) [.cref [S 1 (eI s), S 1 (eR g), S 1 (eR p)]]] = some (B (rs.any fun r => decide (r.length ≠ s.length))) :=
  p74 (E := fun r => [S 1 (eI r)]) (W := fun r => S 1 (eI r)) (fun _ => rfl) (fun _ _ => ⟨rfl, fun _ => rfl, fun _ => rfl⟩) (fun r _ => p75 r s g p) hl
theorem zW_1 (lo hi x : Int) : R 53 [I lo, I hi, S 1 [[I x]]] = some (B (decide (lo ≤ x ∧ x ≤ hi))) := by
  have := p53 lo hi (xs := [x]) (by simp)
  simpa using this
theorem zW_2 (lo hi x y : Int) : R 53 [I lo, I hi, S 1 [[I x], [I y]]] = some (B (decide ((lo ≤ x ∧ x ≤ hi) ∧ (lo ≤ y ∧ y ≤ hi)))) := by
  have := p53 lo hi (xs := [x, y]) (by simp)
  simpa using this
theorem p78 (x size : Int) : R 78 [I x, .cref [I size]] = some (B (decide (size ≤ x))) := by
  refine run2_body 1 rfl rfl rfl rfl rfl ?_
  simp (maxSteps := 2000000) (disch := first | omega | (simp; done) | (simp; omega)) [-getElem?_pos, l78]
/-- A table of one step. -/
abbrev tb1 (st : Int) (g p : List Int) : List V := [S 1 [[I st]], S 1 (g.map fun x => [S 1 [[I x]]]), S 1 (p.map fun x => [S 1 [[I x]]])]
theorem eR_1 (g : List Int) : eR (g.map fun x => [x]) = g.map fun x => [S 1 [[I x]]] := by simp [eR]
/-- Two grades, and two places or one. -/
theorem p48_1 {st : Int} (hst : 1 ≤ st ∧ st ≤ 10000000) {a b : Int} (ha : 0 ≤ a ∧ a ≤ 100000) (hb : 0 ≤ b ∧ b ≤ 100000) {p : List Int} (hp : p.length = 1 ∨ p.length = 2) (hpb : ∀ x ∈ p, -100000 ≤ x ∧ x ≤ 100000) :
    R 48 [.agg (tb1 st [a, b] p)] = some (I 0) := by
  have e1 := p72 [st] 20
  have e2 := p73 ([a, b].map fun x => [x]) 12
  have e3 := p73 (p.map fun x => [x]) 12
  have e4 := p74_1 [st] ([a, b].map fun x => [x]) (p.map fun x => [x]) ([a, b].map fun x => [x]) (by simp)
  have e5 := p74_1 [st] ([a, b].map fun x => [x]) (p.map fun x => [x]) (p.map fun x => [x]) (by simp; omega)
  have e6 := zW_1 1 10000000 st
  have e7 := zW_2 0 100000 a b
  have e8 : R 76 [S 1 [[S 1 [[I a]]], [S 1 [[I b]]]]] = some (.sl (some 2000000) 1 [[I a], [I b]]) := by
    rw [show R 76 = catI from funext fun _ => run2_told rfl]; rfl
  have e9 : R 76 [S 1 (p.map fun x => [S 1 [[I x]]])] = some (.sl (some 2000000) 1 (eI p)) := by
    rw [show R 76 = catI from funext fun _ => run2_told rfl]
    match p, hp with
    | [x], _ => rfl
    | [x, y], _ => rfl
  have e10 := p53 (-100000) 100000 (xs := p) (by omega)
  have hall : (p.all fun x => decide (-100000 ≤ x ∧ x ≤ 100000)) = true := by rw [List.all_eq_true]; intro x hx; exact decide_eq_true (hpb x hx)
  rw [hall] at e10
  have h12 : ¬ (p.length : Int) > 12 := by omega
  have h12' : ¬ 12 < p.length := by omega
  have hne : ∃ x l, eI p = x :: l := by
    match p, hp with
    | [x], _ => exact ⟨_, _, rfl⟩
    | [x, y], _ => exact ⟨_, _, rfl⟩
  have hel : (eI p).length = p.length := by simp
  have fl1 : flatE [[I a], [I b]] = true := rfl
  have fl2 : flatE (eI p) = true := flatE_ints p
  have hnp : ¬ p.length = 0 := by omega
  rw [eR_1] at e2 e3 e4 e5
  have hg : eR ([a, b].map fun x => [x]) = [[S 1 [[I a]]], [S 1 [[I b]]]] := rfl
  rw [eR_1] at e4 e5
  simp only [List.map_cons, List.map_nil, List.length_map] at e1 e2 e3 e4 e5
  have a1 : ((([[a], [b]] : List (List Int)).any fun r => decide (r.length ≠ [st].length)) = false) := by simp
  have a2 : ((p.map fun x => [x]).any fun r => decide (r.length ≠ [st].length)) = false := by simp
  rw [a1] at e4
  rw [a2] at e5
  have hd6 : decide (1 ≤ st ∧ st ≤ 10000000) = true := decide_eq_true hst
  rw [hd6] at e6
  have hd7 : decide ((0 ≤ a ∧ a ≤ 100000) ∧ (0 ≤ b ∧ b ≤ 100000)) = true := decide_eq_true ⟨ha, hb⟩
  rw [hd7] at e7
  simp only [tb1, List.map_cons, List.map_nil]
  generalize (p.map fun x => [S 1 [[I x]]]) = pe at *
  generalize hpn : p.length = np at *
  generalize eI p = pi at *
  obtain ⟨x, pi, rfl⟩ := hne
  have L0 : iter (evC2 R 5 b48_0) 5 { fr := [(1, .box [S 1 [[I st]], S 1 [[S 1 [[I a]]], [S 1 [[I b]]]], S 1 pe]), (27, .agg [S 1 [[S 1 [[I a]]], [S 1 [[I b]]]], S 1 pe]), (28, I 0)], tk := [] } =
      some (.exit 0, { fr := [(1, .box [S 1 [[I st]], S 1 [[S 1 [[I a]]], [S 1 [[I b]]]], S 1 pe]), (27, .agg [S 1 [[S 1 [[I a]]], [S 1 [[I b]]]], S 1 pe]), (28, I 2), (29, B false)], tk := [] }) := by
    rw [iter_succ]
    simp (maxSteps := 2000000) (disch := first | omega | (simp; done) | (simp; omega)) [-getElem?_pos, b48_0, e4, wrap64]
    rw [iter_succ]
    simp (maxSteps := 2000000) (disch := first | omega | (simp; done) | (simp; omega)) [-getElem?_pos, b48_0, e5, wrap64]
    rw [iter_succ]
    simp (maxSteps := 2000000) (disch := first | omega | (simp; done) | (simp; omega)) [-getElem?_pos, b48_0]
  have L1 : iter (evC2 R 5 b48_1) 5 { fr := [(1, .box [S 1 [[I st]], S 1 [[S 1 [[I a]]], [S 1 [[I b]]]], S 1 pe]), (5, I 1), (36, S 1 [[I st]]), (37, I 1), (38, I 0)], tk := [] } =
      some (.exit 2, { fr := [(1, .box [S 1 [[I st]], S 1 [[S 1 [[I a]]], [S 1 [[I b]]]], S 1 pe]), (5, I (st + 1)), (36, S 1 [[I st]]), (37, I 1), (38, I 1), (39, B false)], tk := [] }) := by
    rw [iter_succ]
    simp (maxSteps := 2000000) (disch := first | omega | (simp; done) | (simp; omega)) [-getElem?_pos, b48_1, e6, wrap64]
    rw [iter_succ]
    simp (maxSteps := 2000000) (disch := first | omega | (simp; done) | (simp; omega)) [-getElem?_pos, b48_1]
  refine run2_body 5 rfl rfl rfl rfl rfl ?_
  simp (maxSteps := 2000000) (disch := first | omega | (simp; done) | (simp; omega)) [-getElem?_pos, l48, tb1, e1, e2, e3, e7, e8, e9, e10, L0, L1, h12, h12', hel, fl1, fl2, hnp]
theorem p49_1 (st a b : Int) {p : List Int} (hp : p.length = 1 ∨ p.length = 2) {c k : Nat} (hc : c < p.length) (hk : k < 2) : R 49 [.agg (tb1 st [a, b] p), .agg [I c, I k]] = some (B true) := by
  have e1 := zW_1 0 ((p.length : Int) - 1) c
  have e2 := zW_1 0 1 k
  have d1 : decide (0 ≤ (c : Int) ∧ (c : Int) ≤ (p.length : Int) - 1) = true := decide_eq_true (by omega)
  have d2 : decide (0 ≤ (k : Int) ∧ (k : Int) ≤ 1) = true := decide_eq_true (by omega)
  rw [d1] at e1
  rw [d2] at e2
  have hl : (p.map fun x => [S 1 [[I x]]]).length = p.length := by simp
  simp only [tb1, List.map_cons, List.map_nil]
  generalize (p.map fun x => [S 1 [[I x]]]) = pe at *
  generalize p.length = n at *
  refine run2_body 1 rfl rfl rfl rfl rfl ?_
  simp (maxSteps := 2000000) (disch := first | omega | (simp; done) | (simp; omega)) [-getElem?_pos, l49, e1, e2, hl, wrap64]
theorem p50_1 {st size : Int} (h : 1 ≤ size ∧ size ≤ st) (a b : Int) (p : List Int) : R 50 [.agg (tb1 st [a, b] p), I size] = some (.tup [I 0, I 0]) := by
  have e1 := p77 (g := 78) (caps := [.cref [I size]]) (pr := fun x => decide (size ≤ x)) (E := fun x => [I x]) (W := fun x => I x) (xs := [st]) (fun _ => rfl) (fun _ _ => ⟨rfl, fun _ => rfl, fun _ => rfl⟩) (fun x _ => p78 x size) (by simp)
  have hf : [st].findIdx? (fun x => decide (size ≤ x)) = some 0 := by simp [List.findIdx?_cons, h.2]
  rw [hf] at e1
  simp only [tb1, List.map_cons, List.map_nil] at e1 ⊢
  generalize (p.map fun x => [S 1 [[I x]]]) = pe at *
  have hs : ¬ size < 1 := by omega
  refine run2_body 1 rfl rfl rfl rfl rfl ?_
  simp (maxSteps := 2000000) (disch := first | omega | (simp; done) | (simp; omega)) [-getElem?_pos, l50, e1, hs]
structure T1 (st a b : Int) (p : List Int) : Prop where
  st : 1 ≤ st ∧ st ≤ 10000000
  a : 0 ≤ a ∧ a ≤ 100000
  b : 0 ≤ b ∧ b ≤ 100000
  len : p.length = 1 ∨ p.length = 2
  p : ∀ x ∈ p, -100000 ≤ x ∧ x ≤ 100000
theorem p22_1 {st a b : Int} {p : List Int} (h : T1 st a b p) {size : Int} (hs : 1 ≤ size ∧ size ≤ st) {c k : Nat} (hc : c < p.length) (hk : k < 2) :
    R 22 [.agg (tb1 st [a, b] p), I size, S 2 [[I c, I k]]] = some (.tup [.agg (tb1 st [a, b] p), I 0, I 0]) := by
  have e1 := p48_1 h.st h.a h.b h.len h.p
  have e2 := p49_1 st a b h.len hc hk
  have e3 := p50_1 hs a b p
  simp only [tb1, List.map_cons, List.map_nil] at e1 e2 e3 ⊢
  generalize (p.map fun x => [S 1 [[I x]]]) = pe at *
  refine run2_body 3 rfl rfl rfl rfl rfl ?_
  simp (maxSteps := 2000000) (disch := first | omega | (simp; done) | (simp; omega)) [-getElem?_pos, l22, b22_0, iter_succ, e1, e2, e3, wrap64]
theorem p22_2 {st a b : Int} {p : List Int} (h : T1 st a b p) {size : Int} (hs : 1 ≤ size ∧ size ≤ st) {c k c' k' : Nat} (hc : c < p.length) (hk : k < 2) (hc' : c' < p.length) (hk' : k' < 2) :
    R 22 [.agg (tb1 st [a, b] p), I size, S 2 [[I c, I k], [I c', I k']]] = some (.tup [.agg (tb1 st [a, b] p), I 0, I 0]) := by
  have e1 := p48_1 h.st h.a h.b h.len h.p
  have e2 := p49_1 st a b h.len hc hk
  have e4 := p49_1 st a b h.len hc' hk'
  have e3 := p50_1 hs a b p
  simp only [tb1, List.map_cons, List.map_nil] at e1 e2 e3 e4 ⊢
  generalize (p.map fun x => [S 1 [[I x]]]) = pe at *
  refine run2_body 3 rfl rfl rfl rfl rfl ?_
  simp (maxSteps := 2000000) (disch := first | omega | (simp; done) | (simp; omega)) [-getElem?_pos, l22, b22_0, iter_succ, e1, e2, e3, e4, wrap64]
/-- A zone. -/
def zn (nut : Bool) (size far wide : Int) : Int × Int := if nut = true then (size + far, size + far + wide) else (size - far - wide, size - far)
theorem p23_1 {st a b : Int} {p : List Int} (h : T1 st a b p) {size : Int} (hs : 1 ≤ size ∧ size ≤ st) {c k : Nat} {far wide : Int} (hc : p[c]? = some far) (hk : [a, b][k]? = some wide) (nut : Bool) :
    R 23 [.agg (tb1 st [a, b] p), .agg [I c, I k], B nut, I size, I 0] = some (eS (zn nut size far wide)) := by
  have hf := h.p far (List.mem_of_getElem? hc)
  have hw : 0 ≤ wide ∧ wide ≤ 100000 := by
    have := List.mem_of_getElem? hk
    simp only [List.mem_cons, List.not_mem_nil, or_false] at this
    rcases this with rfl | rfl
    · exact h.a
    · exact h.b
  have h0 := h.st
  have e1 : (p.map fun x => [S 1 [[I x]]])[c]? = some [S 1 [[I far]]] := by simp [hc]
  have e2 : ([[S 1 [[I a]]], [S 1 [[I b]]]] : List (List V))[k]? = some [S 1 [[I wide]]] := by
    match k, hk with
    | 0, hk => simp at hk; subst hk; rfl
    | 1, hk => simp at hk; subst hk; rfl
  unfold zn
  simp only [tb1, List.map_cons, List.map_nil]
  generalize (p.map fun x => [S 1 [[I x]]]) = pe at *
  generalize ([[S 1 [[I a]]], [S 1 [[I b]]]] : List (List V)) = ge at *
  refine run2_body 1 rfl rfl rfl rfl rfl ?_
  cases nut <;> simp (maxSteps := 2000000) (disch := first | omega | (simp; done) | (simp; omega)) [-getElem?_pos, l23, e1, e2, wrap64]
theorem p51_1 {x y : Int × Int} (hx : (-20000000 ≤ x.1 ∧ x.1 ≤ 20000000) ∧ (-20000000 ≤ x.2 ∧ x.2 ≤ 20000000)) (hy : (-20000000 ≤ y.1 ∧ y.1 ≤ 20000000) ∧ (-20000000 ≤ y.2 ∧ y.2 ≤ 20000000)) : R 51 [eS x, eS y] = some (eS (y.1 - x.2, y.2 - x.1)) := by
  refine run2_body 1 rfl rfl rfl rfl rfl ?_
  simp (maxSteps := 2000000) (disch := first | omega | (simp; done) | (simp; omega)) [-getElem?_pos, l51, wrap64]
theorem zn_bd {size far wide st : Int} (nut : Bool) (hs : 1 ≤ size ∧ size ≤ st) (h0 : st ≤ 10000000) (hf : -100000 ≤ far ∧ far ≤ 100000) (hw : 0 ≤ wide ∧ wide ≤ 100000) : (-20000000 ≤ (zn nut size far wide).1 ∧ (zn nut size far wide).1 ≤ 20000000) ∧ (-20000000 ≤ (zn nut size far wide).2 ∧ (zn nut size far wide).2 ≤ 20000000) := by
  unfold zn
  cases nut <;> simp only [Bool.false_eq_true, if_false, if_true] <;> omega
theorem p6_1 {st a b : Int} {p : List Int} (h : T1 st a b p) {size : Int} (hs : 1 ≤ size ∧ size ≤ st) {c k : Nat} {far wide : Int} (hc : p[c]? = some far) (hk : [a, b][k]? = some wide) (nut : Bool) :
    R 6 [.agg (tb1 st [a, b] p), .agg [I c, I k], B nut, I size] = some (.tup [eS (zn nut size far wide), I 0]) := by
  have hcl : c < p.length := (List.getElem?_eq_some_iff.1 hc).1
  have hkl : k < 2 := (List.getElem?_eq_some_iff.1 hk).1
  have e1 := p22_1 h hs hcl hkl
  have e2 := p23_1 h hs hc hk nut
  simp only [tb1, List.map_cons, List.map_nil] at e1 e2 ⊢
  generalize (p.map fun x => [S 1 [[I x]]]) = pe at *
  generalize zn nut size far wide = z at *
  refine run2_body 1 rfl rfl rfl rfl rfl ?_
  simp (maxSteps := 2000000) (disch := first | omega | (simp; done) | (simp; omega)) [-getElem?_pos, l6, e1, e2]
theorem p7_1 {st a b : Int} {p : List Int} (h : T1 st a b p) {size : Int} (hs : 1 ≤ size ∧ size ≤ st) {c k c' k' : Nat} {far wide far' wide' : Int} (hc : p[c]? = some far) (hk : [a, b][k]? = some wide) (hc' : p[c']? = some far') (hk' : [a, b][k']? = some wide') :
    R 7 [.agg (tb1 st [a, b] p), .agg [I c, I k, I c', I k'], I size] = some (.tup [eS ((zn true size far' wide').1 - (zn false size far wide).2, (zn true size far' wide').2 - (zn false size far wide).1), I 0]) := by
  have hcl : c < p.length := (List.getElem?_eq_some_iff.1 hc).1
  have hkl : k < 2 := (List.getElem?_eq_some_iff.1 hk).1
  have hcl' : c' < p.length := (List.getElem?_eq_some_iff.1 hc').1
  have hkl' : k' < 2 := (List.getElem?_eq_some_iff.1 hk').1
  have e1 := p22_2 h hs hcl hkl hcl' hkl'
  have e2 := p23_1 h hs hc hk false
  have e3 := p23_1 h hs hc' hk' true
  have hw : ∀ w : Int, w ∈ [a, b] → 0 ≤ w ∧ w ≤ 100000 := fun w hw => by
    simp only [List.mem_cons, List.not_mem_nil, or_false] at hw
    rcases hw with rfl | rfl
    · exact h.a
    · exact h.b
  have e4 := p51_1 (zn_bd false hs h.st.2 (h.p _ (List.mem_of_getElem? hc)) (hw _ (List.mem_of_getElem? hk))) (zn_bd true hs h.st.2 (h.p _ (List.mem_of_getElem? hc')) (hw _ (List.mem_of_getElem? hk')))
  have e5 : R 24 [.agg (tb1 st [a, b] p), .agg [I c, I k, I c', I k'], I size, I 0] = some (eS ((zn true size far' wide').1 - (zn false size far wide).2, (zn true size far' wide').2 - (zn false size far wide).1)) := by
    simp only [tb1, List.map_cons, List.map_nil] at e2 e3 ⊢
    generalize (p.map fun x => [S 1 [[I x]]]) = pe at *
    generalize zn false size far wide = z1 at *
    generalize zn true size far' wide' = z2 at *
    refine run2_body 1 rfl rfl rfl rfl rfl ?_
    simp (maxSteps := 2000000) (disch := first | omega | (simp; done) | (simp; omega)) [-getElem?_pos, l24, e2, e3, e4]
  simp only [tb1, List.map_cons, List.map_nil] at e1 e5 ⊢
  generalize (p.map fun x => [S 1 [[I x]]]) = pe at *
  generalize zn false size far wide = z1 at *
  generalize zn true size far' wide' = z2 at *
  refine run2_body 1 rfl rfl rfl rfl rfl ?_
  simp (maxSteps := 2000000) (disch := first | omega | (simp; done) | (simp; omega)) [-getElem?_pos, l7, e1, e5]
end Go.Lo

/- What can be before plating: a growth of four for one. -/
namespace Go.Lo
open Go.Proofs
set_option linter.unusedSimpArgs false
set_option maxHeartbeats 8000000
theorem p52 (s : Int × Int) (lo hi : Int) : R 52 [eS s, I lo, I hi] = some (B (decide ((lo ≤ s.1 ∧ s.1 ≤ hi) ∧ (lo ≤ s.2 ∧ s.2 ≤ hi) ∧ s.1 ≤ s.2))) := by
  have e1 := zW_2 lo hi s.1 s.2
  refine run2_body 1 rfl rfl rfl rfl rfl ?_
  rw [show decide ((lo ≤ s.1 ∧ s.1 ≤ hi) ∧ (lo ≤ s.2 ∧ s.2 ≤ hi) ∧ s.1 ≤ s.2) = (decide ((lo ≤ s.1 ∧ s.1 ≤ hi) ∧ (lo ≤ s.2 ∧ s.2 ≤ hi)) && decide (s.1 ≤ s.2)) from by rw [Bool.eq_iff_iff]; simp; omega]
  cases h : decide ((lo ≤ s.1 ∧ s.1 ≤ hi) ∧ (lo ≤ s.2 ∧ s.2 ≤ hi)) <;> rw [h] at e1 <;> simp (maxSteps := 2000000) (disch := first | omega | (simp; done) | (simp; omega)) [-getElem?_pos, l52, e1]
theorem p27_1 {a b l m n : Int} (hn : -1000000000 ≤ n ∧ n ≤ 1000000000) : R 27 [.agg [I a, I b, I 4, I 1, I l, I m], I n] = some (I n) := by
  have w1 := wrap64 (n := n) (by omega) (by omega)
  refine run2_body 1 rfl rfl rfl rfl rfl ?_
  have t1 : n.tmod 1 = 0 := Int.tmod_one n
  have t2 : (1 : Int).tmod 1 = 0 := rfl
  have t3 : n.tdiv 1 = n := Int.tdiv_one n
  have w0 : IntKind.i64.wrap 0 = 0 := rfl
  have w2 : IntKind.i64.wrap 1 = 1 := rfl
  simp (maxSteps := 2000000) (disch := first | omega | (simp; done) | (simp; omega)) [-getElem?_pos, l27, t1, t2, t3, w1, w0, w2]
theorem p26_1 {a b l m n : Int} (hn : -1000000000 ≤ n ∧ n ≤ 1000000000) : R 26 [.agg [I a, I b, I 4, I 1, I l, I m], I n] = some (I n) := by
  have w1 := wrap64 (n := n) (by omega) (by omega)
  have w2 := wrap64 (n := -n) (by omega) (by omega)
  have e1 := p27_1 (a := a) (b := b) (l := l) (m := m) (n := -n) (by omega)
  refine run2_body 1 rfl rfl rfl rfl rfl ?_
  simp (maxSteps := 2000000) (disch := first | omega | (simp; done) | (simp; omega)) [-getElem?_pos, l26, e1, w1, w2]
theorem p25_1 {s c : Int × Int} (hs : -20000000 ≤ s.1 ∧ s.1 ≤ s.2 ∧ s.2 ≤ 20000000) (hc : 0 ≤ c.1 ∧ c.1 ≤ c.2 ∧ c.2 ≤ 10000) :
    R 25 [eS s, B false, .agg [I c.1, I c.2, I 4, I 1]] = some (.tup [.agg [I c.1, I c.2, I 4, I 1, I (c.1 * 4), I (c.2 * 4)], I 0]) := by
  have e1 := p52 s (-20000000) 20000000
  have e2 := p52 c 0 10000
  rw [decide_eq_true (by omega)] at e1 e2
  have e3 := zW_2 1 1000 4 1
  have e4 : decide (((1 : Int) ≤ 4 ∧ (4 : Int) ≤ 1000) ∧ ((1 : Int) ≤ 1 ∧ (1 : Int) ≤ 1000)) = true := rfl
  rw [e4] at e3
  have w1 := wrap64 (n := c.1 * 4) (by omega) (by omega)
  have w2 := wrap64 (n := c.2 * 4) (by omega) (by omega)
  clear hs hc
  refine run2_body 1 rfl rfl rfl rfl rfl ?_
  simp (maxSteps := 2000000) (disch := first | omega | (simp; done) | (simp; omega)) [-getElem?_pos, l25, e1, e2, e3, w1, w2]
/-- What Before says: the limits, or that there are none. -/
theorem p9_1 {s c : Int × Int} (hs : -20000000 ≤ s.1 ∧ s.1 ≤ s.2 ∧ s.2 ≤ 20000000) (hc : 0 ≤ c.1 ∧ c.1 ≤ c.2 ∧ c.2 ≤ 10000) :
    R 9 [eS s, B false, .agg [I c.1, I c.2, I 4, I 1]] = some (if s.1 - c.1 * 4 ≤ s.2 - c.2 * 4 then .tup [eS (s.1 - c.1 * 4, s.2 - c.2 * 4), I 0] else .tup [eS (0, 0), I 9]) := by
  have e1 := p25_1 hs hc
  have e2 := p26_1 (a := c.1) (b := c.2) (l := c.1 * 4) (m := c.2 * 4) (n := -(c.1 * 4)) (by omega)
  have e3 := p27_1 (a := c.1) (b := c.2) (l := c.1 * 4) (m := c.2 * 4) (n := -(c.2 * 4)) (by omega)
  have w1 := wrap64 (n := -(c.1 * 4)) (by omega) (by omega)
  have w2 := wrap64 (n := -(c.2 * 4)) (by omega) (by omega)
  have w3 := wrap64 (n := s.1 + -(c.1 * 4)) (by omega) (by omega)
  have w4 := wrap64 (n := s.2 + -(c.2 * 4)) (by omega) (by omega)
  have h1 : s.1 + -(c.1 * 4) = s.1 - c.1 * 4 := by omega
  have h2 : s.2 + -(c.2 * 4) = s.2 - c.2 * 4 := by omega
  rw [h1] at w3
  rw [h2] at w4
  clear hs hc
  generalize hm : c.1 * 4 = m at *
  generalize hn : c.2 * 4 = n at *
  generalize s.1 - m = x at *
  generalize s.2 - n = y at *
  have EQ := fun (_ : Unit) => And.intro w1 (And.intro w2 (And.intro w3 (And.intro w4 (And.intro h1 h2))))
  clear w1 w2 w3 w4 h1 h2 hm hn
  refine run2_body 1 rfl rfl rfl rfl rfl ?_
  by_cases h : x ≤ y
  · have h' : ¬ y < x := by omega
    simp (maxSteps := 2000000) (disch := first | omega | (simp; done) | (simp; omega)) [-getElem?_pos, l9, e1, e2, e3, EQ (), h, h']
  · have h' : y < x := by omega
    simp (maxSteps := 2000000) (disch := first | omega | (simp; done) | (simp; omega)) [-getElem?_pos, l9, e1, e2, e3, EQ (), h, h']
end Go.Lo

/- Small numbers. -/
namespace Go.Lo
open Go.Proofs
set_option linter.unusedSimpArgs false
set_option maxHeartbeats 8000000
abbrev J (n : Int) : V := .int .i8 n
abbrev H (n : Int) : V := .int .u16 n
abbrev U (n : Int) : V := .int .u8 n
abbrev u8r (n : Int) : Prop := 0 ≤ n ∧ n ≤ 255
abbrev u16r (n : Int) : Prop := 0 ≤ n ∧ n ≤ 65535
abbrev i8r (n : Int) : Prop := -128 ≤ n ∧ n ≤ 127
theorem tmodP {n k : Int} (h : 0 ≤ n) : n.tmod k = n % k := Int.tmod_eq_emod_of_nonneg h
theorem p8 (a b : Int) : R 8 [I a, I b] = some (eS (a, b)) := by
  refine run2_body 1 rfl rfl rfl rfl rfl ?_
  simp (maxSteps := 2000000) (disch := first | omega | (simp; done) | (simp; omega)) [-getElem?_pos, l8]
end Go.Lo

/- TopDieZone. -/
namespace Go.Lo
open Go.Proofs
set_option linter.unusedSimpArgs false
set_option maxHeartbeats 8000000
abbrev sDz (x : Ad) (z nut play c bare : Int × Int) (A : List (List V)) (i : Int) : St := { fr := [(3, .box (eAd x)), (9, .box [I z.1, I z.2]), (11, .box [I nut.1, I nut.2]), (13, .box [I play.1, I play.2]), (15, .box [I c.1, I c.2, I 4, I 1]), (16, .box [I bare.1, I bare.2]), (18, .sl (some 11100) 1 A), (19, B true), (21, I i)], tk := [] }
theorem dz_round {M : Nat} {x : Ad} (hx : x.Ok) {z nut play c bare : Int × Int} {A : List (List V)} {i : Nat} {e : Int} (hi : A[i]? = some [I e]) (hA : A.length ≤ 60) (hc : 0 ≤ c.1 ∧ c.1 ≤ c.2 ∧ c.2 ≤ 100)
    (hz : 0 ≤ z.1 ∧ z.1 ≤ z.2 ∧ z.2 ≤ 1000000) (hb : bare.1 = z.1 - c.1 * 4 ∧ bare.2 = z.2 - c.2 * 4) (hn : 0 ≤ nut.1 ∧ nut.1 ≤ nut.2 ∧ nut.2 ≤ 1000000) (hp : play.1 = nut.1 - z.2 ∧ play.2 = nut.2 - z.1) (he : bare.1 ≤ e ∧ e ≤ bare.2) :
    evC2 R M b3_0 (sDz x z nut play c bare A i) = some (.normal, sDz x z nut play c bare A ((i + 1 : Nat) : Int)) := by
  have hi1 : i < A.length := by
    rw [List.getElem?_eq_some_iff] at hi
    exact hi.1
  have hi2 : (i : Int) < (A.length : Int) := by omega
  have e1 := p14 hx.tr (i := i) (by omega)
  have b1 := byteAt_bd hx.tr i
  have e2 := p13 (s := c) (by omega) b1
  have i1 := inn_bd (s := c) (by omega) (byteAt x.tr i)
  have v1 : IntKind.u8.wrap (byteAt x.tr i) = byteAt x.tr i := by
    simp [IntKind.wrap, IntKind.bits, IntKind.signed]
    omega
  generalize inn c (byteAt x.tr i) = a at *
  generalize byteAt x.tr i = B1 at *
  have w1 := wrap64 (n := 4 * a) (by omega) (by omega)
  have w2 := wrap64 (n := e + 4 * a) (by omega) (by omega)
  have w3 := wrap64 (n := nut.1 - (e + 4 * a)) (by omega) (by omega)
  have w4 := wrap64 (n := nut.2 - (e + 4 * a)) (by omega) (by omega)
  have w5 := wrap64 (n := (i : Int) + 1) (by omega) (by omega)
  have c1 : ((i + 1 : Nat) : Int) = (i : Int) + 1 := by omega
  have n1 : ¬ e < bare.1 := by omega
  have n2 : ¬ bare.2 < e := by omega
  have n3 : ¬ e + 4 * a < z.1 := by omega
  have n4 : ¬ z.2 < e + 4 * a := by omega
  have n5 : ¬ nut.1 - (e + 4 * a) < play.1 := by omega
  have n6 : ¬ play.2 < nut.2 - (e + 4 * a) := by omega
  clear hx hA hc hz hb hn hp he b1 i1
  rw [c1]
  simp only [sDz, eAd]
  generalize x.tr.map _ = tr at *
  generalize hf : 4 * a = f at *
  generalize hd : e + f = d at *
  have EQ := fun (_ : Unit) => And.intro w1 (And.intro w2 (And.intro w3 (And.intro w4 (And.intro w5 (And.intro v1 (And.intro hf hd))))))
  clear w1 w2 w3 w4 w5 v1 hf hd
  simp (maxSteps := 2000000) (disch := first | omega | (simp; done) | (simp; omega)) [-getElem?_pos, b3_0, hi, hi2, e1, e2, EQ (), n1, n2, n3, n4, n5, n6]
theorem p3_diezone (k1 : R 10 [] = some (B true)) (k2 : R 11 [] = some (B true)) {x : Ad} (hx : x.Ok) {v0 v1 v2 c0 c1 : Int} (h0 : u8r v0) (h1 : u8r v1) (h2 : u8r v2) (g0 : u8r c0) (g1 : u8r c1) :
    R 3 [.agg (eAd x), .agg [U v0, U v1, U v2], .agg [U c0, U c1]] = some (B true) := by
  have t1 := tmodP (n := v2) (k := 50) h2.1
  have t2 := tmodP (n := c0) (k := 9) g0.1
  have t3 := tmodP (n := c1) (k := 4) g1.1
  have w0 := wrap64 (n := v0) (by omega) (by omega)
  have w1 := wrap64 (n := v1) (by omega) (by omega)
  have w2 := wrap64 (n := v2) (by omega) (by omega)
  have w3 := wrap64 (n := c0) (by omega) (by omega)
  have w4 := wrap64 (n := c1) (by omega) (by omega)
  have b1 : 0 ≤ v2 % 50 ∧ v2 % 50 ≤ 49 := by omega
  have b2 : 0 ≤ c0 % 9 ∧ c0 % 9 ≤ 8 := by omega
  have b3 : 0 ≤ c1 % 4 ∧ c1 % 4 ≤ 3 := by omega
  generalize v2 % 50 = far at *
  generalize c0 % 9 = tl at *
  generalize c1 % 4 = td at *
  have w5 := wrap64 (n := tl + td) (by omega) (by omega)
  obtain ⟨th, hth⟩ : ∃ th, tl + td = th := ⟨_, rfl⟩
  rw [hth] at w5
  have hT : T1 100000 v0 v1 [far] := ⟨by omega, by omega, by omega, .inl rfl, fun y hy => by
    simp only [List.mem_cons, List.not_mem_nil, or_false] at hy
    subst hy; omega⟩
  have hs : (1 : Int) ≤ 90000 ∧ (90000 : Int) ≤ 100000 := by omega
  have e1 := p6_1 hT hs (c := 0) (k := 0) rfl rfl false
  have e2 := p6_1 hT hs (c := 0) (k := 1) rfl rfl true
  have e3 := p7_1 hT hs (c := 0) (k := 0) (c' := 0) (k' := 1) rfl rfl rfl rfl
  have z1 : zn false 90000 far v0 = (90000 - far - v0, 90000 - far) := rfl
  have z2 : zn true 90000 far v1 = (90000 + far, 90000 + far + v1) := rfl
  rw [z1] at e1 e3
  rw [z2] at e2 e3
  simp only at e3
  obtain ⟨z, hz⟩ : ∃ z : Int × Int, (90000 - far - v0, 90000 - far) = z := ⟨_, rfl⟩
  obtain ⟨nut, hn⟩ : ∃ z : Int × Int, (90000 + far, 90000 + far + v1) = z := ⟨_, rfl⟩
  have hz1 : z.1 = 90000 - far - v0 := by rw [← hz]
  have hz2 : z.2 = 90000 - far := by rw [← hz]
  have hn1 : nut.1 = 90000 + far := by rw [← hn]
  have hn2 : nut.2 = 90000 + far + v1 := by rw [← hn]
  rw [hz] at e1
  rw [hn] at e2
  rw [← hz1, ← hz2, ← hn2, ← hn1] at e3
  have e4 := p8 tl th
  have e5 := p9_1 (s := z) (c := (tl, th)) (by omega) (by simp only; omega)
  simp only at e5
  simp only [tb1, List.map_cons, List.map_nil, Int.natCast_zero, Int.natCast_one] at e1 e2 e3
  clear z1 z2 hT hs
  by_cases hle : z.1 - tl * 4 ≤ z.2 - th * 4
  · rw [if_pos hle] at e5
    have hzb : 0 ≤ (z.1 - tl * 4, z.2 - th * 4).1 ∧ (z.1 - tl * 4, z.2 - th * 4).1 ≤ (z.1 - tl * 4, z.2 - th * 4).2 ∧ (z.1 - tl * 4, z.2 - th * 4).2 ≤ 10000000 := by simp only; omega
    obtain ⟨bare, hbare⟩ : ∃ z : Int × Int, (z.1 = z.1) ∧ z = z := ⟨(0, 0), rfl, rfl⟩
    clear hbare
    obtain ⟨bare, hbare⟩ : ∃ b : Int × Int, (z.1 - tl * 4, z.2 - th * 4) = b := ⟨_, rfl⟩
    rw [hbare] at hzb e5
    have hb1 : bare.1 = z.1 - tl * 4 := by rw [← hbare]
    have hb2 : bare.2 = z.2 - th * 4 := by rw [← hbare]
    have hlim := lim_nn (shpOf_ok hx hzb)
    by_cases hl : lim (shpOf x bare) = 0
    · have e6 := p12_no hx hzb hl
      simp only [eAd] at e6 ⊢
      generalize x.tr.map _ = tr at *
      clear hzb hlim hl h0 h1 h2 g0 g1 b1 b2 b3 hz hn hz1 hz2 hn1 hn2 hbare hb1 hb2 hle
      have EQ := fun (_ : Unit) => And.intro w0 (And.intro w1 (And.intro w2 (And.intro w3 (And.intro w4 (And.intro w5 (And.intro t1 (And.intro t2 (And.intro t3 hth))))))))
      clear w0 w1 w2 w3 w4 w5 t1 t2 t3 hth
      have L : iter (evC2 R 3 b3_0) 3 { fr := [(3, .box [U x.s0, U x.s1, U x.c0, U x.c1, U x.w0, U x.w1, U x.p, S 1 tr]), (9, .box [I z.1, I z.2]), (11, .box [I nut.1, I nut.2]), (13, .box [I (nut.1 - z.2), I (nut.2 - z.1)]), (15, .box [I tl, I th, I 4, I 1]), (16, .box [I bare.1, I bare.2]), (18, .sl none 1 []), (19, B false), (21, I 0)], tk := [] } =
          some (.exit 0, { fr := [(3, .box [U x.s0, U x.s1, U x.c0, U x.c1, U x.w0, U x.w1, U x.p, S 1 tr]), (9, .box [I z.1, I z.2]), (11, .box [I nut.1, I nut.2]), (13, .box [I (nut.1 - z.2), I (nut.2 - z.1)]), (15, .box [I tl, I th, I 4, I 1]), (16, .box [I bare.1, I bare.2]), (18, .sl none 1 []), (19, B false), (21, I 0), (123, B false)], tk := [] }) := by
        rw [iter_succ]
        simp (maxSteps := 2000000) (disch := first | omega | (simp; done) | (simp; omega)) [-getElem?_pos, b3_0]
      refine run2_body 3 rfl rfl rfl rfl rfl ?_
      simp (maxSteps := 2000000) (disch := first | omega | (simp; done) | (simp; omega)) [-getElem?_pos, l3, e1, e2, e3, e4, e5, e6, EQ (), L, k1, k2]
    · have hl1 : 1 ≤ lim (shpOf x bare) := by omega
      have e6 := p12 hx hzb hl1
      have hin := allL_in hx hzb hl1 _ (Nat.le_refl _)
      have hlen := allL_len (x := x) (shpOf_ok hx hzb) hl1 (tgO (shpOf x bare)) _ (Nat.le_refl _)
      have h60 := n60 x hx bare
      have hpb := pos_bd (shpOf_ok hx hzb) hl1 (cuts (shpOf x bare))
      have hpc := psN_cast (shpOf_ok hx hzb) hl1 (cuts (shpOf x bare))
      generalize allL x (shpOf x bare) (tgO (shpOf x bare)) (cuts (shpOf x bare)) = A at *
      have hA : A.length ≤ 60 := by omega
      have fA := ints_flat A
      clear hpb hpc h60 hlen
      have hAm : (A.map fun y => [I y]).length = A.length := by simp
      have L := loop_all (s := fun k => sDz x z nut (nut.1 - z.2, nut.2 - z.1) (tl, th) bare (A.map fun y => [I y]) k) (f := evC2 R (A.length + 1) b3_0) (n := A.length)
        (X := (.exit 0, { fr := [(3, .box (eAd x)), (9, .box [I z.1, I z.2]), (11, .box [I nut.1, I nut.2]), (13, .box [I (nut.1 - z.2), I (nut.2 - z.1)]), (15, .box [I tl, I th, I 4, I 1]), (16, .box [I bare.1, I bare.2]), (18, .sl (some 11100) 1 (A.map fun y => [I y])), (19, B true), (21, I A.length), (123, B false)], tk := [] }))
        (fun k hk => by
          have h3 := hin _ (List.getElem_mem hk)
          exact dz_round (M := A.length + 1) hx (e := A[k]) (by simp [hk]) (by omega) (by simp only; omega) (by omega) ⟨hb1, hb2⟩ (by omega) ⟨rfl, rfl⟩ h3) (by
          simp only [sDz, eAd]
          generalize x.tr.map _ = tr
          clear e1 e2 e3 e4 e5 e6 hin hzb hlim hl hl1
          simp (maxSteps := 2000000) (disch := first | omega | (simp; done) | (simp; omega)) [-getElem?_pos, b3_0]) (by simp)
      simp only [sDz, eAd, Int.natCast_zero] at L e6 ⊢
      generalize x.tr.map _ = tr at *
      generalize A.length = mm at *
      generalize A.map (fun y => [I y]) = AA at *
      clear hzb hlim hl hl1 h0 h1 h2 g0 g1 b1 b2 b3 hz hn hz1 hz2 hn1 hn2 hbare hb1 hb2 hle hin hA hAm
      have EQ := fun (_ : Unit) => And.intro w0 (And.intro w1 (And.intro w2 (And.intro w3 (And.intro w4 (And.intro w5 (And.intro t1 (And.intro t2 (And.intro t3 hth))))))))
      clear w0 w1 w2 w3 w4 w5 t1 t2 t3 hth
      refine run2_body (mm + 1) rfl rfl rfl rfl rfl ?_
      simp (maxSteps := 2000000) (disch := first | omega | (simp; done) | (simp; omega)) [-getElem?_pos, l3, e1, e2, e3, e4, e5, e6, fA, EQ (), L, k1, k2]
  · rw [if_neg hle] at e5
    simp only [eAd]
    generalize x.tr.map _ = tr at *
    clear h0 h1 h2 g0 g1 b1 b2 b3 hz hn hz1 hz2 hn1 hn2 hle
    have EQ := fun (_ : Unit) => And.intro w0 (And.intro w1 (And.intro w2 (And.intro w3 (And.intro w4 (And.intro w5 (And.intro t1 (And.intro t2 (And.intro t3 hth))))))))
    clear w0 w1 w2 w3 w4 w5 t1 t2 t3 hth
    refine run2_body 1 rfl rfl rfl rfl rfl ?_
    simp (maxSteps := 2000000) (disch := first | omega | (simp; done) | (simp; omega)) [-getElem?_pos, l3, e1, e2, e3, e4, e5, EQ (), k1, k2]
end Go.Lo
