/-
  No cell of these rows narrows 'for every input' (looked for: loops, veiled, ifaces, maps, wideKeys, modest, calm, conditions, laid).
  DERIVED. THE GIVEN ROWS OF THIS SEAT. 11 by the template 'for every input the law returns true; each argument reads behind the call as it read before'; 0 by the template 'total and deterministic' (their statements: YtcihkhhkppjcmaaTotals.lean).
  GIVEN WITH THE SEED: the statements are not yours to turn. If you find one false, say at which input.
  Laid BY PROGRAM, IN A SANDBOX (cutbox-rows.mjs): the forced cells as the released guide's own fill.sh prints them over the translation 614f39bbda48336e… (all of the seat's roots in one cut). By AI agents, Wed Nov 11 2026. No macro, syntax, notation, axiom, sorry.
-/
import Derived.Test.YtcihkhhkppjcmaaChecked
import GoSem.Claim
import GoSem.ClaimJoined
import GoSem.ClaimMapViews
import Derived.JoinedTies
import Derived.KernelRfl
namespace Go.Proofs.Ytcihkhhkppjcmaa
/- THE CELL 'sum', in the pinned program and in every row, IS THE sha256 OF THE DUMP (.gsa) THAT YtcihkhhkppjcmaaProg.lean LOADS. Nothing in Lean hashes anything: it is a label: what it is worth is what the hold of that sum in a sandbox is worth. -/
noncomputable def Try.pinned : Pinned := { name := "ytcihkhhkppjcmaa", sum := "614f39bbda48336efac5c20dc9d8d5f4b70fce8b020b1b1ec84057f3b84269e5", checked := Try.checked }
namespace Rows
def none {H : Type} : Left H := { results := [], args := [] }

/-- 'acmelaw06.LeadErrors': WHATEVER THE INPUT: true; the input reads as it did. -/
def leadErrorsSpec : ChangeSpec := { name := "leadErrors", fn := fun _ => fun
  | [d1, d2, d3] => { results := [.lit (.bool true)], args := [d1, d2, d3] }
  | _ => none }
def leadErrorsRow : OpenClaim := { program := "ytcihkhhkppjcmaa", sum := "614f39bbda48336efac5c20dc9d8d5f4b70fce8b020b1b1ec84057f3b84269e5", func := "acme/acmelaw06.LeadErrors", spec := "leadErrors", unfollowed := true, recurses := true, apart := false }
def LeadErrorsSaid : Prop := leadErrorsRow.holds Try.pinned (OpenSpec.ofChange leadErrorsSpec)

/-- ITS FALSE NEIGHBOUR: 'it returns false'. Refute it at one input. -/
def leadErrorsWrong : ChangeSpec := { name := "leadErrors", fn := fun _ => fun
  | [d1, d2, d3] => { results := [.lit (.bool false)], args := [d1, d2, d3] }
  | _ => none }
def LeadErrorsWrongFalsely : Prop := leadErrorsRow.holds Try.pinned (OpenSpec.ofChange leadErrorsWrong)

/-- 'acmelaw06.LeadTravels': WHATEVER THE INPUT: true; the input reads as it did. -/
def leadTravelsSpec : ChangeSpec := { name := "leadTravels", fn := fun _ => fun
  | [d1, d2, d3] => { results := [.lit (.bool true)], args := [d1, d2, d3] }
  | _ => none }
def leadTravelsRow : OpenClaim := { program := "ytcihkhhkppjcmaa", sum := "614f39bbda48336efac5c20dc9d8d5f4b70fce8b020b1b1ec84057f3b84269e5", func := "acme/acmelaw06.LeadTravels", spec := "leadTravels", unfollowed := true, recurses := true, apart := false }
def LeadTravelsSaid : Prop := leadTravelsRow.holds Try.pinned (OpenSpec.ofChange leadTravelsSpec)

/-- ITS FALSE NEIGHBOUR: 'it returns false'. Refute it at one input. -/
def leadTravelsWrong : ChangeSpec := { name := "leadTravels", fn := fun _ => fun
  | [d1, d2, d3] => { results := [.lit (.bool false)], args := [d1, d2, d3] }
  | _ => none }
def LeadTravelsWrongFalsely : Prop := leadTravelsRow.holds Try.pinned (OpenSpec.ofChange leadTravelsWrong)

/-- 'acmelaw06.LeadWorsts': WHATEVER THE INPUT: true; the input reads as it did. -/
def leadWorstsSpec : ChangeSpec := { name := "leadWorsts", fn := fun _ => fun
  | [d1, d2, d3] => { results := [.lit (.bool true)], args := [d1, d2, d3] }
  | _ => none }
def leadWorstsRow : OpenClaim := { program := "ytcihkhhkppjcmaa", sum := "614f39bbda48336efac5c20dc9d8d5f4b70fce8b020b1b1ec84057f3b84269e5", func := "acme/acmelaw06.LeadWorsts", spec := "leadWorsts", unfollowed := true, recurses := true, apart := false }
def LeadWorstsSaid : Prop := leadWorstsRow.holds Try.pinned (OpenSpec.ofChange leadWorstsSpec)

/-- ITS FALSE NEIGHBOUR: 'it returns false'. Refute it at one input. -/
def leadWorstsWrong : ChangeSpec := { name := "leadWorsts", fn := fun _ => fun
  | [d1, d2, d3] => { results := [.lit (.bool false)], args := [d1, d2, d3] }
  | _ => none }
def LeadWorstsWrongFalsely : Prop := leadWorstsRow.holds Try.pinned (OpenSpec.ofChange leadWorstsWrong)

/-- 'acmelaw06.LeadCuts': WHATEVER THE INPUT: true; the input reads as it did. -/
def leadCutsSpec : ChangeSpec := { name := "leadCuts", fn := fun _ => fun
  | [d1, d2] => { results := [.lit (.bool true)], args := [d1, d2] }
  | _ => none }
def leadCutsRow : OpenClaim := { program := "ytcihkhhkppjcmaa", sum := "614f39bbda48336efac5c20dc9d8d5f4b70fce8b020b1b1ec84057f3b84269e5", func := "acme/acmelaw06.LeadCuts", spec := "leadCuts", unfollowed := true, recurses := true, apart := false }
def LeadCutsSaid : Prop := leadCutsRow.holds Try.pinned (OpenSpec.ofChange leadCutsSpec)

/-- ITS FALSE NEIGHBOUR: 'it returns false'. Refute it at one input. -/
def leadCutsWrong : ChangeSpec := { name := "leadCuts", fn := fun _ => fun
  | [d1, d2] => { results := [.lit (.bool false)], args := [d1, d2] }
  | _ => none }
def LeadCutsWrongFalsely : Prop := leadCutsRow.holds Try.pinned (OpenSpec.ofChange leadCutsWrong)

/-- 'acmelaw06.LeadLeasts': WHATEVER THE INPUT: true; the input reads as it did. -/
def leadLeastsSpec : ChangeSpec := { name := "leadLeasts", fn := fun _ => fun
  | [d1, d2] => { results := [.lit (.bool true)], args := [d1, d2] }
  | _ => none }
def leadLeastsRow : OpenClaim := { program := "ytcihkhhkppjcmaa", sum := "614f39bbda48336efac5c20dc9d8d5f4b70fce8b020b1b1ec84057f3b84269e5", func := "acme/acmelaw06.LeadLeasts", spec := "leadLeasts", unfollowed := true, recurses := true, apart := false }
def LeadLeastsSaid : Prop := leadLeastsRow.holds Try.pinned (OpenSpec.ofChange leadLeastsSpec)

/-- ITS FALSE NEIGHBOUR: 'it returns false'. Refute it at one input. -/
def leadLeastsWrong : ChangeSpec := { name := "leadLeasts", fn := fun _ => fun
  | [d1, d2] => { results := [.lit (.bool false)], args := [d1, d2] }
  | _ => none }
def LeadLeastsWrongFalsely : Prop := leadLeastsRow.holds Try.pinned (OpenSpec.ofChange leadLeastsWrong)

/-- 'acmelaw06.LeadSplits': WHATEVER THE INPUT: true; the input reads as it did. -/
def leadSplitsSpec : ChangeSpec := { name := "leadSplits", fn := fun _ => fun
  | [d1, d2] => { results := [.lit (.bool true)], args := [d1, d2] }
  | _ => none }
def leadSplitsRow : OpenClaim := { program := "ytcihkhhkppjcmaa", sum := "614f39bbda48336efac5c20dc9d8d5f4b70fce8b020b1b1ec84057f3b84269e5", func := "acme/acmelaw06.LeadSplits", spec := "leadSplits", unfollowed := true, recurses := true, apart := false }
def LeadSplitsSaid : Prop := leadSplitsRow.holds Try.pinned (OpenSpec.ofChange leadSplitsSpec)

/-- ITS FALSE NEIGHBOUR: 'it returns false'. Refute it at one input. -/
def leadSplitsWrong : ChangeSpec := { name := "leadSplits", fn := fun _ => fun
  | [d1, d2] => { results := [.lit (.bool false)], args := [d1, d2] }
  | _ => none }
def LeadSplitsWrongFalsely : Prop := leadSplitsRow.holds Try.pinned (OpenSpec.ofChange leadSplitsWrong)

/-- 'acmelaw06.LeadLashes': WHATEVER THE INPUT: true; the input reads as it did. -/
def leadLashesSpec : ChangeSpec := { name := "leadLashes", fn := fun _ => fun
  | [d1, d2] => { results := [.lit (.bool true)], args := [d1, d2] }
  | _ => none }
def leadLashesRow : OpenClaim := { program := "ytcihkhhkppjcmaa", sum := "614f39bbda48336efac5c20dc9d8d5f4b70fce8b020b1b1ec84057f3b84269e5", func := "acme/acmelaw06.LeadLashes", spec := "leadLashes", unfollowed := true, recurses := true, apart := false }
def LeadLashesSaid : Prop := leadLashesRow.holds Try.pinned (OpenSpec.ofChange leadLashesSpec)

/-- ITS FALSE NEIGHBOUR: 'it returns false'. Refute it at one input. -/
def leadLashesWrong : ChangeSpec := { name := "leadLashes", fn := fun _ => fun
  | [d1, d2] => { results := [.lit (.bool false)], args := [d1, d2] }
  | _ => none }
def LeadLashesWrongFalsely : Prop := leadLashesRow.holds Try.pinned (OpenSpec.ofChange leadLashesWrong)

/-- 'acmelaw06.LeadTruths': WHATEVER THE INPUT: true; the input reads as it did. -/
def leadTruthsSpec : ChangeSpec := { name := "leadTruths", fn := fun _ => fun
  | [d1, d2] => { results := [.lit (.bool true)], args := [d1, d2] }
  | _ => none }
def leadTruthsRow : OpenClaim := { program := "ytcihkhhkppjcmaa", sum := "614f39bbda48336efac5c20dc9d8d5f4b70fce8b020b1b1ec84057f3b84269e5", func := "acme/acmelaw06.LeadTruths", spec := "leadTruths", unfollowed := true, recurses := true, apart := false }
def LeadTruthsSaid : Prop := leadTruthsRow.holds Try.pinned (OpenSpec.ofChange leadTruthsSpec)

/-- ITS FALSE NEIGHBOUR: 'it returns false'. Refute it at one input. -/
def leadTruthsWrong : ChangeSpec := { name := "leadTruths", fn := fun _ => fun
  | [d1, d2] => { results := [.lit (.bool false)], args := [d1, d2] }
  | _ => none }
def LeadTruthsWrongFalsely : Prop := leadTruthsRow.holds Try.pinned (OpenSpec.ofChange leadTruthsWrong)

/-- 'acmelaw06.LeadBothEnds': WHATEVER THE INPUT: true; the input reads as it did. -/
def leadBothEndsSpec : ChangeSpec := { name := "leadBothEnds", fn := fun _ => fun
  | [d1, d2] => { results := [.lit (.bool true)], args := [d1, d2] }
  | _ => none }
def leadBothEndsRow : OpenClaim := { program := "ytcihkhhkppjcmaa", sum := "614f39bbda48336efac5c20dc9d8d5f4b70fce8b020b1b1ec84057f3b84269e5", func := "acme/acmelaw06.LeadBothEnds", spec := "leadBothEnds", unfollowed := true, recurses := true, apart := false }
def LeadBothEndsSaid : Prop := leadBothEndsRow.holds Try.pinned (OpenSpec.ofChange leadBothEndsSpec)

/-- ITS FALSE NEIGHBOUR: 'it returns false'. Refute it at one input. -/
def leadBothEndsWrong : ChangeSpec := { name := "leadBothEnds", fn := fun _ => fun
  | [d1, d2] => { results := [.lit (.bool false)], args := [d1, d2] }
  | _ => none }
def LeadBothEndsWrongFalsely : Prop := leadBothEndsRow.holds Try.pinned (OpenSpec.ofChange leadBothEndsWrong)

/-- 'acmelaw06.LeadWithin': WHATEVER THE INPUT: true; the input reads as it did. -/
def leadWithinSpec : ChangeSpec := { name := "leadWithin", fn := fun _ => fun
  | [d1, d2, d3] => { results := [.lit (.bool true)], args := [d1, d2, d3] }
  | _ => none }
def leadWithinRow : OpenClaim := { program := "ytcihkhhkppjcmaa", sum := "614f39bbda48336efac5c20dc9d8d5f4b70fce8b020b1b1ec84057f3b84269e5", func := "acme/acmelaw06.LeadWithin", spec := "leadWithin", unfollowed := true, recurses := true, apart := false }
def LeadWithinSaid : Prop := leadWithinRow.holds Try.pinned (OpenSpec.ofChange leadWithinSpec)

/-- ITS FALSE NEIGHBOUR: 'it returns false'. Refute it at one input. -/
def leadWithinWrong : ChangeSpec := { name := "leadWithin", fn := fun _ => fun
  | [d1, d2, d3] => { results := [.lit (.bool false)], args := [d1, d2, d3] }
  | _ => none }
def LeadWithinWrongFalsely : Prop := leadWithinRow.holds Try.pinned (OpenSpec.ofChange leadWithinWrong)

/-- 'acmelaw06.LeadParted': WHATEVER THE INPUT: true; the input reads as it did. -/
def leadPartedSpec : ChangeSpec := { name := "leadParted", fn := fun _ => fun
  | [d1, d2, d3] => { results := [.lit (.bool true)], args := [d1, d2, d3] }
  | _ => none }
def leadPartedRow : OpenClaim := { program := "ytcihkhhkppjcmaa", sum := "614f39bbda48336efac5c20dc9d8d5f4b70fce8b020b1b1ec84057f3b84269e5", func := "acme/acmelaw06.LeadParted", spec := "leadParted", unfollowed := true, recurses := true, apart := false }
def LeadPartedSaid : Prop := leadPartedRow.holds Try.pinned (OpenSpec.ofChange leadPartedSpec)

/-- ITS FALSE NEIGHBOUR: 'it returns false'. Refute it at one input. -/
def leadPartedWrong : ChangeSpec := { name := "leadParted", fn := fun _ => fun
  | [d1, d2, d3] => { results := [.lit (.bool false)], args := [d1, d2, d3] }
  | _ => none }
def LeadPartedWrongFalsely : Prop := leadPartedRow.holds Try.pinned (OpenSpec.ofChange leadPartedWrong)

/- THE SECOND FORM. 'bulk': how many values and letters a reading holds, each counted each time it is reached (what is shared counts as often as it is met; a slice's spare places count too). A statement '..UptoSaid' is the law's where the arguments, and the package variables that the reading takes, are together of bulk at most 1048576: NARROWER than '..Said'. Prove '..Said' where nothing that the law and all that it calls make is longer than what came in: it says more and counts as full. Else prove '..UptoSaid'. A law counts once. -/
mutual
def uptoBulk {H : Type} : DataW H → Nat
  | .lit (.string bytes) => bytes.length + 1
  | .lit _ => 1
  | .nil => 1
  | .ptr d => uptoBulk d + 1
  | .slice elems spare => uptoBulkAll elems + uptoBulkAll spare + 1
  | .agg parts => uptoBulkAll parts + 1
  | .iface _ d => uptoBulk d + 1
  | .map entries => uptoBulkEntries entries + 1
  | .held _ => 1
def uptoBulkAll {H : Type} : List (DataW H) → Nat
  | [] => 0
  | d :: r => uptoBulk d + uptoBulkAll r
def uptoBulkEntries {H : Type} : List (Lit × DataW H) → Nat
  | [] => 0
  | x :: r => uptoBulkEntry x + uptoBulkEntries r
def uptoBulkEntry {H : Type} : Lit × DataW H → Nat
  | (.string bytes, d) => bytes.length + uptoBulk d + 1
  | (_, d) => uptoBulk d + 1
 end
def uptoSmall : (H : Type) → List (DataW H) → Bool := fun _ ds => decide (uptoBulkAll ds ≤ 1048576)
def OpenSpec.upto (s : _root_.Go.ChangeSpec) : _root_.Go.OpenSpec := { _root_.Go.OpenSpec.ofChange s with cond := some uptoSmall }

/-- 'acmelaw06.LeadErrors', WHERE WHAT IT READS IS OF BULK AT MOST 1048576: true; the input reads as it did. -/
def leadErrorsUptoRow : OpenClaim := { program := "ytcihkhhkppjcmaa", sum := "614f39bbda48336efac5c20dc9d8d5f4b70fce8b020b1b1ec84057f3b84269e5", func := "acme/acmelaw06.LeadErrors", spec := "leadErrors", unfollowed := true, recurses := true, apart := false, narrowed := true }
def LeadErrorsUptoSaid : Prop := leadErrorsUptoRow.holds Try.pinned (OpenSpec.upto leadErrorsSpec)

/-- 'acmelaw06.LeadTravels', WHERE WHAT IT READS IS OF BULK AT MOST 1048576: true; the input reads as it did. -/
def leadTravelsUptoRow : OpenClaim := { program := "ytcihkhhkppjcmaa", sum := "614f39bbda48336efac5c20dc9d8d5f4b70fce8b020b1b1ec84057f3b84269e5", func := "acme/acmelaw06.LeadTravels", spec := "leadTravels", unfollowed := true, recurses := true, apart := false, narrowed := true }
def LeadTravelsUptoSaid : Prop := leadTravelsUptoRow.holds Try.pinned (OpenSpec.upto leadTravelsSpec)

/-- 'acmelaw06.LeadWorsts', WHERE WHAT IT READS IS OF BULK AT MOST 1048576: true; the input reads as it did. -/
def leadWorstsUptoRow : OpenClaim := { program := "ytcihkhhkppjcmaa", sum := "614f39bbda48336efac5c20dc9d8d5f4b70fce8b020b1b1ec84057f3b84269e5", func := "acme/acmelaw06.LeadWorsts", spec := "leadWorsts", unfollowed := true, recurses := true, apart := false, narrowed := true }
def LeadWorstsUptoSaid : Prop := leadWorstsUptoRow.holds Try.pinned (OpenSpec.upto leadWorstsSpec)

/-- 'acmelaw06.LeadCuts', WHERE WHAT IT READS IS OF BULK AT MOST 1048576: true; the input reads as it did. -/
def leadCutsUptoRow : OpenClaim := { program := "ytcihkhhkppjcmaa", sum := "614f39bbda48336efac5c20dc9d8d5f4b70fce8b020b1b1ec84057f3b84269e5", func := "acme/acmelaw06.LeadCuts", spec := "leadCuts", unfollowed := true, recurses := true, apart := false, narrowed := true }
def LeadCutsUptoSaid : Prop := leadCutsUptoRow.holds Try.pinned (OpenSpec.upto leadCutsSpec)

/-- 'acmelaw06.LeadLeasts', WHERE WHAT IT READS IS OF BULK AT MOST 1048576: true; the input reads as it did. -/
def leadLeastsUptoRow : OpenClaim := { program := "ytcihkhhkppjcmaa", sum := "614f39bbda48336efac5c20dc9d8d5f4b70fce8b020b1b1ec84057f3b84269e5", func := "acme/acmelaw06.LeadLeasts", spec := "leadLeasts", unfollowed := true, recurses := true, apart := false, narrowed := true }
def LeadLeastsUptoSaid : Prop := leadLeastsUptoRow.holds Try.pinned (OpenSpec.upto leadLeastsSpec)

/-- 'acmelaw06.LeadSplits', WHERE WHAT IT READS IS OF BULK AT MOST 1048576: true; the input reads as it did. -/
def leadSplitsUptoRow : OpenClaim := { program := "ytcihkhhkppjcmaa", sum := "614f39bbda48336efac5c20dc9d8d5f4b70fce8b020b1b1ec84057f3b84269e5", func := "acme/acmelaw06.LeadSplits", spec := "leadSplits", unfollowed := true, recurses := true, apart := false, narrowed := true }
def LeadSplitsUptoSaid : Prop := leadSplitsUptoRow.holds Try.pinned (OpenSpec.upto leadSplitsSpec)

/-- 'acmelaw06.LeadLashes', WHERE WHAT IT READS IS OF BULK AT MOST 1048576: true; the input reads as it did. -/
def leadLashesUptoRow : OpenClaim := { program := "ytcihkhhkppjcmaa", sum := "614f39bbda48336efac5c20dc9d8d5f4b70fce8b020b1b1ec84057f3b84269e5", func := "acme/acmelaw06.LeadLashes", spec := "leadLashes", unfollowed := true, recurses := true, apart := false, narrowed := true }
def LeadLashesUptoSaid : Prop := leadLashesUptoRow.holds Try.pinned (OpenSpec.upto leadLashesSpec)

/-- 'acmelaw06.LeadTruths', WHERE WHAT IT READS IS OF BULK AT MOST 1048576: true; the input reads as it did. -/
def leadTruthsUptoRow : OpenClaim := { program := "ytcihkhhkppjcmaa", sum := "614f39bbda48336efac5c20dc9d8d5f4b70fce8b020b1b1ec84057f3b84269e5", func := "acme/acmelaw06.LeadTruths", spec := "leadTruths", unfollowed := true, recurses := true, apart := false, narrowed := true }
def LeadTruthsUptoSaid : Prop := leadTruthsUptoRow.holds Try.pinned (OpenSpec.upto leadTruthsSpec)

/-- 'acmelaw06.LeadBothEnds', WHERE WHAT IT READS IS OF BULK AT MOST 1048576: true; the input reads as it did. -/
def leadBothEndsUptoRow : OpenClaim := { program := "ytcihkhhkppjcmaa", sum := "614f39bbda48336efac5c20dc9d8d5f4b70fce8b020b1b1ec84057f3b84269e5", func := "acme/acmelaw06.LeadBothEnds", spec := "leadBothEnds", unfollowed := true, recurses := true, apart := false, narrowed := true }
def LeadBothEndsUptoSaid : Prop := leadBothEndsUptoRow.holds Try.pinned (OpenSpec.upto leadBothEndsSpec)

/-- 'acmelaw06.LeadWithin', WHERE WHAT IT READS IS OF BULK AT MOST 1048576: true; the input reads as it did. -/
def leadWithinUptoRow : OpenClaim := { program := "ytcihkhhkppjcmaa", sum := "614f39bbda48336efac5c20dc9d8d5f4b70fce8b020b1b1ec84057f3b84269e5", func := "acme/acmelaw06.LeadWithin", spec := "leadWithin", unfollowed := true, recurses := true, apart := false, narrowed := true }
def LeadWithinUptoSaid : Prop := leadWithinUptoRow.holds Try.pinned (OpenSpec.upto leadWithinSpec)

/-- 'acmelaw06.LeadParted', WHERE WHAT IT READS IS OF BULK AT MOST 1048576: true; the input reads as it did. -/
def leadPartedUptoRow : OpenClaim := { program := "ytcihkhhkppjcmaa", sum := "614f39bbda48336efac5c20dc9d8d5f4b70fce8b020b1b1ec84057f3b84269e5", func := "acme/acmelaw06.LeadParted", spec := "leadParted", unfollowed := true, recurses := true, apart := false, narrowed := true }
def LeadPartedUptoSaid : Prop := leadPartedUptoRow.holds Try.pinned (OpenSpec.upto leadPartedSpec)

end Rows
end Go.Proofs.Ytcihkhhkppjcmaa
