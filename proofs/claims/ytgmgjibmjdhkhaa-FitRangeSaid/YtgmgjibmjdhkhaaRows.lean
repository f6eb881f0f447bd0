/-
  No cell of these rows narrows 'for every input' (looked for: loops, veiled, ifaces, maps, wideKeys, modest, calm, conditions, laid).
  DERIVED. THE GIVEN ROWS OF THIS SEAT. 10 by the template 'for every input the law returns true; each argument reads behind the call as it read before'; 0 by the template 'total and deterministic' (their statements: YtgmgjibmjdhkhaaTotals.lean).
  GIVEN WITH THE SEED: the statements are not yours to turn. If you find one false, say at which input.
  Laid BY PROGRAM, IN A SANDBOX (cutbox-rows.mjs): the forced cells as the released guide's own fill.sh prints them over the translation abca9940305d71af… (all of the seat's roots in one cut). By AI agents, Wed Nov 11 2026. No macro, syntax, notation, axiom, sorry.
-/
import Derived.Test.YtgmgjibmjdhkhaaChecked
import GoSem.Claim
import GoSem.ClaimJoined
import GoSem.ClaimMapViews
import Derived.JoinedTies
import Derived.KernelRfl
namespace Go.Proofs.Ytgmgjibmjdhkhaa
/- THE CELL 'sum', in the pinned program and in every row, IS THE sha256 OF THE DUMP (.gsa) THAT YtgmgjibmjdhkhaaProg.lean LOADS. Nothing in Lean hashes anything: it is a label: what it is worth is what the hold of that sum in a sandbox is worth. -/
noncomputable def Try.pinned : Pinned := { name := "ytgmgjibmjdhkhaa", sum := "abca9940305d71afd8c0ecd0d3a7d9a28278a8b70eac286cf9477869da73c3b4", checked := Try.checked }
namespace Rows
def none {H : Type} : Left H := { results := [], args := [] }

/-- 'acmelaw03.FitChecks': WHATEVER THE INPUT: true; the input reads as it did. -/
def fitChecksSpec : ChangeSpec := { name := "fitChecks", fn := fun _ => fun
  | [d1, d2, d3] => { results := [.lit (.bool true)], args := [d1, d2, d3] }
  | _ => none }
def fitChecksRow : OpenClaim := { program := "ytgmgjibmjdhkhaa", sum := "abca9940305d71afd8c0ecd0d3a7d9a28278a8b70eac286cf9477869da73c3b4", func := "acme/acmelaw03.FitChecks", spec := "fitChecks", unfollowed := true, recurses := true, apart := false }
def FitChecksSaid : Prop := fitChecksRow.holds Try.pinned (OpenSpec.ofChange fitChecksSpec)

/-- ITS FALSE NEIGHBOUR: 'it returns false'. Refute it at one input. -/
def fitChecksWrong : ChangeSpec := { name := "fitChecks", fn := fun _ => fun
  | [d1, d2, d3] => { results := [.lit (.bool false)], args := [d1, d2, d3] }
  | _ => none }
def FitChecksWrongFalsely : Prop := fitChecksRow.holds Try.pinned (OpenSpec.ofChange fitChecksWrong)

/-- 'acmelaw03.FitShifts': WHATEVER THE INPUT: true; the input reads as it did. -/
def fitShiftsSpec : ChangeSpec := { name := "fitShifts", fn := fun _ => fun
  | [d1, d2, d3] => { results := [.lit (.bool true)], args := [d1, d2, d3] }
  | _ => none }
def fitShiftsRow : OpenClaim := { program := "ytgmgjibmjdhkhaa", sum := "abca9940305d71afd8c0ecd0d3a7d9a28278a8b70eac286cf9477869da73c3b4", func := "acme/acmelaw03.FitShifts", spec := "fitShifts", unfollowed := true, recurses := true, apart := false }
def FitShiftsSaid : Prop := fitShiftsRow.holds Try.pinned (OpenSpec.ofChange fitShiftsSpec)

/-- ITS FALSE NEIGHBOUR: 'it returns false'. Refute it at one input. -/
def fitShiftsWrong : ChangeSpec := { name := "fitShifts", fn := fun _ => fun
  | [d1, d2, d3] => { results := [.lit (.bool false)], args := [d1, d2, d3] }
  | _ => none }
def FitShiftsWrongFalsely : Prop := fitShiftsRow.holds Try.pinned (OpenSpec.ofChange fitShiftsWrong)

/-- 'acmelaw03.FitShows': WHATEVER THE INPUT: true; the input reads as it did. -/
def fitShowsSpec : ChangeSpec := { name := "fitShows", fn := fun _ => fun
  | [d1, d2] => { results := [.lit (.bool true)], args := [d1, d2] }
  | _ => none }
def fitShowsRow : OpenClaim := { program := "ytgmgjibmjdhkhaa", sum := "abca9940305d71afd8c0ecd0d3a7d9a28278a8b70eac286cf9477869da73c3b4", func := "acme/acmelaw03.FitShows", spec := "fitShows", unfollowed := true, recurses := true, apart := false }
def FitShowsSaid : Prop := fitShowsRow.holds Try.pinned (OpenSpec.ofChange fitShowsSpec)

/-- ITS FALSE NEIGHBOUR: 'it returns false'. Refute it at one input. -/
def fitShowsWrong : ChangeSpec := { name := "fitShows", fn := fun _ => fun
  | [d1, d2] => { results := [.lit (.bool false)], args := [d1, d2] }
  | _ => none }
def FitShowsWrongFalsely : Prop := fitShowsRow.holds Try.pinned (OpenSpec.ofChange fitShowsWrong)

/-- 'acmelaw03.FitCosts': WHATEVER THE INPUT: true; the input reads as it did. -/
def fitCostsSpec : ChangeSpec := { name := "fitCosts", fn := fun _ => fun
  | [d1, d2, d3] => { results := [.lit (.bool true)], args := [d1, d2, d3] }
  | _ => none }
def fitCostsRow : OpenClaim := { program := "ytgmgjibmjdhkhaa", sum := "abca9940305d71afd8c0ecd0d3a7d9a28278a8b70eac286cf9477869da73c3b4", func := "acme/acmelaw03.FitCosts", spec := "fitCosts", unfollowed := true, recurses := true, apart := false }
def FitCostsSaid : Prop := fitCostsRow.holds Try.pinned (OpenSpec.ofChange fitCostsSpec)

/-- ITS FALSE NEIGHBOUR: 'it returns false'. Refute it at one input. -/
def fitCostsWrong : ChangeSpec := { name := "fitCosts", fn := fun _ => fun
  | [d1, d2, d3] => { results := [.lit (.bool false)], args := [d1, d2, d3] }
  | _ => none }
def FitCostsWrongFalsely : Prop := fitCostsRow.holds Try.pinned (OpenSpec.ofChange fitCostsWrong)

/-- 'acmelaw03.FitGoers': WHATEVER THE INPUT: true; the input reads as it did. -/
def fitGoersSpec : ChangeSpec := { name := "fitGoers", fn := fun _ => fun
  | [d1, d2, d3] => { results := [.lit (.bool true)], args := [d1, d2, d3] }
  | _ => none }
def fitGoersRow : OpenClaim := { program := "ytgmgjibmjdhkhaa", sum := "abca9940305d71afd8c0ecd0d3a7d9a28278a8b70eac286cf9477869da73c3b4", func := "acme/acmelaw03.FitGoers", spec := "fitGoers", unfollowed := true, recurses := true, apart := false }
def FitGoersSaid : Prop := fitGoersRow.holds Try.pinned (OpenSpec.ofChange fitGoersSpec)

/-- ITS FALSE NEIGHBOUR: 'it returns false'. Refute it at one input. -/
def fitGoersWrong : ChangeSpec := { name := "fitGoers", fn := fun _ => fun
  | [d1, d2, d3] => { results := [.lit (.bool false)], args := [d1, d2, d3] }
  | _ => none }
def FitGoersWrongFalsely : Prop := fitGoersRow.holds Try.pinned (OpenSpec.ofChange fitGoersWrong)

/-- 'acmelaw03.FitGauges': WHATEVER THE INPUT: true; the input reads as it did. -/
def fitGaugesSpec : ChangeSpec := { name := "fitGauges", fn := fun _ => fun
  | [d1, d2, d3] => { results := [.lit (.bool true)], args := [d1, d2, d3] }
  | _ => none }
def fitGaugesRow : OpenClaim := { program := "ytgmgjibmjdhkhaa", sum := "abca9940305d71afd8c0ecd0d3a7d9a28278a8b70eac286cf9477869da73c3b4", func := "acme/acmelaw03.FitGauges", spec := "fitGauges", unfollowed := true, recurses := true, apart := false }
def FitGaugesSaid : Prop := fitGaugesRow.holds Try.pinned (OpenSpec.ofChange fitGaugesSpec)

/-- ITS FALSE NEIGHBOUR: 'it returns false'. Refute it at one input. -/
def fitGaugesWrong : ChangeSpec := { name := "fitGauges", fn := fun _ => fun
  | [d1, d2, d3] => { results := [.lit (.bool false)], args := [d1, d2, d3] }
  | _ => none }
def FitGaugesWrongFalsely : Prop := fitGaugesRow.holds Try.pinned (OpenSpec.ofChange fitGaugesWrong)

/-- 'acmelaw03.FitWitness': WHATEVER THE INPUT: true; the input reads as it did. -/
def fitWitnessSpec : ChangeSpec := { name := "fitWitness", fn := fun _ => fun
  | [d1, d2, d3] => { results := [.lit (.bool true)], args := [d1, d2, d3] }
  | _ => none }
def fitWitnessRow : OpenClaim := { program := "ytgmgjibmjdhkhaa", sum := "abca9940305d71afd8c0ecd0d3a7d9a28278a8b70eac286cf9477869da73c3b4", func := "acme/acmelaw03.FitWitness", spec := "fitWitness", unfollowed := true, recurses := true, apart := false }
def FitWitnessSaid : Prop := fitWitnessRow.holds Try.pinned (OpenSpec.ofChange fitWitnessSpec)

/-- ITS FALSE NEIGHBOUR: 'it returns false'. Refute it at one input. -/
def fitWitnessWrong : ChangeSpec := { name := "fitWitness", fn := fun _ => fun
  | [d1, d2, d3] => { results := [.lit (.bool false)], args := [d1, d2, d3] }
  | _ => none }
def FitWitnessWrongFalsely : Prop := fitWitnessRow.holds Try.pinned (OpenSpec.ofChange fitWitnessWrong)

/-- 'acmelaw03.FitRange': WHATEVER THE INPUT: true; the input reads as it did. -/
def fitRangeSpec : ChangeSpec := { name := "fitRange", fn := fun _ => fun
  | [d1, d2, d3] => { results := [.lit (.bool true)], args := [d1, d2, d3] }
  | _ => none }
def fitRangeRow : OpenClaim := { program := "ytgmgjibmjdhkhaa", sum := "abca9940305d71afd8c0ecd0d3a7d9a28278a8b70eac286cf9477869da73c3b4", func := "acme/acmelaw03.FitRange", spec := "fitRange", unfollowed := true, recurses := true, apart := false }
def FitRangeSaid : Prop := fitRangeRow.holds Try.pinned (OpenSpec.ofChange fitRangeSpec)

/-- ITS FALSE NEIGHBOUR: 'it returns false'. Refute it at one input. -/
def fitRangeWrong : ChangeSpec := { name := "fitRange", fn := fun _ => fun
  | [d1, d2, d3] => { results := [.lit (.bool false)], args := [d1, d2, d3] }
  | _ => none }
def FitRangeWrongFalsely : Prop := fitRangeRow.holds Try.pinned (OpenSpec.ofChange fitRangeWrong)

/-- 'acmelaw03.FitMoved': WHATEVER THE INPUT: true; the input reads as it did. -/
def fitMovedSpec : ChangeSpec := { name := "fitMoved", fn := fun _ => fun
  | [d1, d2, d3] => { results := [.lit (.bool true)], args := [d1, d2, d3] }
  | _ => none }
def fitMovedRow : OpenClaim := { program := "ytgmgjibmjdhkhaa", sum := "abca9940305d71afd8c0ecd0d3a7d9a28278a8b70eac286cf9477869da73c3b4", func := "acme/acmelaw03.FitMoved", spec := "fitMoved", unfollowed := true, recurses := true, apart := false }
def FitMovedSaid : Prop := fitMovedRow.holds Try.pinned (OpenSpec.ofChange fitMovedSpec)

/-- ITS FALSE NEIGHBOUR: 'it returns false'. Refute it at one input. -/
def fitMovedWrong : ChangeSpec := { name := "fitMoved", fn := fun _ => fun
  | [d1, d2, d3] => { results := [.lit (.bool false)], args := [d1, d2, d3] }
  | _ => none }
def FitMovedWrongFalsely : Prop := fitMovedRow.holds Try.pinned (OpenSpec.ofChange fitMovedWrong)

/-- 'acmelaw03.FitSteps': WHATEVER THE INPUT: true; the input reads as it did. -/
def fitStepsSpec : ChangeSpec := { name := "fitSteps", fn := fun _ => fun
  | [d1, d2, d3] => { results := [.lit (.bool true)], args := [d1, d2, d3] }
  | _ => none }
def fitStepsRow : OpenClaim := { program := "ytgmgjibmjdhkhaa", sum := "abca9940305d71afd8c0ecd0d3a7d9a28278a8b70eac286cf9477869da73c3b4", func := "acme/acmelaw03.FitSteps", spec := "fitSteps", unfollowed := true, recurses := true, apart := false }
def FitStepsSaid : Prop := fitStepsRow.holds Try.pinned (OpenSpec.ofChange fitStepsSpec)

/-- ITS FALSE NEIGHBOUR: 'it returns false'. Refute it at one input. -/
def fitStepsWrong : ChangeSpec := { name := "fitSteps", fn := fun _ => fun
  | [d1, d2, d3] => { results := [.lit (.bool false)], args := [d1, d2, d3] }
  | _ => none }
def FitStepsWrongFalsely : Prop := fitStepsRow.holds Try.pinned (OpenSpec.ofChange fitStepsWrong)

/- THE SECOND FORM. 'bulk': how many values and letters a reading holds, each counted each time it is reached (what is shared counts as often as it is met; a slice's spare places count too). A statement '..UptoSaid' is the law's where the arguments, and the package variables that the reading takes, are together of bulk at most 1048576: NARROWER than '..Said'. Prove '..Said' where nothing that the law and all that it calls make is longer than what came in: it says more and counts as full. Else prove '..UptoSaid'. A law counts once. -/
mutual
def uptoBulk {H : Type} : DataW H → Nat
  | .lit (.string bytes) => bytes.length + 1
  | .lit _ => 1
  | .nil => 1
  | .ptr d => uptoBulk d + 1
  | .slice elems spare => uptoBulkAll elems + uptoBulkAll spare + 1
  | .agg parts => uptoBulkAll parts + 1
  | .iface _ d => uptoBulk d + 1
  | .map entries => uptoBulkEntries entries + 1
  | .held _ => 1
def uptoBulkAll {H : Type} : List (DataW H) → Nat
  | [] => 0
  | d :: r => uptoBulk d + uptoBulkAll r
def uptoBulkEntries {H : Type} : List (Lit × DataW H) → Nat
  | [] => 0
  | x :: r => uptoBulkEntry x + uptoBulkEntries r
def uptoBulkEntry {H : Type} : Lit × DataW H → Nat
  | (.string bytes, d) => bytes.length + uptoBulk d + 1
  | (_, d) => uptoBulk d + 1
 end
def uptoSmall : (H : Type) → List (DataW H) → Bool := fun _ ds => decide (uptoBulkAll ds ≤ 1048576)
def OpenSpec.upto (s : _root_.Go.ChangeSpec) : _root_.Go.OpenSpec := { _root_.Go.OpenSpec.ofChange s with cond := some uptoSmall }

/-- 'acmelaw03.FitChecks', WHERE WHAT IT READS IS OF BULK AT MOST 1048576: true; the input reads as it did. -/
def fitChecksUptoRow : OpenClaim := { program := "ytgmgjibmjdhkhaa", sum := "abca9940305d71afd8c0ecd0d3a7d9a28278a8b70eac286cf9477869da73c3b4", func := "acme/acmelaw03.FitChecks", spec := "fitChecks", unfollowed := true, recurses := true, apart := false, narrowed := true }
def FitChecksUptoSaid : Prop := fitChecksUptoRow.holds Try.pinned (OpenSpec.upto fitChecksSpec)

/-- 'acmelaw03.FitShifts', WHERE WHAT IT READS IS OF BULK AT MOST 1048576: true; the input reads as it did. -/
def fitShiftsUptoRow : OpenClaim := { program := "ytgmgjibmjdhkhaa", sum := "abca9940305d71afd8c0ecd0d3a7d9a28278a8b70eac286cf9477869da73c3b4", func := "acme/acmelaw03.FitShifts", spec := "fitShifts", unfollowed := true, recurses := true, apart := false, narrowed := true }
def FitShiftsUptoSaid : Prop := fitShiftsUptoRow.holds Try.pinned (OpenSpec.upto fitShiftsSpec)

/-- 'acmelaw03.FitShows', WHERE WHAT IT READS IS OF BULK AT MOST 1048576: true; the input reads as it did. -/
def fitShowsUptoRow : OpenClaim := { program := "ytgmgjibmjdhkhaa", sum := "abca9940305d71afd8c0ecd0d3a7d9a28278a8b70eac286cf9477869da73c3b4", func := "acme/acmelaw03.FitShows", spec := "fitShows", unfollowed := true, recurses := true, apart := false, narrowed := true }
def FitShowsUptoSaid : Prop := fitShowsUptoRow.holds Try.pinned (OpenSpec.upto fitShowsSpec)

/-- 'acmelaw03.FitCosts', WHERE WHAT IT READS IS OF BULK AT MOST 1048576: true; the input reads as it did. -/
def fitCostsUptoRow : OpenClaim := { program := "ytgmgjibmjdhkhaa", sum := "abca9940305d71afd8c0ecd0d3a7d9a28278a8b70eac286cf9477869da73c3b4", func := "acme/acmelaw03.FitCosts", spec := "fitCosts", unfollowed := true, recurses := true, apart := false, narrowed := true }
def FitCostsUptoSaid : Prop := fitCostsUptoRow.holds Try.pinned (OpenSpec.upto fitCostsSpec)

/-- 'acmelaw03.FitGoers', WHERE WHAT IT READS IS OF BULK AT MOST 1048576: true; the input reads as it did. -/
def fitGoersUptoRow : OpenClaim := { program := "ytgmgjibmjdhkhaa", sum := "abca9940305d71afd8c0ecd0d3a7d9a28278a8b70eac286cf9477869da73c3b4", func := "acme/acmelaw03.FitGoers", spec := "fitGoers", unfollowed := true, recurses := true, apart := false, narrowed := true }
def FitGoersUptoSaid : Prop := fitGoersUptoRow.holds Try.pinned (OpenSpec.upto fitGoersSpec)

/-- 'acmelaw03.FitGauges', WHERE WHAT IT READS IS OF BULK AT MOST 1048576: true; the input reads as it did. -/
def fitGaugesUptoRow : OpenClaim := { program := "ytgmgjibmjdhkhaa", sum := "abca9940305d71afd8c0ecd0d3a7d9a28278a8b70eac286cf9477869da73c3b4", func := "acme/acmelaw03.FitGauges", spec := "fitGauges", unfollowed := true, recurses := true, apart := false, narrowed := true }
def FitGaugesUptoSaid : Prop := fitGaugesUptoRow.holds Try.pinned (OpenSpec.upto fitGaugesSpec)

/-- 'acmelaw03.FitWitness', WHERE WHAT IT READS IS OF BULK AT MOST 1048576: true; the input reads as it did. -/
def fitWitnessUptoRow : OpenClaim := { program := "ytgmgjibmjdhkhaa", sum := "abca9940305d71afd8c0ecd0d3a7d9a28278a8b70eac286cf9477869da73c3b4", func := "acme/acmelaw03.FitWitness", spec := "fitWitness", unfollowed := true, recurses := true, apart := false, narrowed := true }
def FitWitnessUptoSaid : Prop := fitWitnessUptoRow.holds Try.pinned (OpenSpec.upto fitWitnessSpec)

/-- 'acmelaw03.FitRange', WHERE WHAT IT READS IS OF BULK AT MOST 1048576: true; the input reads as it did. -/
def fitRangeUptoRow : OpenClaim := { program := "ytgmgjibmjdhkhaa", sum := "abca9940305d71afd8c0ecd0d3a7d9a28278a8b70eac286cf9477869da73c3b4", func := "acme/acmelaw03.FitRange", spec := "fitRange", unfollowed := true, recurses := true, apart := false, narrowed := true }
def FitRangeUptoSaid : Prop := fitRangeUptoRow.holds Try.pinned (OpenSpec.upto fitRangeSpec)

/-- 'acmelaw03.FitMoved', WHERE WHAT IT READS IS OF BULK AT MOST 1048576: true; the input reads as it did. -/
def fitMovedUptoRow : OpenClaim := { program := "ytgmgjibmjdhkhaa", sum := "abca9940305d71afd8c0ecd0d3a7d9a28278a8b70eac286cf9477869da73c3b4", func := "acme/acmelaw03.FitMoved", spec := "fitMoved", unfollowed := true, recurses := true, apart := false, narrowed := true }
def FitMovedUptoSaid : Prop := fitMovedUptoRow.holds Try.pinned (OpenSpec.upto fitMovedSpec)

/-- 'acmelaw03.FitSteps', WHERE WHAT IT READS IS OF BULK AT MOST 1048576: true; the input reads as it did. -/
def fitStepsUptoRow : OpenClaim := { program := "ytgmgjibmjdhkhaa", sum := "abca9940305d71afd8c0ecd0d3a7d9a28278a8b70eac286cf9477869da73c3b4", func := "acme/acmelaw03.FitSteps", spec := "fitSteps", unfollowed := true, recurses := true, apart := false, narrowed := true }
def FitStepsUptoSaid : Prop := fitStepsUptoRow.holds Try.pinned (OpenSpec.upto fitStepsSpec)

end Rows
end Go.Proofs.Ytgmgjibmjdhkhaa
