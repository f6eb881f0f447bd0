/-
  No cell of these rows narrows 'for every input' (looked for: loops, veiled, ifaces, maps, wideKeys, modest, calm, conditions, laid).
  DERIVED. THE GIVEN ROWS OF THIS SEAT. 9 by the template 'for every input the law returns true; each argument reads behind the call as it read before'; 0 by the template 'total and deterministic' (their statements: YtifanigkolnedaaTotals.lean).
  GIVEN WITH THE SEED: the statements are not yours to turn. If you find one false, say at which input.
  Laid BY PROGRAM, IN A SANDBOX (cutbox-rows.mjs): the forced cells as the released guide's own fill.sh prints them over the translation 04cd6e607da57082… (all of the seat's roots in one cut). By AI agents, Wed Nov 11 2026. No macro, syntax, notation, axiom, sorry.
-/
import Derived.Test.YtifanigkolnedaaChecked
import GoSem.Claim
import GoSem.ClaimJoined
import GoSem.ClaimMapViews
import Derived.JoinedTies
import Derived.KernelRfl
namespace Go.Proofs.Ytifanigkolnedaa
/- THE CELL 'sum', in the pinned program and in every row, IS THE sha256 OF THE DUMP (.gsa) THAT YtifanigkolnedaaProg.lean LOADS. Nothing in Lean hashes anything: it is a label: what it is worth is what the hold of that sum in a sandbox is worth. -/
noncomputable def Try.pinned : Pinned := { name := "ytifanigkolnedaa", sum := "04cd6e607da570823b3a643dfc02fb1ac2090f0ceedcab6bf54aab120fd4f3cb", checked := Try.checked }
namespace Rows
def none {H : Type} : Left H := { results := [], args := [] }

/-- 'acmelaw02.ZoneLimits': WHATEVER THE INPUT: true; the input reads as it did. -/
def zoneLimitsSpec : ChangeSpec := { name := "zoneLimits", fn := fun _ => fun
  | [d1, d2, d3] => { results := [.lit (.bool true)], args := [d1, d2, d3] }
  | _ => none }
def zoneLimitsRow : OpenClaim := { program := "ytifanigkolnedaa", sum := "04cd6e607da570823b3a643dfc02fb1ac2090f0ceedcab6bf54aab120fd4f3cb", func := "acme/acmelaw02.ZoneLimits", spec := "zoneLimits", unfollowed := true, recurses := true, apart := false }
def ZoneLimitsSaid : Prop := zoneLimitsRow.holds Try.pinned (OpenSpec.ofChange zoneLimitsSpec)

/-- ITS FALSE NEIGHBOUR: 'it returns false'. Refute it at one input. -/
def zoneLimitsWrong : ChangeSpec := { name := "zoneLimits", fn := fun _ => fun
  | [d1, d2, d3] => { results := [.lit (.bool false)], args := [d1, d2, d3] }
  | _ => none }
def ZoneLimitsWrongFalsely : Prop := zoneLimitsRow.holds Try.pinned (OpenSpec.ofChange zoneLimitsWrong)

/-- 'acmelaw02.ZoneCoats': WHATEVER THE INPUT: true; the input reads as it did. -/
def zoneCoatsSpec : ChangeSpec := { name := "zoneCoats", fn := fun _ => fun
  | [d1, d2, d3] => { results := [.lit (.bool true)], args := [d1, d2, d3] }
  | _ => none }
def zoneCoatsRow : OpenClaim := { program := "ytifanigkolnedaa", sum := "04cd6e607da570823b3a643dfc02fb1ac2090f0ceedcab6bf54aab120fd4f3cb", func := "acme/acmelaw02.ZoneCoats", spec := "zoneCoats", unfollowed := true, recurses := true, apart := false }
def ZoneCoatsSaid : Prop := zoneCoatsRow.holds Try.pinned (OpenSpec.ofChange zoneCoatsSpec)

/-- ITS FALSE NEIGHBOUR: 'it returns false'. Refute it at one input. -/
def zoneCoatsWrong : ChangeSpec := { name := "zoneCoats", fn := fun _ => fun
  | [d1, d2, d3] => { results := [.lit (.bool false)], args := [d1, d2, d3] }
  | _ => none }
def ZoneCoatsWrongFalsely : Prop := zoneCoatsRow.holds Try.pinned (OpenSpec.ofChange zoneCoatsWrong)

/-- 'acmelaw02.ZonePairs': WHATEVER THE INPUT: true; the input reads as it did. -/
def zonePairsSpec : ChangeSpec := { name := "zonePairs", fn := fun _ => fun
  | [d1, d2, d3] => { results := [.lit (.bool true)], args := [d1, d2, d3] }
  | _ => none }
def zonePairsRow : OpenClaim := { program := "ytifanigkolnedaa", sum := "04cd6e607da570823b3a643dfc02fb1ac2090f0ceedcab6bf54aab120fd4f3cb", func := "acme/acmelaw02.ZonePairs", spec := "zonePairs", unfollowed := true, recurses := true, apart := false }
def ZonePairsSaid : Prop := zonePairsRow.holds Try.pinned (OpenSpec.ofChange zonePairsSpec)

/-- ITS FALSE NEIGHBOUR: 'it returns false'. Refute it at one input. -/
def zonePairsWrong : ChangeSpec := { name := "zonePairs", fn := fun _ => fun
  | [d1, d2, d3] => { results := [.lit (.bool false)], args := [d1, d2, d3] }
  | _ => none }
def ZonePairsWrongFalsely : Prop := zonePairsRow.holds Try.pinned (OpenSpec.ofChange zonePairsWrong)

/-- 'acmelaw02.ZoneInside': WHATEVER THE INPUT: true; the input reads as it did. -/
def zoneInsideSpec : ChangeSpec := { name := "zoneInside", fn := fun _ => fun
  | [d1, d2, d3] => { results := [.lit (.bool true)], args := [d1, d2, d3] }
  | _ => none }
def zoneInsideRow : OpenClaim := { program := "ytifanigkolnedaa", sum := "04cd6e607da570823b3a643dfc02fb1ac2090f0ceedcab6bf54aab120fd4f3cb", func := "acme/acmelaw02.ZoneInside", spec := "zoneInside", unfollowed := true, recurses := true, apart := false }
def ZoneInsideSaid : Prop := zoneInsideRow.holds Try.pinned (OpenSpec.ofChange zoneInsideSpec)

/-- ITS FALSE NEIGHBOUR: 'it returns false'. Refute it at one input. -/
def zoneInsideWrong : ChangeSpec := { name := "zoneInside", fn := fun _ => fun
  | [d1, d2, d3] => { results := [.lit (.bool false)], args := [d1, d2, d3] }
  | _ => none }
def ZoneInsideWrongFalsely : Prop := zoneInsideRow.holds Try.pinned (OpenSpec.ofChange zoneInsideWrong)

/-- 'acmelaw02.ZoneGroups': WHATEVER THE INPUT: true; the input reads as it did. -/
def zoneGroupsSpec : ChangeSpec := { name := "zoneGroups", fn := fun _ => fun
  | [d1, d2, d3] => { results := [.lit (.bool true)], args := [d1, d2, d3] }
  | _ => none }
def zoneGroupsRow : OpenClaim := { program := "ytifanigkolnedaa", sum := "04cd6e607da570823b3a643dfc02fb1ac2090f0ceedcab6bf54aab120fd4f3cb", func := "acme/acmelaw02.ZoneGroups", spec := "zoneGroups", unfollowed := true, recurses := true, apart := false }
def ZoneGroupsSaid : Prop := zoneGroupsRow.holds Try.pinned (OpenSpec.ofChange zoneGroupsSpec)

/-- ITS FALSE NEIGHBOUR: 'it returns false'. Refute it at one input. -/
def zoneGroupsWrong : ChangeSpec := { name := "zoneGroups", fn := fun _ => fun
  | [d1, d2, d3] => { results := [.lit (.bool false)], args := [d1, d2, d3] }
  | _ => none }
def ZoneGroupsWrongFalsely : Prop := zoneGroupsRow.holds Try.pinned (OpenSpec.ofChange zoneGroupsWrong)

/-- 'acmelaw02.ZoneFits': WHATEVER THE INPUT: true; the input reads as it did. -/
def zoneFitsSpec : ChangeSpec := { name := "zoneFits", fn := fun _ => fun
  | [d1, d2, d3] => { results := [.lit (.bool true)], args := [d1, d2, d3] }
  | _ => none }
def zoneFitsRow : OpenClaim := { program := "ytifanigkolnedaa", sum := "04cd6e607da570823b3a643dfc02fb1ac2090f0ceedcab6bf54aab120fd4f3cb", func := "acme/acmelaw02.ZoneFits", spec := "zoneFits", unfollowed := true, recurses := true, apart := false }
def ZoneFitsSaid : Prop := zoneFitsRow.holds Try.pinned (OpenSpec.ofChange zoneFitsSpec)

/-- ITS FALSE NEIGHBOUR: 'it returns false'. Refute it at one input. -/
def zoneFitsWrong : ChangeSpec := { name := "zoneFits", fn := fun _ => fun
  | [d1, d2, d3] => { results := [.lit (.bool false)], args := [d1, d2, d3] }
  | _ => none }
def ZoneFitsWrongFalsely : Prop := zoneFitsRow.holds Try.pinned (OpenSpec.ofChange zoneFitsWrong)

/-- 'acmelaw02.ZonePlated': WHATEVER THE INPUT: true; the input reads as it did. -/
def zonePlatedSpec : ChangeSpec := { name := "zonePlated", fn := fun _ => fun
  | [d1, d2, d3] => { results := [.lit (.bool true)], args := [d1, d2, d3] }
  | _ => none }
def zonePlatedRow : OpenClaim := { program := "ytifanigkolnedaa", sum := "04cd6e607da570823b3a643dfc02fb1ac2090f0ceedcab6bf54aab120fd4f3cb", func := "acme/acmelaw02.ZonePlated", spec := "zonePlated", unfollowed := true, recurses := true, apart := false }
def ZonePlatedSaid : Prop := zonePlatedRow.holds Try.pinned (OpenSpec.ofChange zonePlatedSpec)

/-- ITS FALSE NEIGHBOUR: 'it returns false'. Refute it at one input. -/
def zonePlatedWrong : ChangeSpec := { name := "zonePlated", fn := fun _ => fun
  | [d1, d2, d3] => { results := [.lit (.bool false)], args := [d1, d2, d3] }
  | _ => none }
def ZonePlatedWrongFalsely : Prop := zonePlatedRow.holds Try.pinned (OpenSpec.ofChange zonePlatedWrong)

/-- 'acmelaw02.ZoneFiner': WHATEVER THE INPUT: true; the input reads as it did. -/
def zoneFinerSpec : ChangeSpec := { name := "zoneFiner", fn := fun _ => fun
  | [d1, d2, d3] => { results := [.lit (.bool true)], args := [d1, d2, d3] }
  | _ => none }
def zoneFinerRow : OpenClaim := { program := "ytifanigkolnedaa", sum := "04cd6e607da570823b3a643dfc02fb1ac2090f0ceedcab6bf54aab120fd4f3cb", func := "acme/acmelaw02.ZoneFiner", spec := "zoneFiner", unfollowed := true, recurses := true, apart := false }
def ZoneFinerSaid : Prop := zoneFinerRow.holds Try.pinned (OpenSpec.ofChange zoneFinerSpec)

/-- ITS FALSE NEIGHBOUR: 'it returns false'. Refute it at one input. -/
def zoneFinerWrong : ChangeSpec := { name := "zoneFiner", fn := fun _ => fun
  | [d1, d2, d3] => { results := [.lit (.bool false)], args := [d1, d2, d3] }
  | _ => none }
def ZoneFinerWrongFalsely : Prop := zoneFinerRow.holds Try.pinned (OpenSpec.ofChange zoneFinerWrong)

/-- 'acmelaw02.ZoneSorted': WHATEVER THE INPUT: true; the input reads as it did. -/
def zoneSortedSpec : ChangeSpec := { name := "zoneSorted", fn := fun _ => fun
  | [d1, d2, d3] => { results := [.lit (.bool true)], args := [d1, d2, d3] }
  | _ => none }
def zoneSortedRow : OpenClaim := { program := "ytifanigkolnedaa", sum := "04cd6e607da570823b3a643dfc02fb1ac2090f0ceedcab6bf54aab120fd4f3cb", func := "acme/acmelaw02.ZoneSorted", spec := "zoneSorted", unfollowed := true, recurses := true, apart := false }
def ZoneSortedSaid : Prop := zoneSortedRow.holds Try.pinned (OpenSpec.ofChange zoneSortedSpec)

/-- ITS FALSE NEIGHBOUR: 'it returns false'. Refute it at one input. -/
def zoneSortedWrong : ChangeSpec := { name := "zoneSorted", fn := fun _ => fun
  | [d1, d2, d3] => { results := [.lit (.bool false)], args := [d1, d2, d3] }
  | _ => none }
def ZoneSortedWrongFalsely : Prop := zoneSortedRow.holds Try.pinned (OpenSpec.ofChange zoneSortedWrong)

/- THE SECOND FORM. 'bulk': how many values and letters a reading holds, each counted each time it is reached (what is shared counts as often as it is met; a slice's spare places count too). A statement '..UptoSaid' is the law's where the arguments, and the package variables that the reading takes, are together of bulk at most 1048576: NARROWER than '..Said'. Prove '..Said' where nothing that the law and all that it calls make is longer than what came in: it says more and counts as full. Else prove '..UptoSaid'. A law counts once. -/
mutual
def uptoBulk {H : Type} : DataW H → Nat
  | .lit (.string bytes) => bytes.length + 1
  | .lit _ => 1
  | .nil => 1
  | .ptr d => uptoBulk d + 1
  | .slice elems spare => uptoBulkAll elems + uptoBulkAll spare + 1
  | .agg parts => uptoBulkAll parts + 1
  | .iface _ d => uptoBulk d + 1
  | .map entries => uptoBulkEntries entries + 1
  | .held _ => 1
def uptoBulkAll {H : Type} : List (DataW H) → Nat
  | [] => 0
  | d :: r => uptoBulk d + uptoBulkAll r
def uptoBulkEntries {H : Type} : List (Lit × DataW H) → Nat
  | [] => 0
  | x :: r => uptoBulkEntry x + uptoBulkEntries r
def uptoBulkEntry {H : Type} : Lit × DataW H → Nat
  | (.string bytes, d) => bytes.length + uptoBulk d + 1
  | (_, d) => uptoBulk d + 1
 end
def uptoSmall : (H : Type) → List (DataW H) → Bool := fun _ ds => decide (uptoBulkAll ds ≤ 1048576)
def OpenSpec.upto (s : _root_.Go.ChangeSpec) : _root_.Go.OpenSpec := { _root_.Go.OpenSpec.ofChange s with cond := some uptoSmall }

/-- 'acmelaw02.ZoneLimits', WHERE WHAT IT READS IS OF BULK AT MOST 1048576: true; the input reads as it did. -/
def zoneLimitsUptoRow : OpenClaim := { program := "ytifanigkolnedaa", sum := "04cd6e607da570823b3a643dfc02fb1ac2090f0ceedcab6bf54aab120fd4f3cb", func := "acme/acmelaw02.ZoneLimits", spec := "zoneLimits", unfollowed := true, recurses := true, apart := false, narrowed := true }
def ZoneLimitsUptoSaid : Prop := zoneLimitsUptoRow.holds Try.pinned (OpenSpec.upto zoneLimitsSpec)

/-- 'acmelaw02.ZoneCoats', WHERE WHAT IT READS IS OF BULK AT MOST 1048576: true; the input reads as it did. -/
def zoneCoatsUptoRow : OpenClaim := { program := "ytifanigkolnedaa", sum := "04cd6e607da570823b3a643dfc02fb1ac2090f0ceedcab6bf54aab120fd4f3cb", func := "acme/acmelaw02.ZoneCoats", spec := "zoneCoats", unfollowed := true, recurses := true, apart := false, narrowed := true }
def ZoneCoatsUptoSaid : Prop := zoneCoatsUptoRow.holds Try.pinned (OpenSpec.upto zoneCoatsSpec)

/-- 'acmelaw02.ZonePairs', WHERE WHAT IT READS IS OF BULK AT MOST 1048576: true; the input reads as it did. -/
def zonePairsUptoRow : OpenClaim := { program := "ytifanigkolnedaa", sum := "04cd6e607da570823b3a643dfc02fb1ac2090f0ceedcab6bf54aab120fd4f3cb", func := "acme/acmelaw02.ZonePairs", spec := "zonePairs", unfollowed := true, recurses := true, apart := false, narrowed := true }
def ZonePairsUptoSaid : Prop := zonePairsUptoRow.holds Try.pinned (OpenSpec.upto zonePairsSpec)

/-- 'acmelaw02.ZoneInside', WHERE WHAT IT READS IS OF BULK AT MOST 1048576: true; the input reads as it did. -/
def zoneInsideUptoRow : OpenClaim := { program := "ytifanigkolnedaa", sum := "04cd6e607da570823b3a643dfc02fb1ac2090f0ceedcab6bf54aab120fd4f3cb", func := "acme/acmelaw02.ZoneInside", spec := "zoneInside", unfollowed := true, recurses := true, apart := false, narrowed := true }
def ZoneInsideUptoSaid : Prop := zoneInsideUptoRow.holds Try.pinned (OpenSpec.upto zoneInsideSpec)

/-- 'acmelaw02.ZoneGroups', WHERE WHAT IT READS IS OF BULK AT MOST 1048576: true; the input reads as it did. -/
def zoneGroupsUptoRow : OpenClaim := { program := "ytifanigkolnedaa", sum := "04cd6e607da570823b3a643dfc02fb1ac2090f0ceedcab6bf54aab120fd4f3cb", func := "acme/acmelaw02.ZoneGroups", spec := "zoneGroups", unfollowed := true, recurses := true, apart := false, narrowed := true }
def ZoneGroupsUptoSaid : Prop := zoneGroupsUptoRow.holds Try.pinned (OpenSpec.upto zoneGroupsSpec)

/-- 'acmelaw02.ZoneFits', WHERE WHAT IT READS IS OF BULK AT MOST 1048576: true; the input reads as it did. -/
def zoneFitsUptoRow : OpenClaim := { program := "ytifanigkolnedaa", sum := "04cd6e607da570823b3a643dfc02fb1ac2090f0ceedcab6bf54aab120fd4f3cb", func := "acme/acmelaw02.ZoneFits", spec := "zoneFits", unfollowed := true, recurses := true, apart := false, narrowed := true }
def ZoneFitsUptoSaid : Prop := zoneFitsUptoRow.holds Try.pinned (OpenSpec.upto zoneFitsSpec)

/-- 'acmelaw02.ZonePlated', WHERE WHAT IT READS IS OF BULK AT MOST 1048576: true; the input reads as it did. -/
def zonePlatedUptoRow : OpenClaim := { program := "ytifanigkolnedaa", sum := "04cd6e607da570823b3a643dfc02fb1ac2090f0ceedcab6bf54aab120fd4f3cb", func := "acme/acmelaw02.ZonePlated", spec := "zonePlated", unfollowed := true, recurses := true, apart := false, narrowed := true }
def ZonePlatedUptoSaid : Prop := zonePlatedUptoRow.holds Try.pinned (OpenSpec.upto zonePlatedSpec)

/-- 'acmelaw02.ZoneFiner', WHERE WHAT IT READS IS OF BULK AT MOST 1048576: true; the input reads as it did. -/
def zoneFinerUptoRow : OpenClaim := { program := "ytifanigkolnedaa", sum := "04cd6e607da570823b3a643dfc02fb1ac2090f0ceedcab6bf54aab120fd4f3cb", func := "acme/acmelaw02.ZoneFiner", spec := "zoneFiner", unfollowed := true, recurses := true, apart := false, narrowed := true }
def ZoneFinerUptoSaid : Prop := zoneFinerUptoRow.holds Try.pinned (OpenSpec.upto zoneFinerSpec)

/-- 'acmelaw02.ZoneSorted', WHERE WHAT IT READS IS OF BULK AT MOST 1048576: true; the input reads as it did. -/
def zoneSortedUptoRow : OpenClaim := { program := "ytifanigkolnedaa", sum := "04cd6e607da570823b3a643dfc02fb1ac2090f0ceedcab6bf54aab120fd4f3cb", func := "acme/acmelaw02.ZoneSorted", spec := "zoneSorted", unfollowed := true, recurses := true, apart := false, narrowed := true }
def ZoneSortedUptoSaid : Prop := zoneSortedUptoRow.holds Try.pinned (OpenSpec.upto zoneSortedSpec)

end Rows
end Go.Proofs.Ytifanigkolnedaa
