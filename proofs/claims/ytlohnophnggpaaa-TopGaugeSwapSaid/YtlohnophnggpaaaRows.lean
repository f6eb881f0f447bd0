/-
  No cell of these rows narrows 'for every input' (looked for: loops, veiled, ifaces, maps, wideKeys, modest, calm, conditions, laid).
  DERIVED. THE GIVEN ROWS OF THIS SEAT. 4 by the template 'for every input the law returns true; each argument reads behind the call as it read before'; 0 by the template 'total and deterministic' (their statements: YtlohnophnggpaaaTotals.lean).
  GIVEN WITH THE SEED: the statements are not yours to turn. If you find one false, say at which input.
  Laid BY PROGRAM, IN A SANDBOX (cutbox-rows.mjs): the forced cells as the released guide's own fill.sh prints them over the translation 3f5ba6051cc6708a… (all of the seat's roots in one cut). By AI agents, Wed Nov 11 2026. No macro, syntax, notation, axiom, sorry.
-/
import Derived.Test.YtlohnophnggpaaaChecked
import GoSem.Claim
import GoSem.ClaimJoined
import GoSem.ClaimMapViews
import Derived.JoinedTies
import Derived.KernelRfl
namespace Go.Proofs.Ytlohnophnggpaaa
/- THE CELL 'sum', in the pinned program and in every row, IS THE sha256 OF THE DUMP (.gsa) THAT YtlohnophnggpaaaProg.lean LOADS. Nothing in Lean hashes anything: it is a label: what it is worth is what the hold of that sum in a sandbox is worth. -/
noncomputable def Try.pinned : Pinned := { name := "ytlohnophnggpaaa", sum := "3f5ba6051cc6708aacfdc12267bf72cb90b4134529791fe3bb3fd58fc748a570", checked := Try.checked }
namespace Rows
def none {H : Type} : Left H := { results := [], args := [] }

/-- 'acmetop.TopPlatedGauge': WHATEVER THE INPUT: true; the input reads as it did. -/
def topPlatedGaugeSpec : ChangeSpec := { name := "topPlatedGauge", fn := fun _ => fun
  | [d1, d2] => { results := [.lit (.bool true)], args := [d1, d2] }
  | _ => none }
def topPlatedGaugeRow : OpenClaim := { program := "ytlohnophnggpaaa", sum := "3f5ba6051cc6708aacfdc12267bf72cb90b4134529791fe3bb3fd58fc748a570", func := "acme/acmetop.TopPlatedGauge", spec := "topPlatedGauge", unfollowed := true, recurses := true, apart := false }
def TopPlatedGaugeSaid : Prop := topPlatedGaugeRow.holds Try.pinned (OpenSpec.ofChange topPlatedGaugeSpec)

/-- ITS FALSE NEIGHBOUR: 'it returns false'. Refute it at one input. -/
def topPlatedGaugeWrong : ChangeSpec := { name := "topPlatedGauge", fn := fun _ => fun
  | [d1, d2] => { results := [.lit (.bool false)], args := [d1, d2] }
  | _ => none }
def TopPlatedGaugeWrongFalsely : Prop := topPlatedGaugeRow.holds Try.pinned (OpenSpec.ofChange topPlatedGaugeWrong)

/-- 'acmetop.TopGaugeSwap': WHATEVER THE INPUT: true; the input reads as it did. -/
def topGaugeSwapSpec : ChangeSpec := { name := "topGaugeSwap", fn := fun _ => fun
  | [d1, d2, d3] => { results := [.lit (.bool true)], args := [d1, d2, d3] }
  | _ => none }
def topGaugeSwapRow : OpenClaim := { program := "ytlohnophnggpaaa", sum := "3f5ba6051cc6708aacfdc12267bf72cb90b4134529791fe3bb3fd58fc748a570", func := "acme/acmetop.TopGaugeSwap", spec := "topGaugeSwap", unfollowed := true, recurses := true, apart := false }
def TopGaugeSwapSaid : Prop := topGaugeSwapRow.holds Try.pinned (OpenSpec.ofChange topGaugeSwapSpec)

/-- ITS FALSE NEIGHBOUR: 'it returns false'. Refute it at one input. -/
def topGaugeSwapWrong : ChangeSpec := { name := "topGaugeSwap", fn := fun _ => fun
  | [d1, d2, d3] => { results := [.lit (.bool false)], args := [d1, d2, d3] }
  | _ => none }
def TopGaugeSwapWrongFalsely : Prop := topGaugeSwapRow.holds Try.pinned (OpenSpec.ofChange topGaugeSwapWrong)

/-- 'acmetop.TopTaperGauge': WHATEVER THE INPUT: true; the input reads as it did. -/
def topTaperGaugeSpec : ChangeSpec := { name := "topTaperGauge", fn := fun _ => fun
  | [d1, d2] => { results := [.lit (.bool true)], args := [d1, d2] }
  | _ => none }
def topTaperGaugeRow : OpenClaim := { program := "ytlohnophnggpaaa", sum := "3f5ba6051cc6708aacfdc12267bf72cb90b4134529791fe3bb3fd58fc748a570", func := "acme/acmetop.TopTaperGauge", spec := "topTaperGauge", unfollowed := true, recurses := true, apart := false }
def TopTaperGaugeSaid : Prop := topTaperGaugeRow.holds Try.pinned (OpenSpec.ofChange topTaperGaugeSpec)

/-- ITS FALSE NEIGHBOUR: 'it returns false'. Refute it at one input. -/
def topTaperGaugeWrong : ChangeSpec := { name := "topTaperGauge", fn := fun _ => fun
  | [d1, d2] => { results := [.lit (.bool false)], args := [d1, d2] }
  | _ => none }
def TopTaperGaugeWrongFalsely : Prop := topTaperGaugeRow.holds Try.pinned (OpenSpec.ofChange topTaperGaugeWrong)

/-- 'acmetop.TopZoneGauge': WHATEVER THE INPUT: true; the input reads as it did. -/
def topZoneGaugeSpec : ChangeSpec := { name := "topZoneGauge", fn := fun _ => fun
  | [d1, d2] => { results := [.lit (.bool true)], args := [d1, d2] }
  | _ => none }
def topZoneGaugeRow : OpenClaim := { program := "ytlohnophnggpaaa", sum := "3f5ba6051cc6708aacfdc12267bf72cb90b4134529791fe3bb3fd58fc748a570", func := "acme/acmetop.TopZoneGauge", spec := "topZoneGauge", unfollowed := true, recurses := true, apart := false }
def TopZoneGaugeSaid : Prop := topZoneGaugeRow.holds Try.pinned (OpenSpec.ofChange topZoneGaugeSpec)

/-- ITS FALSE NEIGHBOUR: 'it returns false'. Refute it at one input. -/
def topZoneGaugeWrong : ChangeSpec := { name := "topZoneGauge", fn := fun _ => fun
  | [d1, d2] => { results := [.lit (.bool false)], args := [d1, d2] }
  | _ => none }
def TopZoneGaugeWrongFalsely : Prop := topZoneGaugeRow.holds Try.pinned (OpenSpec.ofChange topZoneGaugeWrong)

/- THE SECOND FORM. 'bulk': how many values and letters a reading holds, each counted each time it is reached (what is shared counts as often as it is met; a slice's spare places count too). A statement '..UptoSaid' is the law's where the arguments, and the package variables that the reading takes, are together of bulk at most 1048576: NARROWER than '..Said'. Prove '..Said' where nothing that the law and all that it calls make is longer than what came in: it says more and counts as full. Else prove '..UptoSaid'. A law counts once. -/
mutual
def uptoBulk {H : Type} : DataW H → Nat
  | .lit (.string bytes) => bytes.length + 1
  | .lit _ => 1
  | .nil => 1
  | .ptr d => uptoBulk d + 1
  | .slice elems spare => uptoBulkAll elems + uptoBulkAll spare + 1
  | .agg parts => uptoBulkAll parts + 1
  | .iface _ d => uptoBulk d + 1
  | .map entries => uptoBulkEntries entries + 1
  | .held _ => 1
def uptoBulkAll {H : Type} : List (DataW H) → Nat
  | [] => 0
  | d :: r => uptoBulk d + uptoBulkAll r
def uptoBulkEntries {H : Type} : List (Lit × DataW H) → Nat
  | [] => 0
  | x :: r => uptoBulkEntry x + uptoBulkEntries r
def uptoBulkEntry {H : Type} : Lit × DataW H → Nat
  | (.string bytes, d) => bytes.length + uptoBulk d + 1
  | (_, d) => uptoBulk d + 1
 end
def uptoSmall : (H : Type) → List (DataW H) → Bool := fun _ ds => decide (uptoBulkAll ds ≤ 1048576)
def OpenSpec.upto (s : _root_.Go.ChangeSpec) : _root_.Go.OpenSpec := { _root_.Go.OpenSpec.ofChange s with cond := some uptoSmall }

/-- 'acmetop.TopPlatedGauge', WHERE WHAT IT READS IS OF BULK AT MOST 1048576: true; the input reads as it did. -/
def topPlatedGaugeUptoRow : OpenClaim := { program := "ytlohnophnggpaaa", sum := "3f5ba6051cc6708aacfdc12267bf72cb90b4134529791fe3bb3fd58fc748a570", func := "acme/acmetop.TopPlatedGauge", spec := "topPlatedGauge", unfollowed := true, recurses := true, apart := false, narrowed := true }
def TopPlatedGaugeUptoSaid : Prop := topPlatedGaugeUptoRow.holds Try.pinned (OpenSpec.upto topPlatedGaugeSpec)

/-- 'acmetop.TopGaugeSwap', WHERE WHAT IT READS IS OF BULK AT MOST 1048576: true; the input reads as it did. -/
def topGaugeSwapUptoRow : OpenClaim := { program := "ytlohnophnggpaaa", sum := "3f5ba6051cc6708aacfdc12267bf72cb90b4134529791fe3bb3fd58fc748a570", func := "acme/acmetop.TopGaugeSwap", spec := "topGaugeSwap", unfollowed := true, recurses := true, apart := false, narrowed := true }
def TopGaugeSwapUptoSaid : Prop := topGaugeSwapUptoRow.holds Try.pinned (OpenSpec.upto topGaugeSwapSpec)

/-- 'acmetop.TopTaperGauge', WHERE WHAT IT READS IS OF BULK AT MOST 1048576: true; the input reads as it did. -/
def topTaperGaugeUptoRow : OpenClaim := { program := "ytlohnophnggpaaa", sum := "3f5ba6051cc6708aacfdc12267bf72cb90b4134529791fe3bb3fd58fc748a570", func := "acme/acmetop.TopTaperGauge", spec := "topTaperGauge", unfollowed := true, recurses := true, apart := false, narrowed := true }
def TopTaperGaugeUptoSaid : Prop := topTaperGaugeUptoRow.holds Try.pinned (OpenSpec.upto topTaperGaugeSpec)

/-- 'acmetop.TopZoneGauge', WHERE WHAT IT READS IS OF BULK AT MOST 1048576: true; the input reads as it did. -/
def topZoneGaugeUptoRow : OpenClaim := { program := "ytlohnophnggpaaa", sum := "3f5ba6051cc6708aacfdc12267bf72cb90b4134529791fe3bb3fd58fc748a570", func := "acme/acmetop.TopZoneGauge", spec := "topZoneGauge", unfollowed := true, recurses := true, apart := false, narrowed := true }
def TopZoneGaugeUptoSaid : Prop := topZoneGaugeUptoRow.holds Try.pinned (OpenSpec.upto topZoneGaugeSpec)

end Rows
end Go.Proofs.Ytlohnophnggpaaa
