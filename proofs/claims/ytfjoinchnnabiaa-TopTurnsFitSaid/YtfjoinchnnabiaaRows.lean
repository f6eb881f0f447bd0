/-
  No cell of these rows narrows 'for every input' (looked for: loops, veiled, ifaces, maps, wideKeys, modest, calm, conditions, laid).
  DERIVED. THE GIVEN ROWS OF THIS SEAT. 15 by the template 'for every input the law returns true; each argument reads behind the call as it read before'; 0 by the template 'total and deterministic' (their statements: YtfjoinchnnabiaaTotals.lean).
  GIVEN WITH THE SEED: the statements are not yours to turn. If you find one false, say at which input.
  Laid BY PROGRAM, IN A SANDBOX (cutbox-rows.mjs): the forced cells as the released guide's own fill.sh prints them over the translation d9f8720391436b48… (all of the seat's roots in one cut). By AI agents, Wed Nov 11 2026. No macro, syntax, notation, axiom, sorry.
-/
import Derived.Test.YtfjoinchnnabiaaChecked
import GoSem.Claim
import GoSem.ClaimJoined
import GoSem.ClaimMapViews
import Derived.JoinedTies
import Derived.KernelRfl
namespace Go.Proofs.Ytfjoinchnnabiaa
/- THE CELL 'sum', in the pinned program and in every row, IS THE sha256 OF THE DUMP (.gsa) THAT YtfjoinchnnabiaaProg.lean LOADS. Nothing in Lean hashes anything: it is a label: what it is worth is what the hold of that sum in a sandbox is worth. -/
noncomputable def Try.pinned : Pinned := { name := "ytfjoinchnnabiaa", sum := "d9f8720391436b487233391cc3d989f81cb8e3dc3ff3b5c2fcf9fe2082fb748a", checked := Try.checked }
namespace Rows
def none {H : Type} : Left H := { results := [], args := [] }

/-- 'acmetop.TopTurnsFit': WHATEVER THE INPUT: true; the input reads as it did. -/
def topTurnsFitSpec : ChangeSpec := { name := "topTurnsFit", fn := fun _ => fun
  | [d1, d2, d3] => { results := [.lit (.bool true)], args := [d1, d2, d3] }
  | _ => none }
def topTurnsFitRow : OpenClaim := { program := "ytfjoinchnnabiaa", sum := "d9f8720391436b487233391cc3d989f81cb8e3dc3ff3b5c2fcf9fe2082fb748a", func := "acme/acmetop.TopTurnsFit", spec := "topTurnsFit", unfollowed := true, recurses := true, plainKeys := false, apart := false }
def TopTurnsFitSaid : Prop := topTurnsFitRow.holds Try.pinned (OpenSpec.ofChange topTurnsFitSpec)

/-- ITS FALSE NEIGHBOUR: 'it returns false'. Refute it at one input. -/
def topTurnsFitWrong : ChangeSpec := { name := "topTurnsFit", fn := fun _ => fun
  | [d1, d2, d3] => { results := [.lit (.bool false)], args := [d1, d2, d3] }
  | _ => none }
def TopTurnsFitWrongFalsely : Prop := topTurnsFitRow.holds Try.pinned (OpenSpec.ofChange topTurnsFitWrong)

/-- 'acmetop.TopPlatedGauge': WHATEVER THE INPUT: true; the input reads as it did. -/
def topPlatedGaugeSpec : ChangeSpec := { name := "topPlatedGauge", fn := fun _ => fun
  | [d1, d2] => { results := [.lit (.bool true)], args := [d1, d2] }
  | _ => none }
def topPlatedGaugeRow : OpenClaim := { program := "ytfjoinchnnabiaa", sum := "d9f8720391436b487233391cc3d989f81cb8e3dc3ff3b5c2fcf9fe2082fb748a", func := "acme/acmetop.TopPlatedGauge", spec := "topPlatedGauge", unfollowed := true, recurses := true, plainKeys := false, apart := false }
def TopPlatedGaugeSaid : Prop := topPlatedGaugeRow.holds Try.pinned (OpenSpec.ofChange topPlatedGaugeSpec)

/-- ITS FALSE NEIGHBOUR: 'it returns false'. Refute it at one input. -/
def topPlatedGaugeWrong : ChangeSpec := { name := "topPlatedGauge", fn := fun _ => fun
  | [d1, d2] => { results := [.lit (.bool false)], args := [d1, d2] }
  | _ => none }
def TopPlatedGaugeWrongFalsely : Prop := topPlatedGaugeRow.holds Try.pinned (OpenSpec.ofChange topPlatedGaugeWrong)

/-- 'acmetop.TopGaugeSwap': WHATEVER THE INPUT: true; the input reads as it did. -/
def topGaugeSwapSpec : ChangeSpec := { name := "topGaugeSwap", fn := fun _ => fun
  | [d1, d2, d3] => { results := [.lit (.bool true)], args := [d1, d2, d3] }
  | _ => none }
def topGaugeSwapRow : OpenClaim := { program := "ytfjoinchnnabiaa", sum := "d9f8720391436b487233391cc3d989f81cb8e3dc3ff3b5c2fcf9fe2082fb748a", func := "acme/acmetop.TopGaugeSwap", spec := "topGaugeSwap", unfollowed := true, recurses := true, plainKeys := false, apart := false }
def TopGaugeSwapSaid : Prop := topGaugeSwapRow.holds Try.pinned (OpenSpec.ofChange topGaugeSwapSpec)

/-- ITS FALSE NEIGHBOUR: 'it returns false'. Refute it at one input. -/
def topGaugeSwapWrong : ChangeSpec := { name := "topGaugeSwap", fn := fun _ => fun
  | [d1, d2, d3] => { results := [.lit (.bool false)], args := [d1, d2, d3] }
  | _ => none }
def TopGaugeSwapWrongFalsely : Prop := topGaugeSwapRow.holds Try.pinned (OpenSpec.ofChange topGaugeSwapWrong)

/-- 'acmetop.TopNutTravels': WHATEVER THE INPUT: true; the input reads as it did. -/
def topNutTravelsSpec : ChangeSpec := { name := "topNutTravels", fn := fun _ => fun
  | [d1, d2, d3] => { results := [.lit (.bool true)], args := [d1, d2, d3] }
  | _ => none }
def topNutTravelsRow : OpenClaim := { program := "ytfjoinchnnabiaa", sum := "d9f8720391436b487233391cc3d989f81cb8e3dc3ff3b5c2fcf9fe2082fb748a", func := "acme/acmetop.TopNutTravels", spec := "topNutTravels", unfollowed := true, recurses := true, plainKeys := false, apart := false }
def TopNutTravelsSaid : Prop := topNutTravelsRow.holds Try.pinned (OpenSpec.ofChange topNutTravelsSpec)

/-- ITS FALSE NEIGHBOUR: 'it returns false'. Refute it at one input. -/
def topNutTravelsWrong : ChangeSpec := { name := "topNutTravels", fn := fun _ => fun
  | [d1, d2, d3] => { results := [.lit (.bool false)], args := [d1, d2, d3] }
  | _ => none }
def TopNutTravelsWrongFalsely : Prop := topNutTravelsRow.holds Try.pinned (OpenSpec.ofChange topNutTravelsWrong)

/-- 'acmetop.TopTaperGauge': WHATEVER THE INPUT: true; the input reads as it did. -/
def topTaperGaugeSpec : ChangeSpec := { name := "topTaperGauge", fn := fun _ => fun
  | [d1, d2] => { results := [.lit (.bool true)], args := [d1, d2] }
  | _ => none }
def topTaperGaugeRow : OpenClaim := { program := "ytfjoinchnnabiaa", sum := "d9f8720391436b487233391cc3d989f81cb8e3dc3ff3b5c2fcf9fe2082fb748a", func := "acme/acmetop.TopTaperGauge", spec := "topTaperGauge", unfollowed := true, recurses := true, plainKeys := false, apart := false }
def TopTaperGaugeSaid : Prop := topTaperGaugeRow.holds Try.pinned (OpenSpec.ofChange topTaperGaugeSpec)

/-- ITS FALSE NEIGHBOUR: 'it returns false'. Refute it at one input. -/
def topTaperGaugeWrong : ChangeSpec := { name := "topTaperGauge", fn := fun _ => fun
  | [d1, d2] => { results := [.lit (.bool false)], args := [d1, d2] }
  | _ => none }
def TopTaperGaugeWrongFalsely : Prop := topTaperGaugeRow.holds Try.pinned (OpenSpec.ofChange topTaperGaugeWrong)

/-- 'acmetop.TopLeadTurns': WHATEVER THE INPUT: true; the input reads as it did. -/
def topLeadTurnsSpec : ChangeSpec := { name := "topLeadTurns", fn := fun _ => fun
  | [d1, d2, d3] => { results := [.lit (.bool true)], args := [d1, d2, d3] }
  | _ => none }
def topLeadTurnsRow : OpenClaim := { program := "ytfjoinchnnabiaa", sum := "d9f8720391436b487233391cc3d989f81cb8e3dc3ff3b5c2fcf9fe2082fb748a", func := "acme/acmetop.TopLeadTurns", spec := "topLeadTurns", unfollowed := true, recurses := true, plainKeys := false, apart := false }
def TopLeadTurnsSaid : Prop := topLeadTurnsRow.holds Try.pinned (OpenSpec.ofChange topLeadTurnsSpec)

/-- ITS FALSE NEIGHBOUR: 'it returns false'. Refute it at one input. -/
def topLeadTurnsWrong : ChangeSpec := { name := "topLeadTurns", fn := fun _ => fun
  | [d1, d2, d3] => { results := [.lit (.bool false)], args := [d1, d2, d3] }
  | _ => none }
def TopLeadTurnsWrongFalsely : Prop := topLeadTurnsRow.holds Try.pinned (OpenSpec.ofChange topLeadTurnsWrong)

/-- 'acmetop.TopDieZone': WHATEVER THE INPUT: true; the input reads as it did. -/
def topDieZoneSpec : ChangeSpec := { name := "topDieZone", fn := fun _ => fun
  | [d1, d2, d3] => { results := [.lit (.bool true)], args := [d1, d2, d3] }
  | _ => none }
def topDieZoneRow : OpenClaim := { program := "ytfjoinchnnabiaa", sum := "d9f8720391436b487233391cc3d989f81cb8e3dc3ff3b5c2fcf9fe2082fb748a", func := "acme/acmetop.TopDieZone", spec := "topDieZone", unfollowed := true, recurses := true, plainKeys := false, apart := false }
def TopDieZoneSaid : Prop := topDieZoneRow.holds Try.pinned (OpenSpec.ofChange topDieZoneSpec)

/-- ITS FALSE NEIGHBOUR: 'it returns false'. Refute it at one input. -/
def topDieZoneWrong : ChangeSpec := { name := "topDieZone", fn := fun _ => fun
  | [d1, d2, d3] => { results := [.lit (.bool false)], args := [d1, d2, d3] }
  | _ => none }
def TopDieZoneWrongFalsely : Prop := topDieZoneRow.holds Try.pinned (OpenSpec.ofChange topDieZoneWrong)

/-- 'acmetop.TopZoneFit': WHATEVER THE INPUT: true; the input reads as it did. -/
def topZoneFitSpec : ChangeSpec := { name := "topZoneFit", fn := fun _ => fun
  | [d1, d2, d3] => { results := [.lit (.bool true)], args := [d1, d2, d3] }
  | _ => none }
def topZoneFitRow : OpenClaim := { program := "ytfjoinchnnabiaa", sum := "d9f8720391436b487233391cc3d989f81cb8e3dc3ff3b5c2fcf9fe2082fb748a", func := "acme/acmetop.TopZoneFit", spec := "topZoneFit", unfollowed := true, recurses := true, plainKeys := false, apart := false }
def TopZoneFitSaid : Prop := topZoneFitRow.holds Try.pinned (OpenSpec.ofChange topZoneFitSpec)

/-- ITS FALSE NEIGHBOUR: 'it returns false'. Refute it at one input. -/
def topZoneFitWrong : ChangeSpec := { name := "topZoneFit", fn := fun _ => fun
  | [d1, d2, d3] => { results := [.lit (.bool false)], args := [d1, d2, d3] }
  | _ => none }
def TopZoneFitWrongFalsely : Prop := topZoneFitRow.holds Try.pinned (OpenSpec.ofChange topZoneFitWrong)

/-- 'acmetop.TopDieFit': WHATEVER THE INPUT: true; the input reads as it did. -/
def topDieFitSpec : ChangeSpec := { name := "topDieFit", fn := fun _ => fun
  | [d1, d2] => { results := [.lit (.bool true)], args := [d1, d2] }
  | _ => none }
def topDieFitRow : OpenClaim := { program := "ytfjoinchnnabiaa", sum := "d9f8720391436b487233391cc3d989f81cb8e3dc3ff3b5c2fcf9fe2082fb748a", func := "acme/acmetop.TopDieFit", spec := "topDieFit", unfollowed := true, recurses := true, plainKeys := false, apart := false }
def TopDieFitSaid : Prop := topDieFitRow.holds Try.pinned (OpenSpec.ofChange topDieFitSpec)

/-- ITS FALSE NEIGHBOUR: 'it returns false'. Refute it at one input. -/
def topDieFitWrong : ChangeSpec := { name := "topDieFit", fn := fun _ => fun
  | [d1, d2] => { results := [.lit (.bool false)], args := [d1, d2] }
  | _ => none }
def TopDieFitWrongFalsely : Prop := topDieFitRow.holds Try.pinned (OpenSpec.ofChange topDieFitWrong)

/-- 'acmetop.TopCutScrew': WHATEVER THE INPUT: true; the input reads as it did. -/
def topCutScrewSpec : ChangeSpec := { name := "topCutScrew", fn := fun _ => fun
  | [d1, d2, d3] => { results := [.lit (.bool true)], args := [d1, d2, d3] }
  | _ => none }
def topCutScrewRow : OpenClaim := { program := "ytfjoinchnnabiaa", sum := "d9f8720391436b487233391cc3d989f81cb8e3dc3ff3b5c2fcf9fe2082fb748a", func := "acme/acmetop.TopCutScrew", spec := "topCutScrew", unfollowed := true, recurses := true, plainKeys := false, apart := false }
def TopCutScrewSaid : Prop := topCutScrewRow.holds Try.pinned (OpenSpec.ofChange topCutScrewSpec)

/-- ITS FALSE NEIGHBOUR: 'it returns false'. Refute it at one input. -/
def topCutScrewWrong : ChangeSpec := { name := "topCutScrew", fn := fun _ => fun
  | [d1, d2, d3] => { results := [.lit (.bool false)], args := [d1, d2, d3] }
  | _ => none }
def TopCutScrewWrongFalsely : Prop := topCutScrewRow.holds Try.pinned (OpenSpec.ofChange topCutScrewWrong)

/-- 'acmetop.TopDieGauge': WHATEVER THE INPUT: true; the input reads as it did. -/
def topDieGaugeSpec : ChangeSpec := { name := "topDieGauge", fn := fun _ => fun
  | [d1, d2] => { results := [.lit (.bool true)], args := [d1, d2] }
  | _ => none }
def topDieGaugeRow : OpenClaim := { program := "ytfjoinchnnabiaa", sum := "d9f8720391436b487233391cc3d989f81cb8e3dc3ff3b5c2fcf9fe2082fb748a", func := "acme/acmetop.TopDieGauge", spec := "topDieGauge", unfollowed := true, recurses := true, plainKeys := false, apart := false }
def TopDieGaugeSaid : Prop := topDieGaugeRow.holds Try.pinned (OpenSpec.ofChange topDieGaugeSpec)

/-- ITS FALSE NEIGHBOUR: 'it returns false'. Refute it at one input. -/
def topDieGaugeWrong : ChangeSpec := { name := "topDieGauge", fn := fun _ => fun
  | [d1, d2] => { results := [.lit (.bool false)], args := [d1, d2] }
  | _ => none }
def TopDieGaugeWrongFalsely : Prop := topDieGaugeRow.holds Try.pinned (OpenSpec.ofChange topDieGaugeWrong)

/-- 'acmetop.TopCutZone': WHATEVER THE INPUT: true; the input reads as it did. -/
def topCutZoneSpec : ChangeSpec := { name := "topCutZone", fn := fun _ => fun
  | [d1, d2, d3] => { results := [.lit (.bool true)], args := [d1, d2, d3] }
  | _ => none }
def topCutZoneRow : OpenClaim := { program := "ytfjoinchnnabiaa", sum := "d9f8720391436b487233391cc3d989f81cb8e3dc3ff3b5c2fcf9fe2082fb748a", func := "acme/acmetop.TopCutZone", spec := "topCutZone", unfollowed := true, recurses := true, plainKeys := false, apart := false }
def TopCutZoneSaid : Prop := topCutZoneRow.holds Try.pinned (OpenSpec.ofChange topCutZoneSpec)

/-- ITS FALSE NEIGHBOUR: 'it returns false'. Refute it at one input. -/
def topCutZoneWrong : ChangeSpec := { name := "topCutZone", fn := fun _ => fun
  | [d1, d2, d3] => { results := [.lit (.bool false)], args := [d1, d2, d3] }
  | _ => none }
def TopCutZoneWrongFalsely : Prop := topCutZoneRow.holds Try.pinned (OpenSpec.ofChange topCutZoneWrong)

/-- 'acmetop.TopZoneGauge': WHATEVER THE INPUT: true; the input reads as it did. -/
def topZoneGaugeSpec : ChangeSpec := { name := "topZoneGauge", fn := fun _ => fun
  | [d1, d2] => { results := [.lit (.bool true)], args := [d1, d2] }
  | _ => none }
def topZoneGaugeRow : OpenClaim := { program := "ytfjoinchnnabiaa", sum := "d9f8720391436b487233391cc3d989f81cb8e3dc3ff3b5c2fcf9fe2082fb748a", func := "acme/acmetop.TopZoneGauge", spec := "topZoneGauge", unfollowed := true, recurses := true, plainKeys := false, apart := false }
def TopZoneGaugeSaid : Prop := topZoneGaugeRow.holds Try.pinned (OpenSpec.ofChange topZoneGaugeSpec)

/-- ITS FALSE NEIGHBOUR: 'it returns false'. Refute it at one input. -/
def topZoneGaugeWrong : ChangeSpec := { name := "topZoneGauge", fn := fun _ => fun
  | [d1, d2] => { results := [.lit (.bool false)], args := [d1, d2] }
  | _ => none }
def TopZoneGaugeWrongFalsely : Prop := topZoneGaugeRow.holds Try.pinned (OpenSpec.ofChange topZoneGaugeWrong)

/-- 'acmetop.TopRingScrews': WHATEVER THE INPUT: true; the input reads as it did. -/
def topRingScrewsSpec : ChangeSpec := { name := "topRingScrews", fn := fun _ => fun
  | [d1, d2, d3] => { results := [.lit (.bool true)], args := [d1, d2, d3] }
  | _ => none }
def topRingScrewsRow : OpenClaim := { program := "ytfjoinchnnabiaa", sum := "d9f8720391436b487233391cc3d989f81cb8e3dc3ff3b5c2fcf9fe2082fb748a", func := "acme/acmetop.TopRingScrews", spec := "topRingScrews", unfollowed := true, recurses := true, plainKeys := false, apart := false }
def TopRingScrewsSaid : Prop := topRingScrewsRow.holds Try.pinned (OpenSpec.ofChange topRingScrewsSpec)

/-- ITS FALSE NEIGHBOUR: 'it returns false'. Refute it at one input. -/
def topRingScrewsWrong : ChangeSpec := { name := "topRingScrews", fn := fun _ => fun
  | [d1, d2, d3] => { results := [.lit (.bool false)], args := [d1, d2, d3] }
  | _ => none }
def TopRingScrewsWrongFalsely : Prop := topRingScrewsRow.holds Try.pinned (OpenSpec.ofChange topRingScrewsWrong)

/-- 'acmetop.TopZoneWire': WHATEVER THE INPUT: true; the input reads as it did. -/
def topZoneWireSpec : ChangeSpec := { name := "topZoneWire", fn := fun _ => fun
  | [d1, d2, d3] => { results := [.lit (.bool true)], args := [d1, d2, d3] }
  | _ => none }
def topZoneWireRow : OpenClaim := { program := "ytfjoinchnnabiaa", sum := "d9f8720391436b487233391cc3d989f81cb8e3dc3ff3b5c2fcf9fe2082fb748a", func := "acme/acmetop.TopZoneWire", spec := "topZoneWire", unfollowed := true, recurses := true, plainKeys := false, apart := false }
def TopZoneWireSaid : Prop := topZoneWireRow.holds Try.pinned (OpenSpec.ofChange topZoneWireSpec)

/-- ITS FALSE NEIGHBOUR: 'it returns false'. Refute it at one input. -/
def topZoneWireWrong : ChangeSpec := { name := "topZoneWire", fn := fun _ => fun
  | [d1, d2, d3] => { results := [.lit (.bool false)], args := [d1, d2, d3] }
  | _ => none }
def TopZoneWireWrongFalsely : Prop := topZoneWireRow.holds Try.pinned (OpenSpec.ofChange topZoneWireWrong)

/- THE SECOND FORM. 'bulk': how many values and letters a reading holds, each counted each time it is reached (what is shared counts as often as it is met; a slice's spare places count too). A statement '..UptoSaid' is the law's where the arguments, and the package variables that the reading takes, are together of bulk at most 1048576: NARROWER than '..Said'. Prove '..Said' where nothing that the law and all that it calls make is longer than what came in: it says more and counts as full. Else prove '..UptoSaid'. A law counts once. -/
mutual
def uptoBulk {H : Type} : DataW H → Nat
  | .lit (.string bytes) => bytes.length + 1
  | .lit _ => 1
  | .nil => 1
  | .ptr d => uptoBulk d + 1
  | .slice elems spare => uptoBulkAll elems + uptoBulkAll spare + 1
  | .agg parts => uptoBulkAll parts + 1
  | .iface _ d => uptoBulk d + 1
  | .map entries => uptoBulkEntries entries + 1
  | .held _ => 1
def uptoBulkAll {H : Type} : List (DataW H) → Nat
  | [] => 0
  | d :: r => uptoBulk d + uptoBulkAll r
def uptoBulkEntries {H : Type} : List (Lit × DataW H) → Nat
  | [] => 0
  | x :: r => uptoBulkEntry x + uptoBulkEntries r
def uptoBulkEntry {H : Type} : Lit × DataW H → Nat
  | (.string bytes, d) => bytes.length + uptoBulk d + 1
  | (_, d) => uptoBulk d + 1
 end
def uptoSmall : (H : Type) → List (DataW H) → Bool := fun _ ds => decide (uptoBulkAll ds ≤ 1048576)
def OpenSpec.upto (s : _root_.Go.ChangeSpec) : _root_.Go.OpenSpec := { _root_.Go.OpenSpec.ofChange s with cond := some uptoSmall }

/-- 'acmetop.TopTurnsFit', WHERE WHAT IT READS IS OF BULK AT MOST 1048576: true; the input reads as it did. -/
def topTurnsFitUptoRow : OpenClaim := { program := "ytfjoinchnnabiaa", sum := "d9f8720391436b487233391cc3d989f81cb8e3dc3ff3b5c2fcf9fe2082fb748a", func := "acme/acmetop.TopTurnsFit", spec := "topTurnsFit", unfollowed := true, recurses := true, plainKeys := false, apart := false, narrowed := true }
def TopTurnsFitUptoSaid : Prop := topTurnsFitUptoRow.holds Try.pinned (OpenSpec.upto topTurnsFitSpec)

/-- 'acmetop.TopPlatedGauge', WHERE WHAT IT READS IS OF BULK AT MOST 1048576: true; the input reads as it did. -/
def topPlatedGaugeUptoRow : OpenClaim := { program := "ytfjoinchnnabiaa", sum := "d9f8720391436b487233391cc3d989f81cb8e3dc3ff3b5c2fcf9fe2082fb748a", func := "acme/acmetop.TopPlatedGauge", spec := "topPlatedGauge", unfollowed := true, recurses := true, plainKeys := false, apart := false, narrowed := true }
def TopPlatedGaugeUptoSaid : Prop := topPlatedGaugeUptoRow.holds Try.pinned (OpenSpec.upto topPlatedGaugeSpec)

/-- 'acmetop.TopGaugeSwap', WHERE WHAT IT READS IS OF BULK AT MOST 1048576: true; the input reads as it did. -/
def topGaugeSwapUptoRow : OpenClaim := { program := "ytfjoinchnnabiaa", sum := "d9f8720391436b487233391cc3d989f81cb8e3dc3ff3b5c2fcf9fe2082fb748a", func := "acme/acmetop.TopGaugeSwap", spec := "topGaugeSwap", unfollowed := true, recurses := true, plainKeys := false, apart := false, narrowed := true }
def TopGaugeSwapUptoSaid : Prop := topGaugeSwapUptoRow.holds Try.pinned (OpenSpec.upto topGaugeSwapSpec)

/-- 'acmetop.TopNutTravels', WHERE WHAT IT READS IS OF BULK AT MOST 1048576: true; the input reads as it did. -/
def topNutTravelsUptoRow : OpenClaim := { program := "ytfjoinchnnabiaa", sum := "d9f8720391436b487233391cc3d989f81cb8e3dc3ff3b5c2fcf9fe2082fb748a", func := "acme/acmetop.TopNutTravels", spec := "topNutTravels", unfollowed := true, recurses := true, plainKeys := false, apart := false, narrowed := true }
def TopNutTravelsUptoSaid : Prop := topNutTravelsUptoRow.holds Try.pinned (OpenSpec.upto topNutTravelsSpec)

/-- 'acmetop.TopTaperGauge', WHERE WHAT IT READS IS OF BULK AT MOST 1048576: true; the input reads as it did. -/
def topTaperGaugeUptoRow : OpenClaim := { program := "ytfjoinchnnabiaa", sum := "d9f8720391436b487233391cc3d989f81cb8e3dc3ff3b5c2fcf9fe2082fb748a", func := "acme/acmetop.TopTaperGauge", spec := "topTaperGauge", unfollowed := true, recurses := true, plainKeys := false, apart := false, narrowed := true }
def TopTaperGaugeUptoSaid : Prop := topTaperGaugeUptoRow.holds Try.pinned (OpenSpec.upto topTaperGaugeSpec)

/-- 'acmetop.TopLeadTurns', WHERE WHAT IT READS IS OF BULK AT MOST 1048576: true; the input reads as it did. -/
def topLeadTurnsUptoRow : OpenClaim := { program := "ytfjoinchnnabiaa", sum := "d9f8720391436b487233391cc3d989f81cb8e3dc3ff3b5c2fcf9fe2082fb748a", func := "acme/acmetop.TopLeadTurns", spec := "topLeadTurns", unfollowed := true, recurses := true, plainKeys := false, apart := false, narrowed := true }
def TopLeadTurnsUptoSaid : Prop := topLeadTurnsUptoRow.holds Try.pinned (OpenSpec.upto topLeadTurnsSpec)

/-- 'acmetop.TopDieZone', WHERE WHAT IT READS IS OF BULK AT MOST 1048576: true; the input reads as it did. -/
def topDieZoneUptoRow : OpenClaim := { program := "ytfjoinchnnabiaa", sum := "d9f8720391436b487233391cc3d989f81cb8e3dc3ff3b5c2fcf9fe2082fb748a", func := "acme/acmetop.TopDieZone", spec := "topDieZone", unfollowed := true, recurses := true, plainKeys := false, apart := false, narrowed := true }
def TopDieZoneUptoSaid : Prop := topDieZoneUptoRow.holds Try.pinned (OpenSpec.upto topDieZoneSpec)

/-- 'acmetop.TopZoneFit', WHERE WHAT IT READS IS OF BULK AT MOST 1048576: true; the input reads as it did. -/
def topZoneFitUptoRow : OpenClaim := { program := "ytfjoinchnnabiaa", sum := "d9f8720391436b487233391cc3d989f81cb8e3dc3ff3b5c2fcf9fe2082fb748a", func := "acme/acmetop.TopZoneFit", spec := "topZoneFit", unfollowed := true, recurses := true, plainKeys := false, apart := false, narrowed := true }
def TopZoneFitUptoSaid : Prop := topZoneFitUptoRow.holds Try.pinned (OpenSpec.upto topZoneFitSpec)

/-- 'acmetop.TopDieFit', WHERE WHAT IT READS IS OF BULK AT MOST 1048576: true; the input reads as it did. -/
def topDieFitUptoRow : OpenClaim := { program := "ytfjoinchnnabiaa", sum := "d9f8720391436b487233391cc3d989f81cb8e3dc3ff3b5c2fcf9fe2082fb748a", func := "acme/acmetop.TopDieFit", spec := "topDieFit", unfollowed := true, recurses := true, plainKeys := false, apart := false, narrowed := true }
def TopDieFitUptoSaid : Prop := topDieFitUptoRow.holds Try.pinned (OpenSpec.upto topDieFitSpec)

/-- 'acmetop.TopCutScrew', WHERE WHAT IT READS IS OF BULK AT MOST 1048576: true; the input reads as it did. -/
def topCutScrewUptoRow : OpenClaim := { program := "ytfjoinchnnabiaa", sum := "d9f8720391436b487233391cc3d989f81cb8e3dc3ff3b5c2fcf9fe2082fb748a", func := "acme/acmetop.TopCutScrew", spec := "topCutScrew", unfollowed := true, recurses := true, plainKeys := false, apart := false, narrowed := true }
def TopCutScrewUptoSaid : Prop := topCutScrewUptoRow.holds Try.pinned (OpenSpec.upto topCutScrewSpec)

/-- 'acmetop.TopDieGauge', WHERE WHAT IT READS IS OF BULK AT MOST 1048576: true; the input reads as it did. -/
def topDieGaugeUptoRow : OpenClaim := { program := "ytfjoinchnnabiaa", sum := "d9f8720391436b487233391cc3d989f81cb8e3dc3ff3b5c2fcf9fe2082fb748a", func := "acme/acmetop.TopDieGauge", spec := "topDieGauge", unfollowed := true, recurses := true, plainKeys := false, apart := false, narrowed := true }
def TopDieGaugeUptoSaid : Prop := topDieGaugeUptoRow.holds Try.pinned (OpenSpec.upto topDieGaugeSpec)

/-- 'acmetop.TopCutZone', WHERE WHAT IT READS IS OF BULK AT MOST 1048576: true; the input reads as it did. -/
def topCutZoneUptoRow : OpenClaim := { program := "ytfjoinchnnabiaa", sum := "d9f8720391436b487233391cc3d989f81cb8e3dc3ff3b5c2fcf9fe2082fb748a", func := "acme/acmetop.TopCutZone", spec := "topCutZone", unfollowed := true, recurses := true, plainKeys := false, apart := false, narrowed := true }
def TopCutZoneUptoSaid : Prop := topCutZoneUptoRow.holds Try.pinned (OpenSpec.upto topCutZoneSpec)

/-- 'acmetop.TopZoneGauge', WHERE WHAT IT READS IS OF BULK AT MOST 1048576: true; the input reads as it did. -/
def topZoneGaugeUptoRow : OpenClaim := { program := "ytfjoinchnnabiaa", sum := "d9f8720391436b487233391cc3d989f81cb8e3dc3ff3b5c2fcf9fe2082fb748a", func := "acme/acmetop.TopZoneGauge", spec := "topZoneGauge", unfollowed := true, recurses := true, plainKeys := false, apart := false, narrowed := true }
def TopZoneGaugeUptoSaid : Prop := topZoneGaugeUptoRow.holds Try.pinned (OpenSpec.upto topZoneGaugeSpec)

/-- 'acmetop.TopRingScrews', WHERE WHAT IT READS IS OF BULK AT MOST 1048576: true; the input reads as it did. -/
def topRingScrewsUptoRow : OpenClaim := { program := "ytfjoinchnnabiaa", sum := "d9f8720391436b487233391cc3d989f81cb8e3dc3ff3b5c2fcf9fe2082fb748a", func := "acme/acmetop.TopRingScrews", spec := "topRingScrews", unfollowed := true, recurses := true, plainKeys := false, apart := false, narrowed := true }
def TopRingScrewsUptoSaid : Prop := topRingScrewsUptoRow.holds Try.pinned (OpenSpec.upto topRingScrewsSpec)

/-- 'acmetop.TopZoneWire', WHERE WHAT IT READS IS OF BULK AT MOST 1048576: true; the input reads as it did. -/
def topZoneWireUptoRow : OpenClaim := { program := "ytfjoinchnnabiaa", sum := "d9f8720391436b487233391cc3d989f81cb8e3dc3ff3b5c2fcf9fe2082fb748a", func := "acme/acmetop.TopZoneWire", spec := "topZoneWire", unfollowed := true, recurses := true, plainKeys := false, apart := false, narrowed := true }
def TopZoneWireUptoSaid : Prop := topZoneWireUptoRow.holds Try.pinned (OpenSpec.upto topZoneWireSpec)

end Rows
end Go.Proofs.Ytfjoinchnnabiaa
