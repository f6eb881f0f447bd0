/-
  No cell of these rows narrows 'for every input' (looked for: loops, veiled, ifaces, maps, wideKeys, modest, calm, conditions, laid).
  DERIVED. THE GIVEN ROWS OF THIS SEAT. 3 by the template 'for every input the law returns true; each argument reads behind the call as it read before'; 0 by the template 'total and deterministic' (their statements: YtohdbgibdopinaaTotals.lean).
  GIVEN WITH THE SEED: the statements are not yours to turn. If you find one false, say at which input.
  Laid BY PROGRAM, IN A SANDBOX (cutbox-rows.mjs): the forced cells as the released guide's own fill.sh prints them over the translation f84474be6470c213… (all of the seat's roots in one cut). By AI agents, Wed Nov 11 2026. No macro, syntax, notation, axiom, sorry.
-/
import Derived.Test.YtohdbgibdopinaaChecked
import GoSem.Claim
import GoSem.ClaimJoined
import GoSem.ClaimMapViews
import Derived.JoinedTies
import Derived.KernelRfl
namespace Go.Proofs.Ytohdbgibdopinaa
/- THE CELL 'sum', in the pinned program and in every row, IS THE sha256 OF THE DUMP (.gsa) THAT YtohdbgibdopinaaProg.lean LOADS. Nothing in Lean hashes anything: it is a label: what it is worth is what the hold of that sum in a sandbox is worth. -/
noncomputable def Try.pinned : Pinned := { name := "ytohdbgibdopinaa", sum := "f84474be6470c213c59aa7f06e93cc40d4a408522ab7bad6dc6dfe8bb975cdb4", checked := Try.checked }
namespace Rows
def none {H : Type} : Left H := { results := [], args := [] }

/-- 'acmetop.TopDieZone': WHATEVER THE INPUT: true; the input reads as it did. -/
def topDieZoneSpec : ChangeSpec := { name := "topDieZone", fn := fun _ => fun
  | [d1, d2, d3] => { results := [.lit (.bool true)], args := [d1, d2, d3] }
  | _ => none }
def topDieZoneRow : OpenClaim := { program := "ytohdbgibdopinaa", sum := "f84474be6470c213c59aa7f06e93cc40d4a408522ab7bad6dc6dfe8bb975cdb4", func := "acme/acmetop.TopDieZone", spec := "topDieZone", unfollowed := true, recurses := true, apart := false }
def TopDieZoneSaid : Prop := topDieZoneRow.holds Try.pinned (OpenSpec.ofChange topDieZoneSpec)

/-- ITS FALSE NEIGHBOUR: 'it returns false'. Refute it at one input. -/
def topDieZoneWrong : ChangeSpec := { name := "topDieZone", fn := fun _ => fun
  | [d1, d2, d3] => { results := [.lit (.bool false)], args := [d1, d2, d3] }
  | _ => none }
def TopDieZoneWrongFalsely : Prop := topDieZoneRow.holds Try.pinned (OpenSpec.ofChange topDieZoneWrong)

/-- 'acmetop.TopZoneFit': WHATEVER THE INPUT: true; the input reads as it did. -/
def topZoneFitSpec : ChangeSpec := { name := "topZoneFit", fn := fun _ => fun
  | [d1, d2, d3] => { results := [.lit (.bool true)], args := [d1, d2, d3] }
  | _ => none }
def topZoneFitRow : OpenClaim := { program := "ytohdbgibdopinaa", sum := "f84474be6470c213c59aa7f06e93cc40d4a408522ab7bad6dc6dfe8bb975cdb4", func := "acme/acmetop.TopZoneFit", spec := "topZoneFit", unfollowed := true, recurses := true, apart := false }
def TopZoneFitSaid : Prop := topZoneFitRow.holds Try.pinned (OpenSpec.ofChange topZoneFitSpec)

/-- ITS FALSE NEIGHBOUR: 'it returns false'. Refute it at one input. -/
def topZoneFitWrong : ChangeSpec := { name := "topZoneFit", fn := fun _ => fun
  | [d1, d2, d3] => { results := [.lit (.bool false)], args := [d1, d2, d3] }
  | _ => none }
def TopZoneFitWrongFalsely : Prop := topZoneFitRow.holds Try.pinned (OpenSpec.ofChange topZoneFitWrong)

/-- 'acmetop.TopDieFit': WHATEVER THE INPUT: true; the input reads as it did. -/
def topDieFitSpec : ChangeSpec := { name := "topDieFit", fn := fun _ => fun
  | [d1, d2] => { results := [.lit (.bool true)], args := [d1, d2] }
  | _ => none }
def topDieFitRow : OpenClaim := { program := "ytohdbgibdopinaa", sum := "f84474be6470c213c59aa7f06e93cc40d4a408522ab7bad6dc6dfe8bb975cdb4", func := "acme/acmetop.TopDieFit", spec := "topDieFit", unfollowed := true, recurses := true, apart := false }
def TopDieFitSaid : Prop := topDieFitRow.holds Try.pinned (OpenSpec.ofChange topDieFitSpec)

/-- ITS FALSE NEIGHBOUR: 'it returns false'. Refute it at one input. -/
def topDieFitWrong : ChangeSpec := { name := "topDieFit", fn := fun _ => fun
  | [d1, d2] => { results := [.lit (.bool false)], args := [d1, d2] }
  | _ => none }
def TopDieFitWrongFalsely : Prop := topDieFitRow.holds Try.pinned (OpenSpec.ofChange topDieFitWrong)

/- THE SECOND FORM. 'bulk': how many values and letters a reading holds, each counted each time it is reached (what is shared counts as often as it is met; a slice's spare places count too). A statement '..UptoSaid' is the law's where the arguments, and the package variables that the reading takes, are together of bulk at most 1048576: NARROWER than '..Said'. Prove '..Said' where nothing that the law and all that it calls make is longer than what came in: it says more and counts as full. Else prove '..UptoSaid'. A law counts once. -/
mutual
def uptoBulk {H : Type} : DataW H → Nat
  | .lit (.string bytes) => bytes.length + 1
  | .lit _ => 1
  | .nil => 1
  | .ptr d => uptoBulk d + 1
  | .slice elems spare => uptoBulkAll elems + uptoBulkAll spare + 1
  | .agg parts => uptoBulkAll parts + 1
  | .iface _ d => uptoBulk d + 1
  | .map entries => uptoBulkEntries entries + 1
  | .held _ => 1
def uptoBulkAll {H : Type} : List (DataW H) → Nat
  | [] => 0
  | d :: r => uptoBulk d + uptoBulkAll r
def uptoBulkEntries {H : Type} : List (Lit × DataW H) → Nat
  | [] => 0
  | x :: r => uptoBulkEntry x + uptoBulkEntries r
def uptoBulkEntry {H : Type} : Lit × DataW H → Nat
  | (.string bytes, d) => bytes.length + uptoBulk d + 1
  | (_, d) => uptoBulk d + 1
 end
def uptoSmall : (H : Type) → List (DataW H) → Bool := fun _ ds => decide (uptoBulkAll ds ≤ 1048576)
def OpenSpec.upto (s : _root_.Go.ChangeSpec) : _root_.Go.OpenSpec := { _root_.Go.OpenSpec.ofChange s with cond := some uptoSmall }

/-- 'acmetop.TopDieZone', WHERE WHAT IT READS IS OF BULK AT MOST 1048576: true; the input reads as it did. -/
def topDieZoneUptoRow : OpenClaim := { program := "ytohdbgibdopinaa", sum := "f84474be6470c213c59aa7f06e93cc40d4a408522ab7bad6dc6dfe8bb975cdb4", func := "acme/acmetop.TopDieZone", spec := "topDieZone", unfollowed := true, recurses := true, apart := false, narrowed := true }
def TopDieZoneUptoSaid : Prop := topDieZoneUptoRow.holds Try.pinned (OpenSpec.upto topDieZoneSpec)

/-- 'acmetop.TopZoneFit', WHERE WHAT IT READS IS OF BULK AT MOST 1048576: true; the input reads as it did. -/
def topZoneFitUptoRow : OpenClaim := { program := "ytohdbgibdopinaa", sum := "f84474be6470c213c59aa7f06e93cc40d4a408522ab7bad6dc6dfe8bb975cdb4", func := "acme/acmetop.TopZoneFit", spec := "topZoneFit", unfollowed := true, recurses := true, apart := false, narrowed := true }
def TopZoneFitUptoSaid : Prop := topZoneFitUptoRow.holds Try.pinned (OpenSpec.upto topZoneFitSpec)

/-- 'acmetop.TopDieFit', WHERE WHAT IT READS IS OF BULK AT MOST 1048576: true; the input reads as it did. -/
def topDieFitUptoRow : OpenClaim := { program := "ytohdbgibdopinaa", sum := "f84474be6470c213c59aa7f06e93cc40d4a408522ab7bad6dc6dfe8bb975cdb4", func := "acme/acmetop.TopDieFit", spec := "topDieFit", unfollowed := true, recurses := true, apart := false, narrowed := true }
def TopDieFitUptoSaid : Prop := topDieFitUptoRow.holds Try.pinned (OpenSpec.upto topDieFitSpec)

end Rows
end Go.Proofs.Ytohdbgibdopinaa
