/-
  No cell of these rows narrows 'for every input' (looked for: loops, veiled, ifaces, maps, wideKeys, modest, calm, conditions, laid).
  DERIVED. THE GIVEN ROWS OF THIS SEAT. 11 by the template 'for every input the law returns true; each argument reads behind the call as it read before'; 0 by the template 'total and deterministic' (their statements: YtcninjadeagenaaTotals.lean).
  GIVEN WITH THE SEED: the statements are not yours to turn. If you find one false, say at which input.
  Laid BY PROGRAM, IN A SANDBOX (cutbox-rows.mjs): the forced cells as the released guide's own fill.sh prints them over the translation c9969c6e5d75529c… (all of the seat's roots in one cut). By AI agents, Wed Nov 11 2026. No macro, syntax, notation, axiom, sorry.
-/
import Derived.Test.YtcninjadeagenaaChecked
import GoSem.Claim
import GoSem.ClaimJoined
import GoSem.ClaimMapViews
import Derived.JoinedTies
import Derived.KernelRfl
namespace Go.Proofs.Ytcninjadeagenaa
/- THE CELL 'sum', in the pinned program and in every row, IS THE sha256 OF THE DUMP (.gsa) THAT YtcninjadeagenaaProg.lean LOADS. Nothing in Lean hashes anything: it is a label: what it is worth is what the hold of that sum in a sandbox is worth. -/
noncomputable def Try.pinned : Pinned := { name := "ytcninjadeagenaa", sum := "c9969c6e5d75529cc5431cabce571639b0450333c47685dfdc40eb877645c207", checked := Try.checked }
namespace Rows
def none {H : Type} : Left H := { results := [], args := [] }

/-- 'tripwirelaw03.WireReads': WHATEVER THE INPUT: true; the input reads as it did. -/
def wireReadsSpec : ChangeSpec := { name := "wireReads", fn := fun _ => fun
  | [d1, d2] => { results := [.lit (.bool true)], args := [d1, d2] }
  | _ => none }
def wireReadsRow : OpenClaim := { program := "ytcninjadeagenaa", sum := "c9969c6e5d75529cc5431cabce571639b0450333c47685dfdc40eb877645c207", func := "tripwire/tripwirelaw03.WireReads", spec := "wireReads", apart := false }
def WireReadsSaid : Prop := wireReadsRow.holds Try.pinned (OpenSpec.ofChange wireReadsSpec)

/-- ITS FALSE NEIGHBOUR: 'it returns false'. Refute it at one input. -/
def wireReadsWrong : ChangeSpec := { name := "wireReads", fn := fun _ => fun
  | [d1, d2] => { results := [.lit (.bool false)], args := [d1, d2] }
  | _ => none }
def WireReadsWrongFalsely : Prop := wireReadsRow.holds Try.pinned (OpenSpec.ofChange wireReadsWrong)

/-- 'tripwirelaw03.WireBack': WHATEVER THE INPUT: true; the input reads as it did. -/
def wireBackSpec : ChangeSpec := { name := "wireBack", fn := fun _ => fun
  | [d1, d2, d3, d4, d5] => { results := [.lit (.bool true)], args := [d1, d2, d3, d4, d5] }
  | _ => none }
def wireBackRow : OpenClaim := { program := "ytcninjadeagenaa", sum := "c9969c6e5d75529cc5431cabce571639b0450333c47685dfdc40eb877645c207", func := "tripwire/tripwirelaw03.WireBack", spec := "wireBack", apart := false }
def WireBackSaid : Prop := wireBackRow.holds Try.pinned (OpenSpec.ofChange wireBackSpec)

/-- ITS FALSE NEIGHBOUR: 'it returns false'. Refute it at one input. -/
def wireBackWrong : ChangeSpec := { name := "wireBack", fn := fun _ => fun
  | [d1, d2, d3, d4, d5] => { results := [.lit (.bool false)], args := [d1, d2, d3, d4, d5] }
  | _ => none }
def WireBackWrongFalsely : Prop := wireBackRow.holds Try.pinned (OpenSpec.ofChange wireBackWrong)

/-- 'tripwirelaw03.WireOne': WHATEVER THE INPUT: true; the input reads as it did. -/
def wireOneSpec : ChangeSpec := { name := "wireOne", fn := fun _ => fun
  | [d1, d2] => { results := [.lit (.bool true)], args := [d1, d2] }
  | _ => none }
def wireOneRow : OpenClaim := { program := "ytcninjadeagenaa", sum := "c9969c6e5d75529cc5431cabce571639b0450333c47685dfdc40eb877645c207", func := "tripwire/tripwirelaw03.WireOne", spec := "wireOne", apart := false }
def WireOneSaid : Prop := wireOneRow.holds Try.pinned (OpenSpec.ofChange wireOneSpec)

/-- ITS FALSE NEIGHBOUR: 'it returns false'. Refute it at one input. -/
def wireOneWrong : ChangeSpec := { name := "wireOne", fn := fun _ => fun
  | [d1, d2] => { results := [.lit (.bool false)], args := [d1, d2] }
  | _ => none }
def WireOneWrongFalsely : Prop := wireOneRow.holds Try.pinned (OpenSpec.ofChange wireOneWrong)

/-- 'tripwirelaw03.WireHarm': WHATEVER THE INPUT: true; the input reads as it did. -/
def wireHarmSpec : ChangeSpec := { name := "wireHarm", fn := fun _ => fun
  | [d1, d2, d3] => { results := [.lit (.bool true)], args := [d1, d2, d3] }
  | _ => none }
def wireHarmRow : OpenClaim := { program := "ytcninjadeagenaa", sum := "c9969c6e5d75529cc5431cabce571639b0450333c47685dfdc40eb877645c207", func := "tripwire/tripwirelaw03.WireHarm", spec := "wireHarm", apart := false }
def WireHarmSaid : Prop := wireHarmRow.holds Try.pinned (OpenSpec.ofChange wireHarmSpec)

/-- ITS FALSE NEIGHBOUR: 'it returns false'. Refute it at one input. -/
def wireHarmWrong : ChangeSpec := { name := "wireHarm", fn := fun _ => fun
  | [d1, d2, d3] => { results := [.lit (.bool false)], args := [d1, d2, d3] }
  | _ => none }
def WireHarmWrongFalsely : Prop := wireHarmRow.holds Try.pinned (OpenSpec.ofChange wireHarmWrong)

/-- 'tripwirelaw03.WireRows': WHATEVER THE INPUT: true; the input reads as it did. -/
def wireRowsSpec : ChangeSpec := { name := "wireRows", fn := fun _ => fun
  | [d1, d2] => { results := [.lit (.bool true)], args := [d1, d2] }
  | _ => none }
def wireRowsRow : OpenClaim := { program := "ytcninjadeagenaa", sum := "c9969c6e5d75529cc5431cabce571639b0450333c47685dfdc40eb877645c207", func := "tripwire/tripwirelaw03.WireRows", spec := "wireRows", apart := false }
def WireRowsSaid : Prop := wireRowsRow.holds Try.pinned (OpenSpec.ofChange wireRowsSpec)

/-- ITS FALSE NEIGHBOUR: 'it returns false'. Refute it at one input. -/
def wireRowsWrong : ChangeSpec := { name := "wireRows", fn := fun _ => fun
  | [d1, d2] => { results := [.lit (.bool false)], args := [d1, d2] }
  | _ => none }
def WireRowsWrongFalsely : Prop := wireRowsRow.holds Try.pinned (OpenSpec.ofChange wireRowsWrong)

/-- 'tripwirelaw03.WireWrites': WHATEVER THE INPUT: true; the input reads as it did. -/
def wireWritesSpec : ChangeSpec := { name := "wireWrites", fn := fun _ => fun
  | [d1, d2, d3, d4] => { results := [.lit (.bool true)], args := [d1, d2, d3, d4] }
  | _ => none }
def wireWritesRow : OpenClaim := { program := "ytcninjadeagenaa", sum := "c9969c6e5d75529cc5431cabce571639b0450333c47685dfdc40eb877645c207", func := "tripwire/tripwirelaw03.WireWrites", spec := "wireWrites", apart := false }
def WireWritesSaid : Prop := wireWritesRow.holds Try.pinned (OpenSpec.ofChange wireWritesSpec)

/-- ITS FALSE NEIGHBOUR: 'it returns false'. Refute it at one input. -/
def wireWritesWrong : ChangeSpec := { name := "wireWrites", fn := fun _ => fun
  | [d1, d2, d3, d4] => { results := [.lit (.bool false)], args := [d1, d2, d3, d4] }
  | _ => none }
def WireWritesWrongFalsely : Prop := wireWritesRow.holds Try.pinned (OpenSpec.ofChange wireWritesWrong)

/-- 'tripwirelaw01.FixnumDoes': WHATEVER THE INPUT: true; the input reads as it did. -/
def fixnumDoesSpec : ChangeSpec := { name := "fixnumDoes", fn := fun _ => fun
  | [d1, d2, d3] => { results := [.lit (.bool true)], args := [d1, d2, d3] }
  | _ => none }
def fixnumDoesRow : OpenClaim := { program := "ytcninjadeagenaa", sum := "c9969c6e5d75529cc5431cabce571639b0450333c47685dfdc40eb877645c207", func := "tripwire/tripwirelaw01.FixnumDoes", spec := "fixnumDoes", inPlace := ["math/bits.Add64"], named := ["math/bits.divideError", "math/bits.overflowError"], apart := false }
def FixnumDoesSaid : Prop := fixnumDoesRow.holds Try.pinned (OpenSpec.ofChange fixnumDoesSpec)

/-- ITS FALSE NEIGHBOUR: 'it returns false'. Refute it at one input. -/
def fixnumDoesWrong : ChangeSpec := { name := "fixnumDoes", fn := fun _ => fun
  | [d1, d2, d3] => { results := [.lit (.bool false)], args := [d1, d2, d3] }
  | _ => none }
def FixnumDoesWrongFalsely : Prop := fixnumDoesRow.holds Try.pinned (OpenSpec.ofChange fixnumDoesWrong)

/-- 'tripwirelaw01.FixnumSums': WHATEVER THE INPUT: true; the input reads as it did. -/
def fixnumSumsSpec : ChangeSpec := { name := "fixnumSums", fn := fun _ => fun
  | [d1, d2] => { results := [.lit (.bool true)], args := [d1, d2] }
  | _ => none }
def fixnumSumsRow : OpenClaim := { program := "ytcninjadeagenaa", sum := "c9969c6e5d75529cc5431cabce571639b0450333c47685dfdc40eb877645c207", func := "tripwire/tripwirelaw01.FixnumSums", spec := "fixnumSums", inPlace := ["math/bits.Add64"], named := ["math/bits.divideError", "math/bits.overflowError"], apart := false }
def FixnumSumsSaid : Prop := fixnumSumsRow.holds Try.pinned (OpenSpec.ofChange fixnumSumsSpec)

/-- ITS FALSE NEIGHBOUR: 'it returns false'. Refute it at one input. -/
def fixnumSumsWrong : ChangeSpec := { name := "fixnumSums", fn := fun _ => fun
  | [d1, d2] => { results := [.lit (.bool false)], args := [d1, d2] }
  | _ => none }
def FixnumSumsWrongFalsely : Prop := fixnumSumsRow.holds Try.pinned (OpenSpec.ofChange fixnumSumsWrong)

/-- 'tripwirelaw01.FixnumBack': WHATEVER THE INPUT: true; the input reads as it did. -/
def fixnumBackSpec : ChangeSpec := { name := "fixnumBack", fn := fun _ => fun
  | [d1, d2] => { results := [.lit (.bool true)], args := [d1, d2] }
  | _ => none }
def fixnumBackRow : OpenClaim := { program := "ytcninjadeagenaa", sum := "c9969c6e5d75529cc5431cabce571639b0450333c47685dfdc40eb877645c207", func := "tripwire/tripwirelaw01.FixnumBack", spec := "fixnumBack", inPlace := ["math/bits.Add64"], named := ["math/bits.divideError", "math/bits.overflowError"], apart := false }
def FixnumBackSaid : Prop := fixnumBackRow.holds Try.pinned (OpenSpec.ofChange fixnumBackSpec)

/-- ITS FALSE NEIGHBOUR: 'it returns false'. Refute it at one input. -/
def fixnumBackWrong : ChangeSpec := { name := "fixnumBack", fn := fun _ => fun
  | [d1, d2] => { results := [.lit (.bool false)], args := [d1, d2] }
  | _ => none }
def FixnumBackWrongFalsely : Prop := fixnumBackRow.holds Try.pinned (OpenSpec.ofChange fixnumBackWrong)

/-- 'tripwirelaw01.FixnumOrder': WHATEVER THE INPUT: true; the input reads as it did. -/
def fixnumOrderSpec : ChangeSpec := { name := "fixnumOrder", fn := fun _ => fun
  | [d1, d2, d3] => { results := [.lit (.bool true)], args := [d1, d2, d3] }
  | _ => none }
def fixnumOrderRow : OpenClaim := { program := "ytcninjadeagenaa", sum := "c9969c6e5d75529cc5431cabce571639b0450333c47685dfdc40eb877645c207", func := "tripwire/tripwirelaw01.FixnumOrder", spec := "fixnumOrder", inPlace := ["math/bits.Add64"], named := ["math/bits.divideError", "math/bits.overflowError"], apart := false }
def FixnumOrderSaid : Prop := fixnumOrderRow.holds Try.pinned (OpenSpec.ofChange fixnumOrderSpec)

/-- ITS FALSE NEIGHBOUR: 'it returns false'. Refute it at one input. -/
def fixnumOrderWrong : ChangeSpec := { name := "fixnumOrder", fn := fun _ => fun
  | [d1, d2, d3] => { results := [.lit (.bool false)], args := [d1, d2, d3] }
  | _ => none }
def FixnumOrderWrongFalsely : Prop := fixnumOrderRow.holds Try.pinned (OpenSpec.ofChange fixnumOrderWrong)

/-- 'tripwirelaw01.FixnumParts': WHATEVER THE INPUT: true; the input reads as it did. -/
def fixnumPartsSpec : ChangeSpec := { name := "fixnumParts", fn := fun _ => fun
  | [d1, d2, d3, d4] => { results := [.lit (.bool true)], args := [d1, d2, d3, d4] }
  | _ => none }
def fixnumPartsRow : OpenClaim := { program := "ytcninjadeagenaa", sum := "c9969c6e5d75529cc5431cabce571639b0450333c47685dfdc40eb877645c207", func := "tripwire/tripwirelaw01.FixnumParts", spec := "fixnumParts", inPlace := ["math/bits.Add64"], named := ["math/bits.divideError", "math/bits.overflowError"], apart := false }
def FixnumPartsSaid : Prop := fixnumPartsRow.holds Try.pinned (OpenSpec.ofChange fixnumPartsSpec)

/-- ITS FALSE NEIGHBOUR: 'it returns false'. Refute it at one input. -/
def fixnumPartsWrong : ChangeSpec := { name := "fixnumParts", fn := fun _ => fun
  | [d1, d2, d3, d4] => { results := [.lit (.bool false)], args := [d1, d2, d3, d4] }
  | _ => none }
def FixnumPartsWrongFalsely : Prop := fixnumPartsRow.holds Try.pinned (OpenSpec.ofChange fixnumPartsWrong)

/- THE SECOND FORM. 'bulk': how many values and letters a reading holds, each counted each time it is reached (what is shared counts as often as it is met; a slice's spare places count too). A statement '..UptoSaid' is the law's where the arguments, and the package variables that the reading takes, are together of bulk at most 1048576: NARROWER than '..Said'. Prove '..Said' where nothing that the law and all that it calls make is longer than what came in: it says more and counts as full. Else prove '..UptoSaid'. A law counts once. -/
mutual
def uptoBulk {H : Type} : DataW H → Nat
  | .lit (.string bytes) => bytes.length + 1
  | .lit _ => 1
  | .nil => 1
  | .ptr d => uptoBulk d + 1
  | .slice elems spare => uptoBulkAll elems + uptoBulkAll spare + 1
  | .agg parts => uptoBulkAll parts + 1
  | .iface _ d => uptoBulk d + 1
  | .map entries => uptoBulkEntries entries + 1
  | .held _ => 1
def uptoBulkAll {H : Type} : List (DataW H) → Nat
  | [] => 0
  | d :: r => uptoBulk d + uptoBulkAll r
def uptoBulkEntries {H : Type} : List (Lit × DataW H) → Nat
  | [] => 0
  | x :: r => uptoBulkEntry x + uptoBulkEntries r
def uptoBulkEntry {H : Type} : Lit × DataW H → Nat
  | (.string bytes, d) => bytes.length + uptoBulk d + 1
  | (_, d) => uptoBulk d + 1
 end
def uptoSmall : (H : Type) → List (DataW H) → Bool := fun _ ds => decide (uptoBulkAll ds ≤ 1048576)
def OpenSpec.upto (s : _root_.Go.ChangeSpec) : _root_.Go.OpenSpec := { _root_.Go.OpenSpec.ofChange s with cond := some uptoSmall }

/-- 'tripwirelaw03.WireReads', WHERE WHAT IT READS IS OF BULK AT MOST 1048576: true; the input reads as it did. -/
def wireReadsUptoRow : OpenClaim := { program := "ytcninjadeagenaa", sum := "c9969c6e5d75529cc5431cabce571639b0450333c47685dfdc40eb877645c207", func := "tripwire/tripwirelaw03.WireReads", spec := "wireReads", apart := false, narrowed := true }
def WireReadsUptoSaid : Prop := wireReadsUptoRow.holds Try.pinned (OpenSpec.upto wireReadsSpec)

/-- 'tripwirelaw03.WireBack', WHERE WHAT IT READS IS OF BULK AT MOST 1048576: true; the input reads as it did. -/
def wireBackUptoRow : OpenClaim := { program := "ytcninjadeagenaa", sum := "c9969c6e5d75529cc5431cabce571639b0450333c47685dfdc40eb877645c207", func := "tripwire/tripwirelaw03.WireBack", spec := "wireBack", apart := false, narrowed := true }
def WireBackUptoSaid : Prop := wireBackUptoRow.holds Try.pinned (OpenSpec.upto wireBackSpec)

/-- 'tripwirelaw03.WireOne', WHERE WHAT IT READS IS OF BULK AT MOST 1048576: true; the input reads as it did. -/
def wireOneUptoRow : OpenClaim := { program := "ytcninjadeagenaa", sum := "c9969c6e5d75529cc5431cabce571639b0450333c47685dfdc40eb877645c207", func := "tripwire/tripwirelaw03.WireOne", spec := "wireOne", apart := false, narrowed := true }
def WireOneUptoSaid : Prop := wireOneUptoRow.holds Try.pinned (OpenSpec.upto wireOneSpec)

/-- 'tripwirelaw03.WireHarm', WHERE WHAT IT READS IS OF BULK AT MOST 1048576: true; the input reads as it did. -/
def wireHarmUptoRow : OpenClaim := { program := "ytcninjadeagenaa", sum := "c9969c6e5d75529cc5431cabce571639b0450333c47685dfdc40eb877645c207", func := "tripwire/tripwirelaw03.WireHarm", spec := "wireHarm", apart := false, narrowed := true }
def WireHarmUptoSaid : Prop := wireHarmUptoRow.holds Try.pinned (OpenSpec.upto wireHarmSpec)

/-- 'tripwirelaw03.WireRows', WHERE WHAT IT READS IS OF BULK AT MOST 1048576: true; the input reads as it did. -/
def wireRowsUptoRow : OpenClaim := { program := "ytcninjadeagenaa", sum := "c9969c6e5d75529cc5431cabce571639b0450333c47685dfdc40eb877645c207", func := "tripwire/tripwirelaw03.WireRows", spec := "wireRows", apart := false, narrowed := true }
def WireRowsUptoSaid : Prop := wireRowsUptoRow.holds Try.pinned (OpenSpec.upto wireRowsSpec)

/-- 'tripwirelaw03.WireWrites', WHERE WHAT IT READS IS OF BULK AT MOST 1048576: true; the input reads as it did. -/
def wireWritesUptoRow : OpenClaim := { program := "ytcninjadeagenaa", sum := "c9969c6e5d75529cc5431cabce571639b0450333c47685dfdc40eb877645c207", func := "tripwire/tripwirelaw03.WireWrites", spec := "wireWrites", apart := false, narrowed := true }
def WireWritesUptoSaid : Prop := wireWritesUptoRow.holds Try.pinned (OpenSpec.upto wireWritesSpec)

/-- 'tripwirelaw01.FixnumDoes', WHERE WHAT IT READS IS OF BULK AT MOST 1048576: true; the input reads as it did. -/
def fixnumDoesUptoRow : OpenClaim := { program := "ytcninjadeagenaa", sum := "c9969c6e5d75529cc5431cabce571639b0450333c47685dfdc40eb877645c207", func := "tripwire/tripwirelaw01.FixnumDoes", spec := "fixnumDoes", inPlace := ["math/bits.Add64"], named := ["math/bits.divideError", "math/bits.overflowError"], apart := false, narrowed := true }
def FixnumDoesUptoSaid : Prop := fixnumDoesUptoRow.holds Try.pinned (OpenSpec.upto fixnumDoesSpec)

/-- 'tripwirelaw01.FixnumSums', WHERE WHAT IT READS IS OF BULK AT MOST 1048576: true; the input reads as it did. -/
def fixnumSumsUptoRow : OpenClaim := { program := "ytcninjadeagenaa", sum := "c9969c6e5d75529cc5431cabce571639b0450333c47685dfdc40eb877645c207", func := "tripwire/tripwirelaw01.FixnumSums", spec := "fixnumSums", inPlace := ["math/bits.Add64"], named := ["math/bits.divideError", "math/bits.overflowError"], apart := false, narrowed := true }
def FixnumSumsUptoSaid : Prop := fixnumSumsUptoRow.holds Try.pinned (OpenSpec.upto fixnumSumsSpec)

/-- 'tripwirelaw01.FixnumBack', WHERE WHAT IT READS IS OF BULK AT MOST 1048576: true; the input reads as it did. -/
def fixnumBackUptoRow : OpenClaim := { program := "ytcninjadeagenaa", sum := "c9969c6e5d75529cc5431cabce571639b0450333c47685dfdc40eb877645c207", func := "tripwire/tripwirelaw01.FixnumBack", spec := "fixnumBack", inPlace := ["math/bits.Add64"], named := ["math/bits.divideError", "math/bits.overflowError"], apart := false, narrowed := true }
def FixnumBackUptoSaid : Prop := fixnumBackUptoRow.holds Try.pinned (OpenSpec.upto fixnumBackSpec)

/-- 'tripwirelaw01.FixnumOrder', WHERE WHAT IT READS IS OF BULK AT MOST 1048576: true; the input reads as it did. -/
def fixnumOrderUptoRow : OpenClaim := { program := "ytcninjadeagenaa", sum := "c9969c6e5d75529cc5431cabce571639b0450333c47685dfdc40eb877645c207", func := "tripwire/tripwirelaw01.FixnumOrder", spec := "fixnumOrder", inPlace := ["math/bits.Add64"], named := ["math/bits.divideError", "math/bits.overflowError"], apart := false, narrowed := true }
def FixnumOrderUptoSaid : Prop := fixnumOrderUptoRow.holds Try.pinned (OpenSpec.upto fixnumOrderSpec)

/-- 'tripwirelaw01.FixnumParts', WHERE WHAT IT READS IS OF BULK AT MOST 1048576: true; the input reads as it did. -/
def fixnumPartsUptoRow : OpenClaim := { program := "ytcninjadeagenaa", sum := "c9969c6e5d75529cc5431cabce571639b0450333c47685dfdc40eb877645c207", func := "tripwire/tripwirelaw01.FixnumParts", spec := "fixnumParts", inPlace := ["math/bits.Add64"], named := ["math/bits.divideError", "math/bits.overflowError"], apart := false, narrowed := true }
def FixnumPartsUptoSaid : Prop := fixnumPartsUptoRow.holds Try.pinned (OpenSpec.upto fixnumPartsSpec)

end Rows
end Go.Proofs.Ytcninjadeagenaa
