/-
  No cell of these rows narrows 'for every input' (looked for: loops, veiled, ifaces, maps, wideKeys, modest, calm, conditions, laid).
  DERIVED. THE GIVEN ROWS OF THIS SEAT. 9 by the template 'for every input the law returns true; each argument reads behind the call as it read before'; 0 by the template 'total and deterministic' (their statements: YtoegffiapnnkiaaGreatTotals.lean).
  GIVEN WITH THE SEED: the statements are not yours to turn. If you find one false, say at which input.
  Laid BY PROGRAM, IN A SANDBOX (cutbox-rows.mjs): the forced cells as the released guide's own fill.sh prints them over the translation a17d463ade890c9c… (all of the seat's roots in one cut). By AI agents, Wed Nov 11 2026. No macro, syntax, notation, axiom, sorry.
-/
import Derived.Test.YtoegffiapnnkiaaGreatChecked
import GoSem.Claim
import GoSem.ClaimJoined
import GoSem.ClaimMapViews
import Derived.JoinedTies
import Derived.KernelRfl
namespace Go.Proofs.YtoegffiapnnkiaaGreat
/- THE CELL 'sum', in the pinned program and in every row, IS THE sha256 OF THE DUMP (.gsa) THAT YtoegffiapnnkiaaGreatProg.lean LOADS. Nothing in Lean hashes anything: it is a label: what it is worth is what the hold of that sum in a sandbox is worth. -/
noncomputable def Tryz.pinned : Pinned := { name := "ytoegffiapnnkiaagreat", sum := "a17d463ade890c9c48e58ab6066a93647a23abe62726cadbe208da8c8becfadf", checked := Tryz.checked }
namespace Rows
def none {H : Type} : Left H := { results := [], args := [] }

/-- 'tripwirelaw20.MachineStarts': WHATEVER THE INPUT: true; the input reads as it did. -/
def machineStartsSpec : ChangeSpec := { name := "machineStarts", fn := fun _ => fun
  | [d] => { results := [.lit (.bool true)], args := [d] }
  | _ => none }
def machineStartsRow : OpenClaim := { program := "ytoegffiapnnkiaagreat", sum := "a17d463ade890c9c48e58ab6066a93647a23abe62726cadbe208da8c8becfadf", func := "tripwire/tripwirelaw20.MachineStarts", spec := "machineStarts", unfollowed := true, recurses := true, plainKeys := false, apart := false }
def MachineStartsSaid : Prop := machineStartsRow.holds Tryz.pinned (OpenSpec.ofChange machineStartsSpec)

/-- ITS FALSE NEIGHBOUR: 'it returns false'. Refute it at one input. -/
def machineStartsWrong : ChangeSpec := { name := "machineStarts", fn := fun _ => fun
  | [d] => { results := [.lit (.bool false)], args := [d] }
  | _ => none }
def MachineStartsWrongFalsely : Prop := machineStartsRow.holds Tryz.pinned (OpenSpec.ofChange machineStartsWrong)

/-- 'tripwirelaw20.MachineValues': WHATEVER THE INPUT: true; the input reads as it did. -/
def machineValuesSpec : ChangeSpec := { name := "machineValues", fn := fun _ => fun
  | [d1, d2, d3, d4] => { results := [.lit (.bool true)], args := [d1, d2, d3, d4] }
  | _ => none }
def machineValuesRow : OpenClaim := { program := "ytoegffiapnnkiaagreat", sum := "a17d463ade890c9c48e58ab6066a93647a23abe62726cadbe208da8c8becfadf", func := "tripwire/tripwirelaw20.MachineValues", spec := "machineValues", unfollowed := true, recurses := true, plainKeys := false, apart := false }
def MachineValuesSaid : Prop := machineValuesRow.holds Tryz.pinned (OpenSpec.ofChange machineValuesSpec)

/-- ITS FALSE NEIGHBOUR: 'it returns false'. Refute it at one input. -/
def machineValuesWrong : ChangeSpec := { name := "machineValues", fn := fun _ => fun
  | [d1, d2, d3, d4] => { results := [.lit (.bool false)], args := [d1, d2, d3, d4] }
  | _ => none }
def MachineValuesWrongFalsely : Prop := machineValuesRow.holds Tryz.pinned (OpenSpec.ofChange machineValuesWrong)

/-- 'tripwirelaw20.MachineTurns': WHATEVER THE INPUT: true; the input reads as it did. -/
def machineTurnsSpec : ChangeSpec := { name := "machineTurns", fn := fun _ => fun
  | [d1, d2, d3, d4] => { results := [.lit (.bool true)], args := [d1, d2, d3, d4] }
  | _ => none }
def machineTurnsRow : OpenClaim := { program := "ytoegffiapnnkiaagreat", sum := "a17d463ade890c9c48e58ab6066a93647a23abe62726cadbe208da8c8becfadf", func := "tripwire/tripwirelaw20.MachineTurns", spec := "machineTurns", unfollowed := true, recurses := true, plainKeys := false, apart := false }
def MachineTurnsSaid : Prop := machineTurnsRow.holds Tryz.pinned (OpenSpec.ofChange machineTurnsSpec)

/-- ITS FALSE NEIGHBOUR: 'it returns false'. Refute it at one input. -/
def machineTurnsWrong : ChangeSpec := { name := "machineTurns", fn := fun _ => fun
  | [d1, d2, d3, d4] => { results := [.lit (.bool false)], args := [d1, d2, d3, d4] }
  | _ => none }
def MachineTurnsWrongFalsely : Prop := machineTurnsRow.holds Tryz.pinned (OpenSpec.ofChange machineTurnsWrong)

/-- 'tripwirelaw20.MachineBounds': WHATEVER THE INPUT: true; the input reads as it did. -/
def machineBoundsSpec : ChangeSpec := { name := "machineBounds", fn := fun _ => fun
  | [d1, d2, d3] => { results := [.lit (.bool true)], args := [d1, d2, d3] }
  | _ => none }
def machineBoundsRow : OpenClaim := { program := "ytoegffiapnnkiaagreat", sum := "a17d463ade890c9c48e58ab6066a93647a23abe62726cadbe208da8c8becfadf", func := "tripwire/tripwirelaw20.MachineBounds", spec := "machineBounds", unfollowed := true, recurses := true, plainKeys := false, apart := false }
def MachineBoundsSaid : Prop := machineBoundsRow.holds Tryz.pinned (OpenSpec.ofChange machineBoundsSpec)

/-- ITS FALSE NEIGHBOUR: 'it returns false'. Refute it at one input. -/
def machineBoundsWrong : ChangeSpec := { name := "machineBounds", fn := fun _ => fun
  | [d1, d2, d3] => { results := [.lit (.bool false)], args := [d1, d2, d3] }
  | _ => none }
def MachineBoundsWrongFalsely : Prop := machineBoundsRow.holds Tryz.pinned (OpenSpec.ofChange machineBoundsWrong)

/-- 'tripwirelaw21.EvalNews': WHATEVER THE INPUT: true; the input reads as it did. -/
def evalNewsSpec : ChangeSpec := { name := "evalNews", fn := fun _ => fun
  | [d1, d2] => { results := [.lit (.bool true)], args := [d1, d2] }
  | _ => none }
def evalNewsRow : OpenClaim := { program := "ytoegffiapnnkiaagreat", sum := "a17d463ade890c9c48e58ab6066a93647a23abe62726cadbe208da8c8becfadf", func := "tripwire/tripwirelaw21.EvalNews", spec := "evalNews", unfollowed := true, recurses := true, plainKeys := false, apart := false }
def EvalNewsSaid : Prop := evalNewsRow.holds Tryz.pinned (OpenSpec.ofChange evalNewsSpec)

/-- ITS FALSE NEIGHBOUR: 'it returns false'. Refute it at one input. -/
def evalNewsWrong : ChangeSpec := { name := "evalNews", fn := fun _ => fun
  | [d1, d2] => { results := [.lit (.bool false)], args := [d1, d2] }
  | _ => none }
def EvalNewsWrongFalsely : Prop := evalNewsRow.holds Tryz.pinned (OpenSpec.ofChange evalNewsWrong)

/-- 'tripwirelaw21.EvalSplit': WHATEVER THE INPUT: true; the input reads as it did. -/
def evalSplitSpec : ChangeSpec := { name := "evalSplit", fn := fun _ => fun
  | [d1, d2, d3, d4, d5] => { results := [.lit (.bool true)], args := [d1, d2, d3, d4, d5] }
  | _ => none }
def evalSplitRow : OpenClaim := { program := "ytoegffiapnnkiaagreat", sum := "a17d463ade890c9c48e58ab6066a93647a23abe62726cadbe208da8c8becfadf", func := "tripwire/tripwirelaw21.EvalSplit", spec := "evalSplit", unfollowed := true, recurses := true, plainKeys := false, apart := false }
def EvalSplitSaid : Prop := evalSplitRow.holds Tryz.pinned (OpenSpec.ofChange evalSplitSpec)

/-- ITS FALSE NEIGHBOUR: 'it returns false'. Refute it at one input. -/
def evalSplitWrong : ChangeSpec := { name := "evalSplit", fn := fun _ => fun
  | [d1, d2, d3, d4, d5] => { results := [.lit (.bool false)], args := [d1, d2, d3, d4, d5] }
  | _ => none }
def EvalSplitWrongFalsely : Prop := evalSplitRow.holds Tryz.pinned (OpenSpec.ofChange evalSplitWrong)

/-- 'tripwirelaw21.EvalScripts': WHATEVER THE INPUT: true; the input reads as it did. -/
def evalScriptsSpec : ChangeSpec := { name := "evalScripts", fn := fun _ => fun
  | [d1, d2, d3] => { results := [.lit (.bool true)], args := [d1, d2, d3] }
  | _ => none }
def evalScriptsRow : OpenClaim := { program := "ytoegffiapnnkiaagreat", sum := "a17d463ade890c9c48e58ab6066a93647a23abe62726cadbe208da8c8becfadf", func := "tripwire/tripwirelaw21.EvalScripts", spec := "evalScripts", unfollowed := true, recurses := true, plainKeys := false, apart := false }
def EvalScriptsSaid : Prop := evalScriptsRow.holds Tryz.pinned (OpenSpec.ofChange evalScriptsSpec)

/-- ITS FALSE NEIGHBOUR: 'it returns false'. Refute it at one input. -/
def evalScriptsWrong : ChangeSpec := { name := "evalScripts", fn := fun _ => fun
  | [d1, d2, d3] => { results := [.lit (.bool false)], args := [d1, d2, d3] }
  | _ => none }
def EvalScriptsWrongFalsely : Prop := evalScriptsRow.holds Tryz.pinned (OpenSpec.ofChange evalScriptsWrong)

/-- 'tripwirelaw21.EvalAnew': WHATEVER THE INPUT: true; the input reads as it did. -/
def evalAnewSpec : ChangeSpec := { name := "evalAnew", fn := fun _ => fun
  | [d1, d2, d3, d4] => { results := [.lit (.bool true)], args := [d1, d2, d3, d4] }
  | _ => none }
def evalAnewRow : OpenClaim := { program := "ytoegffiapnnkiaagreat", sum := "a17d463ade890c9c48e58ab6066a93647a23abe62726cadbe208da8c8becfadf", func := "tripwire/tripwirelaw21.EvalAnew", spec := "evalAnew", unfollowed := true, recurses := true, plainKeys := false, apart := false }
def EvalAnewSaid : Prop := evalAnewRow.holds Tryz.pinned (OpenSpec.ofChange evalAnewSpec)

/-- ITS FALSE NEIGHBOUR: 'it returns false'. Refute it at one input. -/
def evalAnewWrong : ChangeSpec := { name := "evalAnew", fn := fun _ => fun
  | [d1, d2, d3, d4] => { results := [.lit (.bool false)], args := [d1, d2, d3, d4] }
  | _ => none }
def EvalAnewWrongFalsely : Prop := evalAnewRow.holds Tryz.pinned (OpenSpec.ofChange evalAnewWrong)

/-- 'tripwirelaw21.EvalAny': WHATEVER THE INPUT: true; the input reads as it did. -/
def evalAnySpec : ChangeSpec := { name := "evalAny", fn := fun _ => fun
  | [d1, d2, d3, d4] => { results := [.lit (.bool true)], args := [d1, d2, d3, d4] }
  | _ => none }
def evalAnyRow : OpenClaim := { program := "ytoegffiapnnkiaagreat", sum := "a17d463ade890c9c48e58ab6066a93647a23abe62726cadbe208da8c8becfadf", func := "tripwire/tripwirelaw21.EvalAny", spec := "evalAny", unfollowed := true, recurses := true, plainKeys := false, apart := false }
def EvalAnySaid : Prop := evalAnyRow.holds Tryz.pinned (OpenSpec.ofChange evalAnySpec)

/-- ITS FALSE NEIGHBOUR: 'it returns false'. Refute it at one input. -/
def evalAnyWrong : ChangeSpec := { name := "evalAny", fn := fun _ => fun
  | [d1, d2, d3, d4] => { results := [.lit (.bool false)], args := [d1, d2, d3, d4] }
  | _ => none }
def EvalAnyWrongFalsely : Prop := evalAnyRow.holds Tryz.pinned (OpenSpec.ofChange evalAnyWrong)

/- THE SECOND FORM. 'bulk': how many values and letters a reading holds, each counted each time it is reached (what is shared counts as often as it is met; a slice's spare places count too). A statement '..UptoSaid' is the law's where the arguments, and the package variables that the reading takes, are together of bulk at most 1048576: NARROWER than '..Said'. Prove '..Said' where nothing that the law and all that it calls make is longer than what came in: it says more and counts as full. Else prove '..UptoSaid'. A law counts once. -/
mutual
def uptoBulk {H : Type} : DataW H → Nat
  | .lit (.string bytes) => bytes.length + 1
  | .lit _ => 1
  | .nil => 1
  | .ptr d => uptoBulk d + 1
  | .slice elems spare => uptoBulkAll elems + uptoBulkAll spare + 1
  | .agg parts => uptoBulkAll parts + 1
  | .iface _ d => uptoBulk d + 1
  | .map entries => uptoBulkEntries entries + 1
  | .held _ => 1
def uptoBulkAll {H : Type} : List (DataW H) → Nat
  | [] => 0
  | d :: r => uptoBulk d + uptoBulkAll r
def uptoBulkEntries {H : Type} : List (Lit × DataW H) → Nat
  | [] => 0
  | x :: r => uptoBulkEntry x + uptoBulkEntries r
def uptoBulkEntry {H : Type} : Lit × DataW H → Nat
  | (.string bytes, d) => bytes.length + uptoBulk d + 1
  | (_, d) => uptoBulk d + 1
 end
def uptoSmall : (H : Type) → List (DataW H) → Bool := fun _ ds => decide (uptoBulkAll ds ≤ 1048576)
def OpenSpec.upto (s : _root_.Go.ChangeSpec) : _root_.Go.OpenSpec := { _root_.Go.OpenSpec.ofChange s with cond := some uptoSmall }

/-- 'tripwirelaw20.MachineStarts', WHERE WHAT IT READS IS OF BULK AT MOST 1048576: true; the input reads as it did. -/
def machineStartsUptoRow : OpenClaim := { program := "ytoegffiapnnkiaagreat", sum := "a17d463ade890c9c48e58ab6066a93647a23abe62726cadbe208da8c8becfadf", func := "tripwire/tripwirelaw20.MachineStarts", spec := "machineStarts", unfollowed := true, recurses := true, plainKeys := false, apart := false, narrowed := true }
def MachineStartsUptoSaid : Prop := machineStartsUptoRow.holds Tryz.pinned (OpenSpec.upto machineStartsSpec)

/-- 'tripwirelaw20.MachineValues', WHERE WHAT IT READS IS OF BULK AT MOST 1048576: true; the input reads as it did. -/
def machineValuesUptoRow : OpenClaim := { program := "ytoegffiapnnkiaagreat", sum := "a17d463ade890c9c48e58ab6066a93647a23abe62726cadbe208da8c8becfadf", func := "tripwire/tripwirelaw20.MachineValues", spec := "machineValues", unfollowed := true, recurses := true, plainKeys := false, apart := false, narrowed := true }
def MachineValuesUptoSaid : Prop := machineValuesUptoRow.holds Tryz.pinned (OpenSpec.upto machineValuesSpec)

/-- 'tripwirelaw20.MachineTurns', WHERE WHAT IT READS IS OF BULK AT MOST 1048576: true; the input reads as it did. -/
def machineTurnsUptoRow : OpenClaim := { program := "ytoegffiapnnkiaagreat", sum := "a17d463ade890c9c48e58ab6066a93647a23abe62726cadbe208da8c8becfadf", func := "tripwire/tripwirelaw20.MachineTurns", spec := "machineTurns", unfollowed := true, recurses := true, plainKeys := false, apart := false, narrowed := true }
def MachineTurnsUptoSaid : Prop := machineTurnsUptoRow.holds Tryz.pinned (OpenSpec.upto machineTurnsSpec)

/-- 'tripwirelaw20.MachineBounds', WHERE WHAT IT READS IS OF BULK AT MOST 1048576: true; the input reads as it did. -/
def machineBoundsUptoRow : OpenClaim := { program := "ytoegffiapnnkiaagreat", sum := "a17d463ade890c9c48e58ab6066a93647a23abe62726cadbe208da8c8becfadf", func := "tripwire/tripwirelaw20.MachineBounds", spec := "machineBounds", unfollowed := true, recurses := true, plainKeys := false, apart := false, narrowed := true }
def MachineBoundsUptoSaid : Prop := machineBoundsUptoRow.holds Tryz.pinned (OpenSpec.upto machineBoundsSpec)

/-- 'tripwirelaw21.EvalNews', WHERE WHAT IT READS IS OF BULK AT MOST 1048576: true; the input reads as it did. -/
def evalNewsUptoRow : OpenClaim := { program := "ytoegffiapnnkiaagreat", sum := "a17d463ade890c9c48e58ab6066a93647a23abe62726cadbe208da8c8becfadf", func := "tripwire/tripwirelaw21.EvalNews", spec := "evalNews", unfollowed := true, recurses := true, plainKeys := false, apart := false, narrowed := true }
def EvalNewsUptoSaid : Prop := evalNewsUptoRow.holds Tryz.pinned (OpenSpec.upto evalNewsSpec)

/-- 'tripwirelaw21.EvalSplit', WHERE WHAT IT READS IS OF BULK AT MOST 1048576: true; the input reads as it did. -/
def evalSplitUptoRow : OpenClaim := { program := "ytoegffiapnnkiaagreat", sum := "a17d463ade890c9c48e58ab6066a93647a23abe62726cadbe208da8c8becfadf", func := "tripwire/tripwirelaw21.EvalSplit", spec := "evalSplit", unfollowed := true, recurses := true, plainKeys := false, apart := false, narrowed := true }
def EvalSplitUptoSaid : Prop := evalSplitUptoRow.holds Tryz.pinned (OpenSpec.upto evalSplitSpec)

/-- 'tripwirelaw21.EvalScripts', WHERE WHAT IT READS IS OF BULK AT MOST 1048576: true; the input reads as it did. -/
def evalScriptsUptoRow : OpenClaim := { program := "ytoegffiapnnkiaagreat", sum := "a17d463ade890c9c48e58ab6066a93647a23abe62726cadbe208da8c8becfadf", func := "tripwire/tripwirelaw21.EvalScripts", spec := "evalScripts", unfollowed := true, recurses := true, plainKeys := false, apart := false, narrowed := true }
def EvalScriptsUptoSaid : Prop := evalScriptsUptoRow.holds Tryz.pinned (OpenSpec.upto evalScriptsSpec)

/-- 'tripwirelaw21.EvalAnew', WHERE WHAT IT READS IS OF BULK AT MOST 1048576: true; the input reads as it did. -/
def evalAnewUptoRow : OpenClaim := { program := "ytoegffiapnnkiaagreat", sum := "a17d463ade890c9c48e58ab6066a93647a23abe62726cadbe208da8c8becfadf", func := "tripwire/tripwirelaw21.EvalAnew", spec := "evalAnew", unfollowed := true, recurses := true, plainKeys := false, apart := false, narrowed := true }
def EvalAnewUptoSaid : Prop := evalAnewUptoRow.holds Tryz.pinned (OpenSpec.upto evalAnewSpec)

/-- 'tripwirelaw21.EvalAny', WHERE WHAT IT READS IS OF BULK AT MOST 1048576: true; the input reads as it did. -/
def evalAnyUptoRow : OpenClaim := { program := "ytoegffiapnnkiaagreat", sum := "a17d463ade890c9c48e58ab6066a93647a23abe62726cadbe208da8c8becfadf", func := "tripwire/tripwirelaw21.EvalAny", spec := "evalAny", unfollowed := true, recurses := true, plainKeys := false, apart := false, narrowed := true }
def EvalAnyUptoSaid : Prop := evalAnyUptoRow.holds Tryz.pinned (OpenSpec.upto evalAnySpec)

end Rows
end Go.Proofs.YtoegffiapnnkiaaGreat
