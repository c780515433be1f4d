/- Go functions as Lean functions, each with a proof that the Go code comes to just its answers; a part of the proofs of the laws of the family Fixnum. No condition but those that each theorem names. Written by a program of this session (hprint.py). -/
import Derived.Test.YtcninjadeagenaaProg
import Derived.Below
import Derived.Deep.Draws
import Derived.Deep.AppendLies
import Derived.Maps.AppendAt
import Derived.OwnWalk
import Derived.Laws.BytesArg
import Derived.Laws.MakeOwn
import Derived.Laws.OwnMore
import Derived.Deep.OwnRows
import Derived.Tactics
import Derived.Lib.ConvBytes
import Derived.Laws.Slices
import Derived.WalkKit
import Derived.KernelRfl
import Derived.RowKit3
import Derived.Deep.LoopGhost
import Derived.Deep.QuietTactic
import Derived.BigQuiet
import Derived.WideLaws
import Derived.Deep.DeepCutAuto
import Derived.Deep.CutBlock
import Derived.Deep.RegionHeld3
import Derived.Laws.Rows
import Derived.Lib.AppendStr
import Derived.ArgAppend
import Derived.Laws.IdiomCopy
import Derived.OrdersHeld
import Derived.Laws.BitsLemmas
import Derived.RowKit
import Derived.Test.YtcninjadeagenaaOwn
import Derived.Laws.Externs
import Derived.Lib.BitFns
import Derived.Lib.Small
import Derived.Lib.Strings
import Derived.Lib.Slices
import Derived.Test.YtcninjadeagenaaWWords
import Derived.Test.YtcninjadeagenaaWLast
import Derived.Test.YtcninjadeagenaaWTab
import Derived.Test.YtcninjadeagenaaWFour
import Derived.Test.YtcninjadeagenaaWQPut
import Derived.Test.YtcninjadeagenaaWApart
import Derived.Test.YtcninjadeagenaaWArr
import Derived.Test.YtcninjadeagenaaWZeros
import Derived.Test.YtcninjadeagenaaWFoot
import Derived.Test.YtcninjadeagenaaWKept
import Derived.Test.YtcninjadeagenaaWShare
import Derived.Test.YtcninjadeagenaaWN
import Derived.Test.YtcninjadeagenaaWFootNe
import Derived.Test.YtcninjadeagenaaWAt
import Derived.Test.YtcninjadeagenaaWEqStruct
import Derived.Test.YtcninjadeagenaaWRepsOne
import Derived.Test.YtcninjadeagenaaWInv
import Derived.Test.YtcninjadeagenaaWInvWords
import Derived.Test.YtcninjadeagenaaWGuard
import Derived.Test.YtcninjadeagenaaWNEv
import Derived.Test.YtcninjadeagenaaWMore
namespace Go.Proofs.Ytcninjadeagenaa.HFixnum
open Go.RowKit Go.Proofs.YtcninjadeagenaaW.PrintWords Go.Proofs.YtcninjadeagenaaW.PrintLast Go.Proofs.YtcninjadeagenaaW.PrintMore
attribute [local go_sem] max2_int min2_int max_two min_two max_three min_three max_four min_four   -- for this text's walks alone
set_option linter.unusedVariables false
set_option linter.unusedSimpArgs false



def errW : Option Int → Value
  | none => .nilIface
  | some c => .iface 0 (.int .i64 c)
theorem errW_none : errW none = .nilIface := rfl
theorem errW_some (c : Int) : errW (some c) = .iface 0 (.int .i64 c) := rfl

theorem info2 : (Try.prog.info? 2).map (fun i => (i.zero, i.size, i.bytes)) = some (some (.int .i64 0), 1, 8) := by kernel_rfl
-- the values' own types

end Go.Proofs.Ytcninjadeagenaa.HFixnum
