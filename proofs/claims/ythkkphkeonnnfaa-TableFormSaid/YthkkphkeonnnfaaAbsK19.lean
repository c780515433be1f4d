/- Chapter 19: what its examples fix, by the kernel. No condition. -/
import Derived.Test.YthkkphkeonnnfaaAbsZ
namespace Go.Proofs.Ythkkphkeonnnfaa.Abs
open Go Go.RowKit
set_option maxRecDepth 100000
theorem awake19_runs : isTrue_ (acall Try.prog ⟨25, 93, []⟩ 3000 10 [] ⟨.e, .z⟩) = true := by decide +kernel
theorem awake19.calls (w : World) : Calls Try.prog 10 #[] w fun e w' => e = .returned (.bool true) ∧ Below w.heap.size w w' := true_call (fun _ h => by cases h) awake19_runs w
end Go.Proofs.Ythkkphkeonnnfaa.Abs
