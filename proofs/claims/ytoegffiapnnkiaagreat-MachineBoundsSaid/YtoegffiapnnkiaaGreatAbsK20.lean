/- Chapter 20: what its examples fix, by the kernel. No condition. -/
import Derived.Test.YtoegffiapnnkiaaGreatAbsM
namespace Go.Proofs.YtoegffiapnnkiaaGreat.Abs
open Go Go.RowKit
set_option maxRecDepth 100000
theorem awake20_runs:isTrue_ (acall Tryz.prog ⟨107,271,[srcM]⟩ 3000 12 [] ⟨.e,.z⟩)=true:=by decide +kernel
theorem awake20.calls (w:World):Calls Tryz.prog 12 #[] w fun e w'=>e=.returned (.bool true)∧Below w.heap.size w w':=true_call srcMs awake20_runs w
end Go.Proofs.YtoegffiapnnkiaaGreat.Abs
