/- Parts of one proof. No condition but those that each theorem names. -/
import Derived.Test.YtoegffiapnnkiaaGreatPE26
namespace Go.Proofs.YtoegffiapnnkiaaGreat.Abs
open Go Go.RowKit
set_option maxRecDepth 100000
theorem awake21_runs:isTrue_ (acall Tryz.prog ⟨107,271,[srcM]⟩ 3000 32 [] ⟨.e,.z⟩)=true:=by decide +kernel
theorem awake21.calls (w:World):Calls Tryz.prog 32 #[] w fun e w'=>e=.returned (.bool true)∧Below w.heap.size w w':=true_call srcMs awake21_runs w
end Go.Proofs.YtoegffiapnnkiaaGreat.Abs
