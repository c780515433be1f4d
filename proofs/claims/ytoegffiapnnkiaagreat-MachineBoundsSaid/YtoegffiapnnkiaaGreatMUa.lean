/- Chapter 20: the functions that the machine calls. No condition but those that each theorem names. -/
import Derived.Test.YtoegffiapnnkiaaGreatMU
import Derived.Test.YtoegffiapnnkiaaGreatMJ
import Derived.Test.YtoegffiapnnkiaaGreatMD
namespace Go.Proofs.YtoegffiapnnkiaaGreat.Abs
open Go
set_option linter.unusedVariables false
set_option linter.unusedSimpArgs false
set_option maxRecDepth 100000
set_option maxHeartbeats 4000000
theorem ask20:AskG G20:=⟨rfl,rfl,rfl,rfl,rfl,rfl,rfl,rfl,rfl⟩
theorem stk20:StkG G20:=⟨rfl,rfl,rfl⟩
theorem num20:NumG G20:=⟨rfl,rfl,rfl,rfl,rfl,rfl,rfl,rfl,rfl,rfl,rfl,rfl,rfl,rfl,rfl,rfl,rfl,rfl,rfl⟩
theorem opr20:OprG G20:=⟨num20,rfl,rfl,rfl,rfl,rfl,rfl,rfl,rfl,rfl,rfl,rfl,rfl⟩
end Go.Proofs.YtoegffiapnnkiaaGreat.Abs
