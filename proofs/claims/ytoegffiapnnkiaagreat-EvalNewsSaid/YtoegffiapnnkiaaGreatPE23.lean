/- Parts of one proof. No condition but those that each theorem names. -/
import Derived.Test.YtoegffiapnnkiaaGreatPE12
namespace Go.Proofs.YtoegffiapnnkiaaGreat.Abs
open Go
set_option linter.unusedVariables false
set_option linter.unusedSimpArgs false
set_option maxRecDepth 100000
set_option maxHeartbeats 4000000
attribute [local irreducible] W Cl Bd
variable {g:Cg} {V:K→Option (List AV)}
theorem part_field {cs l:List AV} {o n i:Nat} {v:AV} (h:partB cs o (true,n)=some (.agg l)) (hi:l[i]?=some v):partB cs (o+i) (false,1)=some v:=by
  have h:aggO (subL cs o n)=some (.agg l):=h
  show getL cs (o+i)=some v
  cases hs:subL cs o n with
  | none=>rw [hs] at h;cases h
  | some r =>
    rw [hs] at h
    have h:some (AV.agg r)=some (.agg l):=h
    injection h with h;injection h with h;subst h
    obtain ⟨h1,h2,h3⟩:=subL_eq hs
    have hin:i<r.length:=(List.getElem?_eq_some_iff.1 hi).1
    rw [getL_eq]
    rw [h1,List.getElem?_take,if_pos (by omega),List.getElem?_drop] at hi
    exact hi
end Go.Proofs.YtoegffiapnnkiaaGreat.Abs
