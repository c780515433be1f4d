/- Rows of numbers. No condition but those that each theorem names. -/
import Derived.Test.YtoegffiapnnkiaaGreatWS
namespace Go.Proofs.YtoegffiapnnkiaaGreat.Abs
open Go
set_option linter.unusedVariables false
set_option linter.unusedSimpArgs false
set_option maxRecDepth 100000
set_option maxHeartbeats 4000000
def iC (x:Int):List AV:=[.int .i64 x]
theorem leaf_all {α:Type} (enc:α→List AV) (h:∀a,∀v∈enc a,v.leaf=true) (l:List α):allLeaf (l.flatMap enc)=true:=by
  have key:∀L:List AV,(∀v∈L,v.leaf=true)→allLeaf L=true:=fun L=>by
    induction L with
    | nil=>intro _;rfl
    | cons v L ih =>
      intro h
      show @Bool.rec (fun _=>Bool) false (allLeaf L) v.leaf=true
      rw [h v (by simp)]
      exact ih fun u hu=>h u (by simp [hu])
  refine key _ fun v hv=>?_
  obtain ⟨a,-,ha⟩:=List.mem_flatMap.1 hv
  exact h a v ha
theorem leafI (a:Int):∀v∈iC a,v.leaf=true:=by simp [iC,AV.leaf]
attribute [local irreducible] W Cl Bd
variable {g:Cg} {V:K→Option (List AV)}
theorem srcI {Δ:Dm} {s:Sl Int} (h:s.In V false 1 (AV.int .i64)):∀F st,Mem V F Δ st→srcCells 1 s.l.length s.v st.hp=some (s.l.flatMap iC):=src_in (enc:=iC) (fun _=>rfl) (fun _=>rfl) h
end Go.Proofs.YtoegffiapnnkiaaGreat.Abs
