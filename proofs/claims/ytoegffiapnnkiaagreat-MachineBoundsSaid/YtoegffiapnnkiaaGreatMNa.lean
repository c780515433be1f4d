/- Rows and what is asked: plain. No condition but those that each theorem names. -/
import Derived.Test.YtoegffiapnnkiaaGreatMJ
import Derived.Test.YtoegffiapnnkiaaGreatMK
namespace Go.Proofs.YtoegffiapnnkiaaGreat.Abs
open Go
set_option linter.unusedVariables false
set_option linter.unusedSimpArgs false
set_option maxRecDepth 100000
set_option maxHeartbeats 4000000
theorem row_no {r:Row} (hr:r.rest) {y:Span} (h:y=r.side∨y=r.qty∨y=r.price∨y=r.value):y.no∨y∈r.spans:=by
  unfold Row.rest at hr
  unfold Row.spans
  split at hr
  · rename_i h1;rw [if_pos h1]
    split at hr
    · rename_i h2;rw [if_pos h2]
      rcases h with h|h|h|h<;>subst h<;>simp [hr]
    · rename_i h2;rw [if_neg h2]
      rcases h with h|h|h|h<;>subst h<;>simp [hr]
  · rename_i h1;rw [if_neg h1]
    split at hr
    · rename_i h2;rw [if_pos h2]
      rcases h with h|h|h|h<;>subst h<;>simp [hr]
    · rename_i h2;rw [if_neg h2]
      split at hr
      · rename_i h3;rw [if_pos h3]
        rcases h with h|h|h|h<;>subst h<;>simp [hr]
      · rcases h with h|h|h|h<;>subst h<;>simp [hr]
theorem askE_0 {t:Table} {s:Int} {n:Nat} {w:Snap} (h:askE t s n w=0):checkS t=none∧ModeOk t s n∧w.Good:=by
  unfold askE at h
  split at h
  · rename_i h1
    split at h
    · rename_i h2
      unfold snapE at h
      split at h
      · exact ⟨checkS_ne h1,h2,‹_›⟩
      · cases h
    · cases h
  · rename_i h1
    exact absurd h h1
end Go.Proofs.YtoegffiapnnkiaaGreat.Abs
