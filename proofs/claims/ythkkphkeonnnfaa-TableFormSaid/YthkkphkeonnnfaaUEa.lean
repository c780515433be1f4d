/- A table's bytes: the program's Encode, in chapter 19. No condition but those that each theorem names. -/
import Derived.Test.YthkkphkeonnnfaaUA
import Derived.Test.YthkkphkeonnnfaaTYa
import Derived.Test.YthkkphkeonnnfaaTT
import Derived.Test.YthkkphkeonnnfaaVH
namespace Go.Proofs.Ythkkphkeonnnfaa.Abs
open Go
set_option linter.unusedVariables false
set_option linter.unusedSimpArgs false
set_option maxRecDepth 100000
set_option maxHeartbeats 4000000
theorem encS_er (t : Table) : encS t.er = encS t := by
  have e : (t.states.l.map erG).flatMap (fun s => stS s.l) = t.states.l.flatMap fun s => stS s.l := by
    rw [List.flatMap_map]
    congr 1
    funext s
    show stS (s.l.map Guard.er) = stS s.l
    unfold stS
    rw [List.length_map, List.flatMap_map]
    rfl
  have e2 : t.er.states.l.length = t.states.l.length := List.length_map ..
  show putS _ ++ (_ ++ (_ ++ (_ ++ (_ ++ (_ ++ (_ ++ (nS t.er.states.l.length ++ (t.states.l.map erG).flatMap fun s => stS s.l))))))) = _
  rw [e, e2]; rfl
theorem SameT.enc {x y : Table} (h : SameT x y) : encS x = encS y := by rw [← encS_er x, ← encS_er y, h.er]
theorem encodeV_is (t : Table) (e : Option Int) : ∃ s c, encodeV t e = .tup [.str s, .int .i64 c] := by
  unfold encodeV frameV
  cases e with
  | some c => exact ⟨_, _, rfl⟩
  | none => simp only; split <;> exact ⟨_, _, rfl⟩
attribute [local irreducible] W Cl Bd
variable {V : K → Option (List AV)} {t : Table}
theorem encodeC (ht : t.Ok V) (hr : t.Room) : Cl Try.prog G19 V 20 [t.v] [] fun o _ => o = .ret (encodeV t (checkS t)) := encode_c ⟨rfl, rfl, rfl, rfl, rfl, rfl, rfl, rfl, rfl, rfl⟩ ht hr (checkC ht hr)
end Go.Proofs.Ythkkphkeonnnfaa.Abs
