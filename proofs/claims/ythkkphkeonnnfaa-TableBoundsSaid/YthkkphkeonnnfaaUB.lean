/- Every table can need as many steps and actions as the document says, or is refused with its error: in the abstract machine. No condition but those that each theorem names. -/
import Derived.Test.YthkkphkeonnnfaaUA
import Derived.Test.YthkkphkeonnnfaaTW
import Derived.Test.YthkkphkeonnnfaaTZ
namespace Go.Proofs.Ythkkphkeonnnfaa.Abs
open Go
set_option linter.unusedVariables false
set_option linter.unusedSimpArgs false
set_option maxRecDepth 100000
set_option maxHeartbeats 4000000
attribute [local irreducible] W Cl Bd
variable {V : K → Option (List AV)} {t : Table}
theorem eqCost (a b a' b' : Int) : eqStr Try.prog 41 (.agg [.int .i64 a, .int .i64 b]) (.agg [.int .i64 a', .int .i64 b']) = some (ieqb a a' && (ieqb b b' && true)) := by kernel_rfl
theorem eqCost_self (a b : Int) : eqStr Try.prog 41 (.agg [.int .i64 a, .int .i64 b]) (.agg [.int .i64 a, .int .i64 b]) = some true := by
  rw [eqCost, ieqb_eq, ieqb_eq]; simp
theorem boundV_is (t : Table) : ∃ S A e : Int, boundV t = .tup [.agg [.int .i64 S, .int .i64 A], .int .i64 e] := by
  unfold boundV
  cases checkS t <;> exact ⟨_, _, _, rfl⟩
theorem tableBounds_c (ht : t.Ok V) (hr : t.Room) : Cl Try.prog G19 V 5 [t.v] [] fun o _ => o = .ret (.bool true) := by
  have h1 := bound_c (g := G19) rfl rfl ht (checkC ht hr)
  have h2 := boundR_c (g := G19) rfl ht (checkRC ht hr)
  obtain ⟨S, A, e, hb⟩ := boundV_is t
  rw [hb] at h1 h2
  refine Cl.enter rfl Try.func5 rfl ?_
  repeat' first
    | refine W.callP rfl rfl rfl rfl awakeC ?_
    | (refine W.callV rfl rfl rfl rfl (farC ht) ?_; rintro _ ⟨b_, rfl⟩)
    | refine W.callP rfl rfl rfl rfl h1 ?_
    | refine W.callP rfl rfl rfl rfl h2 ?_
    | refine W.eqS tblOk rfl rfl rfl rfl rfl (eqCost_self ..) ?_
    | with_reducible refine W.seq ?_
    | with_reducible refine W.region ?_
    | with_reducible refine W.onil ?_
    | refine W.p tblOk rfl rfl rfl rfl ?_
    | refine W.ldO tblOk 0 rfl rfl rfl rfl rfl rfl ?_
    | refine W.ldO tblOk 1 rfl rfl rfl rfl rfl rfl ?_
    | refine W.ldO tblOk 2 rfl rfl rfl rfl rfl rfl ?_
    | refine W.ldO tblOk 3 rfl rfl rfl rfl rfl rfl ?_
    | (refine W.box rfl rfl rfl rfl rfl ?_; intro _)
    | (refine W.alloc tblOk rfl rfl rfl rfl rfl ?_; intro _)
    | refine W.stF tblOk rfl rfl rfl rfl rfl rfl rfl rfl ?_
    | (refine W.fr1 ?_; refine W.stF tblOk rfl rfl rfl rfl rfl rfl rfl rfl ?_)
    | (refine W.fr2 ?_; refine W.stF tblOk rfl rfl rfl rfl rfl rfl rfl rfl ?_)
    | (refine W.fr3 ?_; refine W.stF tblOk rfl rfl rfl rfl rfl rfl rfl rfl ?_)
    | with_reducible first | refine W.skip ?_ | refine W.block ?_ | refine W.bnrm ?_ | refine W.bexit ?_ | refine W.exit ?_ | refine W.cexit ?_ | refine W.ret ?_ | refine W.cret ?_ | refine W.bret ?_
    | refine W.bpast rfl ?_
    | refine W.draw (by decide +kernel) ?_
    | refine W.sk rfl rfl rfl ?_
    | refine W.sk0 rfl rfl ?_
    | (refine W.condP rfl ?_ ?_ <;> intro _)
    | refine W.condT rfl ?_
    | refine W.condF rfl ?_
    | (refine W.cond rfl ?_ ?_ <;> intro _)
    | (refine W.gs rfl rfl rfl rfl ?_ ?_ <;> intro _)
    | (refine W.gsB rfl rfl rfl rfl ?_ ?_ <;> intro _)
    | refine W.done rfl ?_
    | refine W.doneN rfl ?_
  all_goals first
    | rfl
    | (show RO.ret (AV.bool (decide (e = e))) = _; simp)
end Go.Proofs.Ythkkphkeonnnfaa.Abs
