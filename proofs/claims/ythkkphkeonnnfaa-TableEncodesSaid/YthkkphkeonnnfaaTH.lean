/- The document's answer for tables: its functions, what each comes to. No condition but those that each theorem names. -/
import Derived.Test.YthkkphkeonnnfaaTF
namespace Go.Proofs.Ythkkphkeonnnfaa.Abs
open Go
set_option linter.unusedVariables false
set_option linter.unusedSimpArgs false
set_option maxRecDepth 100000
set_option maxHeartbeats 4000000
attribute [local irreducible] W Cl Bd
variable {g : Cg} {V : K → Option (List AV)}
theorem indexR_c (hp : Plain g 92 = true) {t : Table} {r : Row} (ht : t.Ok V) : Cl Try.prog g V 92 [t.v, r.v] [] fun o _ => o = .ret (.bool (decide (1 ≤ r.k ∧ r.k ≤ 6) && Index t r)) := by
  refine Cl.enter hp Try.func92 rfl ?_
  repeat' first
    | with_reducible refine W.seq ?_
    | with_reducible refine W.region ?_
    | with_reducible refine W.onil ?_
    | refine W.p tblOk rfl rfl rfl rfl ?_
    | refine W.ldO tblOk 0 rfl rfl rfl rfl rfl rfl ?_
    | refine W.ldO tblOk 1 rfl rfl rfl rfl rfl rfl ?_
    | refine W.ldO tblOk 2 rfl rfl rfl rfl rfl rfl ?_
    | refine W.ldO tblOk 3 rfl rfl rfl rfl rfl rfl ?_
    | (refine W.box rfl rfl rfl rfl rfl ?_; intro _)
    | (refine W.alloc tblOk rfl rfl rfl rfl rfl ?_; intro _)
    | refine W.stF tblOk rfl rfl rfl rfl rfl rfl rfl rfl ?_
    | (refine W.fr1 ?_; refine W.stF tblOk rfl rfl rfl rfl rfl rfl rfl rfl ?_)
    | (refine W.fr2 ?_; refine W.stF tblOk rfl rfl rfl rfl rfl rfl rfl rfl ?_)
    | (refine W.fr3 ?_; refine W.stF tblOk rfl rfl rfl rfl rfl rfl rfl rfl ?_)
    | with_reducible first | refine W.skip ?_ | refine W.block ?_ | refine W.bnrm ?_ | refine W.bexit ?_ | refine W.exit ?_ | refine W.cexit ?_ | refine W.ret ?_ | refine W.cret ?_ | refine W.bret ?_
    | refine W.bpast rfl ?_
    | refine W.draw (by decide +kernel) ?_
    | refine W.sk rfl rfl rfl ?_
    | refine W.sk0 rfl rfl ?_
    | (refine W.condP rfl ?_ ?_ <;> intro _)
    | refine W.condT rfl ?_
    | refine W.condF rfl ?_
    | (refine W.cond rfl ?_ ?_ <;> intro _)
    | (refine W.gs rfl rfl rfl rfl ?_ ?_ <;> intro _)
    | (refine W.gsB rfl rfl rfl rfl ?_ ?_ <;> intro _)
    | refine W.done rfl ?_
    | refine W.doneN rfl ?_
  all_goals show RO.ret (AV.bool _) = RO.ret (AV.bool _)
  all_goals congr 2
  all_goals simp only [Index]
  all_goals rw [Bool.eq_iff_iff]
  all_goals simp_all
  all_goals omega
theorem standsR_c (hp : Plain g 58 = true) {t : Table} {a z : Int} (ht : t.Ok V) (h0 : 0 ≤ a) (h1 : a < t.code.l.length) : Cl Try.prog g V 58 [t.v, .int .i64 a, .int .i64 z] [] fun o _ => o = .ret (.bool (Stands t (codeAt t a) a z)) := by
  obtain ⟨jn, o, cs, ha, hV, hpt⟩ := codeAt_in ht h0 h1
  generalize codeAt t a = x at hpt ⊢
  refine Cl.enter hp Try.func58 rfl ?_
  repeat' first
    | refine W.ia tblOk rfl rfl rfl rfl rfl rfl ha h0 h1 ?_
    | refine W.ldV tblOk rfl rfl rfl hV hpt ?_
    | with_reducible refine W.seq ?_
    | with_reducible refine W.region ?_
    | with_reducible refine W.onil ?_
    | refine W.p tblOk rfl rfl rfl rfl ?_
    | refine W.ldO tblOk 0 rfl rfl rfl rfl rfl rfl ?_
    | refine W.ldO tblOk 1 rfl rfl rfl rfl rfl rfl ?_
    | refine W.ldO tblOk 2 rfl rfl rfl rfl rfl rfl ?_
    | refine W.ldO tblOk 3 rfl rfl rfl rfl rfl rfl ?_
    | (refine W.box rfl rfl rfl rfl rfl ?_; intro _)
    | (refine W.alloc tblOk rfl rfl rfl rfl rfl ?_; intro _)
    | refine W.stF tblOk rfl rfl rfl rfl rfl rfl rfl rfl ?_
    | (refine W.fr1 ?_; refine W.stF tblOk rfl rfl rfl rfl rfl rfl rfl rfl ?_)
    | (refine W.fr2 ?_; refine W.stF tblOk rfl rfl rfl rfl rfl rfl rfl rfl ?_)
    | (refine W.fr3 ?_; refine W.stF tblOk rfl rfl rfl rfl rfl rfl rfl rfl ?_)
    | with_reducible first | refine W.skip ?_ | refine W.block ?_ | refine W.bnrm ?_ | refine W.bexit ?_ | refine W.exit ?_ | refine W.cexit ?_ | refine W.ret ?_ | refine W.cret ?_ | refine W.bret ?_
    | refine W.bpast rfl ?_
    | refine W.draw (by decide +kernel) ?_
    | refine W.sk rfl rfl rfl ?_
    | refine W.sk0 rfl rfl ?_
    | (refine W.condP rfl ?_ ?_ <;> intro _)
    | refine W.condT rfl ?_
    | refine W.condF rfl ?_
    | (refine W.cond rfl ?_ ?_ <;> intro _)
    | (refine W.gs rfl rfl rfl rfl ?_ ?_ <;> intro _)
    | (refine W.gsB rfl rfl rfl rfl ?_ ?_ <;> intro _)
    | refine W.done rfl ?_
    | refine W.doneN rfl ?_
  all_goals show RO.ret (AV.bool _) = RO.ret (AV.bool _)
  all_goals congr 2
  all_goals simp only [Stands]
  all_goals rw [Bool.eq_iff_iff]
  all_goals simp_all
  all_goals omega
def hasL (k o : Int) : List Bool := if k = 1 then (if o = 2 then [true, true, false, false] else [true, true, true, false]) else if k = 2 then [false, true, true, false] else if k = 4 then [false, false, false, true] else [false, false, false, false]
theorem has_c (hp : Plain g 60 = true) (r : Row) : Cl Try.prog g V 60 [r.v] [] fun o Δ => ∃ i, o = .ret (.slice (some (i, 0)) 4 (.ex 4)) ∧ (i, .cells ((hasL r.k r.o).map AV.bool) 4 1 true) ∈ Δ := by
  refine Cl.enter hp Try.func60 rfl ?_
  have hcase : (r.k = 1 ∧ r.o = 2) ∨ (r.k = 1 ∧ ¬ r.o = 2) ∨ r.k = 2 ∨ r.k = 4 ∨ (¬ r.k = 1 ∧ ¬ r.k = 2 ∧ ¬ r.k = 4) := by omega
  repeat' first
    | (refine W.bsl tblOk rfl rfl rfl rfl (by decide) rfl rfl rfl ?_; intro i_)
    | with_reducible refine W.seq ?_
    | with_reducible refine W.region ?_
    | with_reducible refine W.onil ?_
    | refine W.p tblOk rfl rfl rfl rfl ?_
    | refine W.ldO tblOk 0 rfl rfl rfl rfl rfl rfl ?_
    | refine W.ldO tblOk 1 rfl rfl rfl rfl rfl rfl ?_
    | refine W.ldO tblOk 2 rfl rfl rfl rfl rfl rfl ?_
    | refine W.ldO tblOk 3 rfl rfl rfl rfl rfl rfl ?_
    | (refine W.box rfl rfl rfl rfl rfl ?_; intro _)
    | (refine W.alloc tblOk rfl rfl rfl rfl rfl ?_; intro _)
    | refine W.stF tblOk rfl rfl rfl rfl rfl rfl rfl rfl ?_
    | (refine W.fr1 ?_; refine W.stF tblOk rfl rfl rfl rfl rfl rfl rfl rfl ?_)
    | (refine W.fr2 ?_; refine W.stF tblOk rfl rfl rfl rfl rfl rfl rfl rfl ?_)
    | (refine W.fr3 ?_; refine W.stF tblOk rfl rfl rfl rfl rfl rfl rfl rfl ?_)
    | with_reducible first | refine W.skip ?_ | refine W.block ?_ | refine W.bnrm ?_ | refine W.bexit ?_ | refine W.exit ?_ | refine W.cexit ?_ | refine W.ret ?_ | refine W.cret ?_ | refine W.bret ?_
    | refine W.bpast rfl ?_
    | refine W.draw (by decide +kernel) ?_
    | refine W.sk rfl rfl rfl ?_
    | refine W.sk0 rfl rfl ?_
    | (refine W.condP rfl ?_ ?_ <;> intro _)
    | refine W.condT rfl ?_
    | refine W.condF rfl ?_
    | (refine W.cond rfl ?_ ?_ <;> intro _)
    | (refine W.gs rfl rfl rfl rfl ?_ ?_ <;> intro _)
    | (refine W.gsB rfl rfl rfl rfl ?_ ?_ <;> intro _)
    | refine W.done rfl ?_
    | refine W.doneN rfl ?_
  all_goals refine ⟨i_, rfl, ?_⟩
  all_goals (rcases hcase with ⟨hk, ho⟩ | ⟨hk, ho⟩ | hk | hk | ⟨hk1, hk2, hk4⟩ <;> first | (exfalso; omega) | simp_all [hasL])
end Go.Proofs.Ythkkphkeonnnfaa.Abs
