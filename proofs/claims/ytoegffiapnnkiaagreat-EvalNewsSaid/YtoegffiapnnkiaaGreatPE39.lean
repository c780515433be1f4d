/- Parts of one proof. No condition but those that each theorem names. -/
import Derived.Test.YtoegffiapnnkiaaGreatPE19
import Derived.Test.YtoegffiapnnkiaaGreatPE31
import Derived.Test.YtoegffiapnnkiaaGreatPE38
namespace Go.Proofs.YtoegffiapnnkiaaGreat.Abs
open Go
set_option linter.unusedVariables false
set_option linter.unusedSimpArgs false
set_option maxRecDepth 100000
theorem check_formed {t:Table} (h:checkS t=none):Formed t∧statesErr t t.states.l=none:=by
  unfold checkS at h
  split at h
  · exact ⟨‹_›,h⟩
  · cases h
end Go.Proofs.YtoegffiapnnkiaaGreat.Abs
namespace Go.Proofs.YtoegffiapnnkiaaGreat.Abs
open Go
set_option linter.unusedVariables false
set_option linter.unusedSimpArgs false
set_option maxRecDepth 100000
theorem check_code {t:Table} (h:checkS t=none):t.code.l.length≤4096∧t.regs.l.length≤12:=by
  obtain ⟨hf,-⟩:=check_formed h
  exact ⟨hf.1.2.2.2.2.2.1,hf.1.2.1⟩
end Go.Proofs.YtoegffiapnnkiaaGreat.Abs
namespace Go.Proofs.YtoegffiapnnkiaaGreat.Abs
open Go
set_option linter.unusedVariables false
set_option linter.unusedSimpArgs false
set_option maxRecDepth 100000
set_option maxHeartbeats 4000000
def Snap.Good (w:Snap):Prop:=(0≤w.bid∧w.bid≤1000000000)∧(0≤w.ask∧w.ask≤1000000000)∧(0≤w.last∧w.last≤1000000000)∧(0≤w.volume∧w.volume≤1000000000000000)∧(0≤w.now∧w.now≤1000000000000000)∧(0≤w.open_∧w.open_≤256000000000)
instance (w:Snap):Decidable w.Good:=by unfold Snap.Good;exact inferInstance
def snapE (w:Snap):Int:=if w.Good then 0 else 100
attribute [local irreducible] W Cl Bd
variable {g:Cg} {V:K→Option (List AV)}
structure AskG (g:Cg):Prop where
  check:Plain g 89=true
  in1:Plain g 130=true
  checkR:Plain g 91=true
  asked:Plain g 73=true
  askedR:Plain g 75=true
  mode:Plain g 30=true
  in_:Plain g 76=true
  value:Plain g 21=true
  valueR:Plain g 22=true
theorem in1_c (A:AskG g) (n m:Int):Cl Tryz.prog g V 130 [.int .i64 n,.int .i64 m] [] fun o _=>o=.ret (.bool (decide (0≤n∧n≤m))):=by
  refine Cl.enter A.in1 Tryz.func130 rfl ?_
  repeat' first|(with_reducible first|refine za ?_|refine zb ?_|refine zc ?_)|refine ym zr ?_|with_reducible refine zj ?_|refine zx zr zr zr ?_|(refine W.gs zr zr zr zr ?_ ?_<;>intro _)|refine W.done zr ?_
  all_goals
    show RO.ret (AV.bool _)=RO.ret (AV.bool _)
    congr 2
    simp [*]
theorem snapE_is {w:Snap} {c:Int} (h:(w.Good∧c=0)∨(¬w.Good∧c=100)):RO.ret (AV.int .i64 c)=.ret (.int .i64 (snapE w)):=by
  unfold snapE
  rcases h with ⟨h,rfl⟩|⟨h,rfl⟩
  · rw [if_pos h]
  · rw [if_neg h]
theorem snapCheck_c (A:AskG g) (w:Snap):Cl Tryz.prog g V 89 [w.v] [] fun o _=>o=.ret (.int .i64 (snapE w)):=by
  refine Cl.enter A.check Tryz.func89 rfl ?_
  repeat' first|refine W.callP rfl rfl rfl rfl (in1_c A _ _) ?_|(with_reducible first|refine za ?_|refine zb ?_|refine zc ?_)|refine ym zr ?_|refine yn 0 zr ?_|(refine yo zr ?_;intro _)|(with_reducible first|refine zd ?_|refine zj ?_|refine zk ?_)|refine zx zr zr zr ?_|refine W.condT zr ?_|(refine W.cond zr ?_ ?_<;>intro _)|(refine W.gs zr zr zr zr ?_ ?_<;>intro _)|(refine W.gsB zr zr zr zr ?_ ?_<;>intro _)|refine W.done zr ?_
  all_goals
    try simp only [Bool.not_eq_true',decide_eq_false_iff_not,Bool.not_eq_false',decide_eq_true_eq] at *
    refine snapE_is ?_
    unfold Snap.Good
    omega
theorem snapCheckR_c (A:AskG g) (w:Snap):Cl Tryz.prog g V 91 [w.v] [] fun o _=>o=.ret (.int .i64 (snapE w)):=by
  refine Cl.enter A.checkR Tryz.func91 rfl ?_
  repeat' first|(with_reducible first|refine za ?_|refine zb ?_|refine zc ?_)|refine ym zr ?_|refine yn 0 zr ?_|(refine yo zr ?_;intro _)|(with_reducible first|refine zd ?_|refine zj ?_|refine zk ?_)|refine zx zr zr zr ?_|(refine W.condP zr ?_ ?_<;>intro _)|refine W.condT zr ?_|(refine W.gs zr zr zr zr ?_ ?_<;>intro _)|refine W.done zr ?_
  all_goals
    refine snapE_is ?_
    unfold Snap.Good
    omega
end Go.Proofs.YtoegffiapnnkiaaGreat.Abs
