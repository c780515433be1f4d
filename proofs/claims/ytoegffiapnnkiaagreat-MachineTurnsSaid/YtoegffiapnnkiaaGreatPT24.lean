/- Parts of one proof. No condition but those that each theorem names. -/
import Derived.Test.YtoegffiapnnkiaaGreatPT19
import Derived.Test.YtoegffiapnnkiaaGreatPT23
namespace Go.Proofs.YtoegffiapnnkiaaGreat.Abs
open Go
set_option linter.unusedVariables false
set_option linter.unusedSimpArgs false
set_option maxRecDepth 100000
set_option maxHeartbeats 4000000
def Snap.Good (w:Snap):Prop:=(0≤w.bid∧w.bid≤1000000000)∧(0≤w.ask∧w.ask≤1000000000)∧(0≤w.last∧w.last≤1000000000)∧(0≤w.volume∧w.volume≤1000000000000000)∧(0≤w.now∧w.now≤1000000000000000)∧(0≤w.open_∧w.open_≤256000000000)
instance (w:Snap):Decidable w.Good:=by unfold Snap.Good;exact inferInstance
def snapE (w:Snap):Int:=if w.Good then 0 else 100
attribute [local irreducible] W Cl Bd
variable {g:Cg} {V:K→Option (List AV)}
structure AskG (g:Cg):Prop where
  check:Plain g 89=true
  in1:Plain g 130=true
  checkR:Plain g 91=true
  asked:Plain g 73=true
  askedR:Plain g 75=true
  mode:Plain g 30=true
  in_:Plain g 76=true
  value:Plain g 21=true
  valueR:Plain g 22=true
theorem in1_c (A:AskG g) (n m:Int):Cl Tryz.prog g V 130 [.int .i64 n,.int .i64 m] [] fun o _=>o=.ret (.bool (decide (0≤n∧n≤m))):=by
  refine Cl.enter A.in1 Tryz.func130 rfl ?_
  repeat' first|(with_reducible first|refine za ?_|refine zb ?_|refine zc ?_)|refine ym zr ?_|with_reducible refine zj ?_|refine zx zr zr zr ?_|(refine W.gs zr zr zr zr ?_ ?_<;>intro _)|refine W.done zr ?_
  all_goals
    show RO.ret (AV.bool _)=RO.ret (AV.bool _)
    congr 2
    simp [*]
theorem snapE_is {w:Snap} {c:Int} (h:(w.Good∧c=0)∨(¬w.Good∧c=100)):RO.ret (AV.int .i64 c)=.ret (.int .i64 (snapE w)):=by
  unfold snapE
  rcases h with ⟨h,rfl⟩|⟨h,rfl⟩
  · rw [if_pos h]
  · rw [if_neg h]
theorem snapCheck_c (A:AskG g) (w:Snap):Cl Tryz.prog g V 89 [w.v] [] fun o _=>o=.ret (.int .i64 (snapE w)):=by
  refine Cl.enter A.check Tryz.func89 rfl ?_
  repeat' first|refine W.callP rfl rfl rfl rfl (in1_c A _ _) ?_|(with_reducible first|refine za ?_|refine zb ?_|refine zc ?_)|refine ym zr ?_|refine yn 0 zr ?_|(refine yo zr ?_;intro _)|(with_reducible first|refine zd ?_|refine zj ?_|refine zk ?_)|refine zx zr zr zr ?_|refine W.condT zr ?_|(refine W.cond zr ?_ ?_<;>intro _)|(refine W.gs zr zr zr zr ?_ ?_<;>intro _)|(refine W.gsB zr zr zr zr ?_ ?_<;>intro _)|refine W.done zr ?_
  all_goals
    try simp only [Bool.not_eq_true',decide_eq_false_iff_not,Bool.not_eq_false',decide_eq_true_eq] at *
    refine snapE_is ?_
    unfold Snap.Good
    omega
theorem snapCheckR_c (A:AskG g) (w:Snap):Cl Tryz.prog g V 91 [w.v] [] fun o _=>o=.ret (.int .i64 (snapE w)):=by
  refine Cl.enter A.checkR Tryz.func91 rfl ?_
  repeat' first|(with_reducible first|refine za ?_|refine zb ?_|refine zc ?_)|refine ym zr ?_|refine yn 0 zr ?_|(refine yo zr ?_;intro _)|(with_reducible first|refine zd ?_|refine zj ?_|refine zk ?_)|refine zx zr zr zr ?_|(refine W.condP zr ?_ ?_<;>intro _)|refine W.condT zr ?_|(refine W.gs zr zr zr zr ?_ ?_<;>intro _)|refine W.done zr ?_
  all_goals
    refine snapE_is ?_
    unfold Snap.Good
    omega
def ModeOk (t:Table) (s:Int) (n:Nat):Prop:=0≤s∧s<t.states.l.length∧n=t.regs.l.length
instance (t:Table) (s:Int) (n:Nat):Decidable (ModeOk t s n):=by unfold ModeOk;exact inferInstance
noncomputable def askE (t:Table) (s:Int) (n:Nat) (w:Snap):Int:=if (checkS t).getD 0=0 then (if ModeOk t s n then snapE w else 200) else (checkS t).getD 0
theorem asked_c (A:AskG g) {t:Table} (hc:Cl Tryz.prog g V 59 [t.v] [] fun o _=>o=.ret (.int .i64 ((checkS t).getD 0))) (s:Int) (regs:Sl Int) (w:Snap) :
    Cl Tryz.prog g V 73 [t.v,.agg [.int .i64 s,regs.v],w.v] [] fun o _=>o=.ret (.int .i64 (askE t s regs.l.length w)):=by
  refine Cl.enter A.asked Tryz.func73 rfl ?_
  unfold askE
  generalize (checkS t).getD 0=e at hc ⊢
  repeat' first|refine W.callP rfl rfl rfl rfl hc ?_|refine W.callP rfl rfl rfl rfl (snapCheck_c A w) ?_|(with_reducible first|refine za ?_|refine zb ?_|refine zc ?_)|refine ym zr ?_|refine yn 0 zr ?_|refine yn 1 zr ?_|refine yn 2 zr ?_|(refine yo zr ?_;intro _)|(with_reducible first|refine zd ?_|refine zj ?_|refine zk ?_)|refine zx zr zr zr ?_|(refine W.condP zr ?_ ?_<;>intro _)|refine W.condT zr ?_|(refine W.gs zr zr zr zr ?_ ?_<;>intro _)|refine W.done zr ?_
  all_goals first
    | (rw [if_neg ‹¬e=0›];rfl)
    | (have he:e=0:=Classical.not_not.1 ‹¬ ¬e=0›
       rw [if_pos he]
       first
         | (rw [if_neg (by unfold ModeOk;omega)];rfl)
         | (rw [if_pos (by unfold ModeOk;omega)];rfl))
    | trace_state
theorem modeR_c (A:AskG g) (t:Table) (s:Int) (regs:Sl Int):Cl Tryz.prog g V 30 [t.v,.agg [.int .i64 s,regs.v]] [] fun o _=>o=.ret (.bool (decide (ModeOk t s regs.l.length))):=by
  refine Cl.enter A.mode Tryz.func30 rfl ?_
  repeat' first|(with_reducible first|refine za ?_|refine zb ?_|refine zc ?_)|refine ym zr ?_|refine yn 0 zr ?_|refine yn 1 zr ?_|(refine yo zr ?_;intro _)|with_reducible refine zj ?_|refine zx zr zr zr ?_|(refine W.gs zr zr zr zr ?_ ?_<;>intro _)|refine W.done zr ?_
  all_goals first
    | (rw [decide_eq_false (show ¬ModeOk t s regs.l.length by unfold ModeOk;omega)];rfl)
    | (show RO.ret (AV.bool _)=RO.ret (AV.bool _);congr 2;exact decide_eq_decide.2 (by unfold ModeOk;omega))
theorem askedR_c (A:AskG g) {t:Table} (hc:Cl Tryz.prog g V 29 [t.v] [] fun o _=>o=.ret (.int .i64 ((checkS t).getD 0))) (s:Int) (regs:Sl Int) (w:Snap) :
    Cl Tryz.prog g V 75 [t.v,.agg [.int .i64 s,regs.v],w.v] [] fun o _=>o=.ret (.int .i64 (askE t s regs.l.length w)):=by
  refine Cl.enter A.askedR Tryz.func75 rfl ?_
  unfold askE
  generalize (checkS t).getD 0=e at hc ⊢
  have hm:=modeR_c (V:=V) A t s regs
  by_cases hk:ModeOk t s regs.l.length
  · rw [if_pos hk]
    rw [decide_eq_true hk] at hm
    repeat' first|refine W.callP rfl rfl rfl rfl hc ?_|refine W.callP rfl rfl rfl rfl hm ?_|refine W.callP rfl rfl rfl rfl (snapCheckR_c A w) ?_|(with_reducible first|refine za ?_|refine zb ?_|refine zc ?_)|refine ym zr ?_|refine yn 0 zr ?_|refine yn 1 zr ?_|refine yn 2 zr ?_|(refine yo zr ?_;intro _)|(with_reducible first|refine zd ?_|refine zj ?_|refine zk ?_)|(refine W.condP zr ?_ ?_<;>intro _)|refine W.condF zr ?_|refine W.done zr ?_
    all_goals first
      | (rw [if_neg ‹¬e=0›];rfl)
      | (rw [if_pos (Classical.not_not.1 ‹¬ ¬e=0›)];rfl)
  · rw [if_neg hk]
    rw [decide_eq_false hk] at hm
    repeat' first|refine W.callP rfl rfl rfl rfl hc ?_|refine W.callP rfl rfl rfl rfl hm ?_|(with_reducible first|refine za ?_|refine zb ?_|refine zc ?_)|refine ym zr ?_|refine yn 1 zr ?_|refine yn 2 zr ?_|(refine yo zr ?_;intro _)|(with_reducible first|refine zd ?_|refine zj ?_|refine zk ?_)|(refine W.condP zr ?_ ?_<;>intro _)|refine W.condT zr ?_|refine W.done zr ?_
    all_goals first
      | (rw [if_neg ‹¬e=0›];rfl)
      | (rw [if_pos (Classical.not_not.1 ‹¬ ¬e=0›)];rfl)
end Go.Proofs.YtoegffiapnnkiaaGreat.Abs
namespace Go.Proofs.YtoegffiapnnkiaaGreat.Abs
open Go
set_option linter.unusedVariables false
set_option linter.unusedSimpArgs false
set_option maxRecDepth 100000
set_option maxHeartbeats 4000000
theorem row_no {r:Row} (hr:r.rest) {y:Span} (h:y=r.side∨y=r.qty∨y=r.price∨y=r.value):y.no∨y∈r.spans:=by
  unfold Row.rest at hr
  unfold Row.spans
  split at hr
  · rename_i h1;rw [if_pos h1]
    split at hr
    · rename_i h2;rw [if_pos h2]
      rcases h with h|h|h|h<;>subst h<;>simp [hr]
    · rename_i h2;rw [if_neg h2]
      rcases h with h|h|h|h<;>subst h<;>simp [hr]
  · rename_i h1;rw [if_neg h1]
    split at hr
    · rename_i h2;rw [if_pos h2]
      rcases h with h|h|h|h<;>subst h<;>simp [hr]
    · rename_i h2;rw [if_neg h2]
      split at hr
      · rename_i h3;rw [if_pos h3]
        rcases h with h|h|h|h<;>subst h<;>simp [hr]
      · rcases h with h|h|h|h<;>subst h<;>simp [hr]
theorem askE_0 {t:Table} {s:Int} {n:Nat} {w:Snap} (h:askE t s n w=0):checkS t=none∧ModeOk t s n∧w.Good:=by
  unfold askE at h
  split at h
  · rename_i h1
    split at h
    · rename_i h2
      unfold snapE at h
      split at h
      · exact ⟨checkS_ne h1,h2,‹_›⟩
      · cases h
    · cases h
  · rename_i h1
    exact absurd h h1
end Go.Proofs.YtoegffiapnnkiaaGreat.Abs
