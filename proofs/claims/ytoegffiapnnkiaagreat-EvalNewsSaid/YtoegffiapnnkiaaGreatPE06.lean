/- Parts of one proof. No condition but those that each theorem names. -/
import Derived.Test.YtoegffiapnnkiaaGreatPE05
namespace Go.Proofs.YtoegffiapnnkiaaGreat.Abs
open Go
set_option linter.unusedSimpArgs false
set_option linter.unusedVariables false
set_option maxRecDepth 100000
set_option maxHeartbeats 4000000
attribute [local irreducible] W Cl Bd
theorem of_none {α:Type} {o:Option α} {A B:Prop} (h:o=none) (hb:B):if o.isSome=true then A else B:=by rw [if_neg (by rw [h];simp)];exact hb
theorem of_some {α:Type} {o:Option α} {A B:Prop} (m:α) (h:o=some m) (ha:A):if o.isSome=true then A else B:=by rw [if_pos (by rw [h];rfl)];exact ha
theorem of_someM {α:Type} {o:Option α} {d:α} {A B:Prop} {Δ:Dm} (F:α→K×Bk) (m:α) (h:o=some m) (ha:A) (hm:F m∈Δ):if o.isSome=true then A∧F (o.getD d)∈Δ else B:=by rw [if_pos (by rw [h];rfl),h];exact ⟨ha,hm⟩
def pn (c:Int):AV:=.iface 271 (.agg [.int .i64 c])
variable {g:Cg} {V:K→Option (List AV)}
theorem must_c (hp:Plain g 112=true) (c:Bool) (n:Int):Cl Tryz.prog g V 112 [.bool c,.int .i64 n] [] fun o _=>o=if c=true then .ret (.tup []) else .pan (pn n):=by
  refine Cl.enter hp Tryz.func112 rfl ?_
  cases c
  repeat' first|(refine W.panic rfl rfl rfl ?_)|(with_reducible first|refine za ?_|refine zb ?_|refine zc ?_)|refine ym zr ?_|with_reducible refine zd ?_|refine W.condT zr ?_|refine W.condF zr ?_|refine W.doneN zr ?_
  all_goals rfl
def Index (t:Table) (r:Row):Bool :=
  if r.k=1 then decide (0≤r.i∧r.i≤t.slots) else if r.k=2∨r.k=3 then decide (1≤r.i∧r.i≤t.slots)
  else if r.k=4 then decide (0≤r.i∧r.i<t.regs.l.length) else if r.k=5 then decide (0≤r.i∧r.i<t.states.l.length) else decide (r.i=0)
theorem index_c (hp:Plain g 178=true) {t:Table} {r:Row} (ht:t.Ok V):Cl Tryz.prog g V 178 [t.v,r.v] [] fun o _=>o=.ret (.bool (Index t r)):=by
  have e1:IntKind.i64.wrap ((t.regs.l.length:Nat)-1:Int)=t.regs.l.length-1:=by have:=ht.regs.1;unfold Len at this;exact w64 (by omega) (by omega)
  have e2:IntKind.i64.wrap ((t.states.l.length:Nat)-1:Int)=t.states.l.length-1:=by have:=ht.states.1;unfold Len at this;exact w64 (by omega) (by omega)
  refine Cl.enter hp Tryz.func178 rfl ?_
  repeat' first|(with_reducible first|refine za ?_|refine zb ?_|refine zc ?_)|refine ym zr ?_|refine yn 0 zr ?_|refine yn 1 zr ?_|(refine yo zr ?_;intro _)|(with_reducible first|refine zd ?_|refine ze ?_|refine zf ?_|refine zj ?_)|refine zw (by decide +kernel) ?_|refine zx zr zr zr ?_|(refine W.condP zr ?_ ?_<;>intro _)|(refine W.gs zr zr zr zr ?_ ?_<;>intro _)|refine W.done zr ?_
  all_goals show RO.ret (AV.bool _)=RO.ret (AV.bool _)
  all_goals congr 2
  all_goals simp only [Index,e1,e2] at *
  all_goals simp_all
  all_goals omega
def Stands (t:Table) (x:Instr) (a z:Int):Bool :=
  if x.k=1 then decide (0≤x.a∧x.a<t.consts.l.length) else if x.k=2 then decide (1≤x.a∧x.a≤6) else if x.k=3 then decide (1≤x.a∧x.a≤3)
  else if x.k=4 then decide (0≤x.a∧x.a<t.regs.l.length) else if x.k=5 then decide (1≤x.a∧x.a≤16)
  else if x.k=6∨x.k=7∨x.k=8∨x.k=9 then decide (a<x.a∧x.a≤z) else false
theorem stands_c (hp:Plain g 145=true) {t:Table} {x:Instr} {a z:Int} (ht:t.Ok V) (ha:-9223372036854775808≤a∧a<9223372036854775807):Cl Tryz.prog g V 145 [t.v,x.v,.int .i64 a,.int .i64 z] [] fun o _=>o=.ret (.bool (Stands t x a z)):=by
  have e1:IntKind.i64.wrap ((t.consts.l.length:Nat)-1:Int)=t.consts.l.length-1:=by have:=ht.consts.1;unfold Len at this;exact w64 (by omega) (by omega)
  have e2:IntKind.i64.wrap ((t.regs.l.length:Nat)-1:Int)=t.regs.l.length-1:=by have:=ht.regs.1;unfold Len at this;exact w64 (by omega) (by omega)
  have e3:IntKind.i64.wrap (a+1)=a+1:=by exact w64 (by omega) (by omega)
  refine Cl.enter hp Tryz.func145 rfl ?_
  repeat' first|(with_reducible first|refine za ?_|refine zb ?_|refine zc ?_)|refine ym zr ?_|refine yn 0 zr ?_|refine yn 1 zr ?_|(refine yo zr ?_;intro _)|(with_reducible first|refine zd ?_|refine ze ?_|refine zf ?_|refine zj ?_|refine zk ?_|refine zl ?_)|refine zx zr zr zr ?_|(refine W.condP zr ?_ ?_<;>intro _)|(refine W.gs zr zr zr zr ?_ ?_<;>intro _)|refine W.done zr ?_
  all_goals show RO.ret (AV.bool _)=RO.ret (AV.bool _)
  all_goals congr 2
  all_goals simp only [Stands,e1,e2,e3] at *
  all_goals simp_all
  all_goals omega
end Go.Proofs.YtoegffiapnnkiaaGreat.Abs
