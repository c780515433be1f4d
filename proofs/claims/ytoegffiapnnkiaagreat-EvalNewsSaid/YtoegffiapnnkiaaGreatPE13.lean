/- Parts of one proof. No condition but those that each theorem names. -/
import Derived.Test.YtoegffiapnnkiaaGreatPE12
namespace Go.Proofs.YtoegffiapnnkiaaGreat.Abs
open Go
set_option linter.unusedVariables false
set_option linter.unusedSimpArgs false
set_option maxRecDepth 100000
set_option maxHeartbeats 4000000
attribute [local irreducible] W Cl Bd
variable {g:Cg} {V:K→Option (List AV)}
theorem indexR_c (hp:Plain g 189=true) {t:Table} {r:Row} (ht:t.Ok V):Cl Tryz.prog g V 189 [t.v,r.v] [] fun o _=>o=.ret (.bool (decide (1≤r.k∧r.k≤6)&&Index t r)):=by
  refine Cl.enter hp Tryz.func189 rfl ?_
  repeat' first|(with_reducible first|refine za ?_|refine zb ?_|refine zc ?_)|refine ym zr ?_|refine yn 0 zr ?_|refine yn 1 zr ?_|(refine yo zr ?_;intro _)|(with_reducible first|refine zd ?_|refine ze ?_|refine zf ?_|refine zj ?_|refine zk ?_|refine zl ?_)|refine zx zr zr zr ?_|(refine W.condP zr ?_ ?_<;>intro _)|(refine W.gs zr zr zr zr ?_ ?_<;>intro _)|refine W.done zr ?_
  all_goals show RO.ret (AV.bool _)=RO.ret (AV.bool _)
  all_goals congr 2
  all_goals simp only [Index]
  all_goals rw [Bool.eq_iff_iff]
  all_goals simp_all
  all_goals omega
theorem standsR_c (hp:Plain g 127=true) {t:Table} {a z:Int} (ht:t.Ok V) (h0:0≤a) (h1:a<t.code.l.length):Cl Tryz.prog g V 127 [t.v,.int .i64 a,.int .i64 z] [] fun o _=>o=.ret (.bool (Stands t (codeAt t a) a z)):=by
  obtain ⟨jn,o,cs,ha,hV,hpt⟩:=codeAt_in ht h0 h1
  generalize codeAt t a=x at hpt ⊢
  refine Cl.enter hp Tryz.func127 rfl ?_
  repeat' first|refine W.ia tblOk rfl rfl rfl rfl rfl rfl ha h0 h1 ?_|refine W.ldV tblOk rfl rfl rfl hV hpt ?_|(with_reducible first|refine za ?_|refine zb ?_|refine zc ?_)|refine ym zr ?_|refine yn 0 zr ?_|refine yn 1 zr ?_|(refine yo zr ?_;intro _)|(refine yp zr ?_;intro _)|refine yq zr ?_|(with_reducible first|refine zd ?_|refine ze ?_|refine zf ?_|refine zj ?_|refine zk ?_|refine zl ?_)|refine zx zr zr zr ?_|(refine W.condP zr ?_ ?_<;>intro _)|(refine W.gs zr zr zr zr ?_ ?_<;>intro _)|refine W.done zr ?_
  all_goals show RO.ret (AV.bool _)=RO.ret (AV.bool _)
  all_goals congr 2
  all_goals simp only [Stands]
  all_goals rw [Bool.eq_iff_iff]
  all_goals simp_all
  all_goals omega
def hasL (k o:Int):List Bool:=if k=1 then (if o=2 then [true,true,false,false] else [true,true,true,false]) else if k=2 then [false,true,true,false] else if k=4 then [false,false,false,true] else [false,false,false,false]
theorem has_c (hp:Plain g 129=true) (r:Row):Cl Tryz.prog g V 129 [r.v] [] fun o Δ=>∃i,o=.ret (.slice (some (i,0)) 4 (.ex 4))∧(i,.cells ((hasL r.k r.o).map AV.bool) 4 1 true)∈Δ:=by
  refine Cl.enter hp Tryz.func129 rfl ?_
  have hcase:(r.k=1∧r.o=2)∨(r.k=1∧¬r.o=2)∨r.k=2∨r.k=4∨(¬r.k=1∧¬r.k=2∧¬r.k=4):=by omega
  repeat' first|(refine W.bsl tblOk rfl rfl rfl rfl (by decide) rfl rfl rfl ?_;intro i_)|(with_reducible first|refine za ?_|refine zb ?_|refine zc ?_)|refine ym zr ?_|refine yn 0 zr ?_|(refine yo zr ?_;intro _)|with_reducible refine zj ?_|refine zx zr zr zr ?_|(refine W.gs zr zr zr zr ?_ ?_<;>intro _)|refine W.done zr ?_
  all_goals refine ⟨i_,rfl,?_⟩
  all_goals (rcases hcase with ⟨hk,ho⟩|⟨hk,ho⟩|hk|hk|⟨hk1,hk2,hk4⟩<;>first|(exfalso;omega)|simp_all [hasL])
end Go.Proofs.YtoegffiapnnkiaaGreat.Abs
