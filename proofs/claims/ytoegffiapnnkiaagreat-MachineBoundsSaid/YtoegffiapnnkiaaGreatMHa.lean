/- A mode is copied. No condition but those that each theorem names. -/
import Derived.Test.YtoegffiapnnkiaaGreatOA
import Derived.Test.YtoegffiapnnkiaaGreatTYb
import Derived.Test.YtoegffiapnnkiaaGreatWV
import Derived.Test.YtoegffiapnnkiaaGreatTG
namespace Go.Proofs.YtoegffiapnnkiaaGreat.Abs
open Go
set_option linter.unusedVariables false
set_option linter.unusedSimpArgs false
set_option maxRecDepth 100000
set_option maxHeartbeats 4000000
attribute [local irreducible] W Cl Bd
variable {g:Cg} {V:K→Option (List AV)}
theorem modeCopyP_c (hp:Plain g 60=true) {regs:Sl Int} (hr:regs.In V false 1 (AV.int .i64)) (hl:regs.l.length≤10000000) (s:Int) :
    Cl Tryz.prog g V 60 [.agg [.int .i64 s,regs.v]] [] fun o Δ=>∃i R,o=.ret (.agg [.int .i64 s,(gS i regs.l).v])∧Δ=R++gD iC 2 1 i regs.l:=by
  refine Cl.enter hp Tryz.func60 rfl ?_
  have hb:(([]:List Int).length+regs.l.length) * 8≤140737488355328:=by simp;omega
  repeat first|(with_reducible first|refine za ?_|refine zb ?_|refine zc ?_)|refine ym zr ?_|refine yn 0 zr ?_|refine yn 1 zr ?_|refine yn 2 zr ?_|refine yn 3 zr ?_|(refine yo zr ?_;intro _)|(refine yp zr ?_;intro _)|refine yq zr ?_|refine ys zr ?_|refine yu zr ?_|refine yv zr ?_|(with_reducible first|refine zd ?_|refine ze ?_|refine zf ?_|refine zg ?_|refine zh ?_|refine zi ?_|refine zj ?_|refine zk ?_|refine zl ?_)|refine zz zr ?_|refine zw (by decide +kernel) ?_|refine zx zr zr zr ?_|refine zy zr zr ?_|refine W.condT zr ?_|refine W.condF zr ?_
  rename_i ib ia
  have hold:∀(Δ:Dm),(ib,Bk.cells [.int .i64 s,regs.v] 30 2 true)∈Δ→Hold tbl ib 3 0 (.int .i64 s) Δ:=fun Δ h=>⟨_,_,h,rfl,rfl⟩
  refine W.drawL _ (i0:=ib) (q:=0) (v:=.int .i64 s) 1 4 5 (by decide +kernel) tbl tblOk rfl rfl (by simp [sameA]) ?_ ?_ ?_
  · show W _ _ _ _ _ [.o false _ [_]] _ _ _ _
    repeat' first|(with_reducible first|refine za ?_|refine zb ?_|refine zc ?_)|refine ym zr ?_|refine yn 0 zr ?_|refine yn 1 zr ?_|refine yn 2 zr ?_|refine yn 3 zr ?_|(refine yo zr ?_;intro _)|(refine yp zr ?_;intro _)|refine yq zr ?_|refine ys zr ?_|refine yu zr ?_|refine yv zr ?_|(with_reducible first|refine zd ?_|refine ze ?_|refine zf ?_|refine zg ?_|refine zh ?_|refine zi ?_|refine zj ?_|refine zk ?_|refine zl ?_)|refine zz zr ?_|refine zw (by decide +kernel) ?_|refine zx zr zr zr ?_|refine zy zr zr ?_|(refine W.condP zr ?_ ?_<;>intro _)|refine W.condT zr ?_|refine W.condF zr ?_|(refine W.cond zr ?_ ?_<;>intro _)|(refine W.gs zr zr zr zr ?_ ?_<;>intro _)|(refine W.gsB zr zr zr zr ?_ ?_<;>intro _)|refine W.done zr ?_|refine W.doneN zr ?_
    exact ⟨rfl,hold _ (.tail _ (.head _))⟩
  · intro m h1 h2
    obtain rfl|rfl:m=4∨m=5:=by omega
    · show W _ _ _ _ _ [.o false _ [_,_,_,_]] _ _ _ _
      repeat' first|(with_reducible first|refine za ?_|refine zb ?_|refine zc ?_)|refine ym zr ?_|refine yn 0 zr ?_|refine yn 1 zr ?_|refine yn 2 zr ?_|refine yn 3 zr ?_|(refine yo zr ?_;intro _)|(refine yp zr ?_;intro _)|refine yq zr ?_|refine ys zr ?_|refine yu zr ?_|refine yv zr ?_|(with_reducible first|refine zd ?_|refine ze ?_|refine zf ?_|refine zg ?_|refine zh ?_|refine zi ?_|refine zj ?_|refine zk ?_|refine zl ?_)|refine zz zr ?_|refine zw (by decide +kernel) ?_|refine zx zr zr zr ?_|refine zy zr zr ?_|(refine W.condP zr ?_ ?_<;>intro _)|refine W.condT zr ?_|refine W.condF zr ?_|(refine W.cond zr ?_ ?_<;>intro _)|(refine W.gs zr zr zr zr ?_ ?_<;>intro _)|(refine W.gsB zr zr zr zr ?_ ?_<;>intro _)|refine W.done zr ?_|refine W.doneN zr ?_
      exact hold _ (.tail _ (.head _))
    · show W _ _ _ _ _ [.o false _ [_,_,_,_,_]] _ _ _ _
      repeat first|(with_reducible first|refine za ?_|refine zb ?_|refine zc ?_)|refine ym zr ?_|refine yn 0 zr ?_|refine yn 1 zr ?_|refine yn 2 zr ?_|refine yn 3 zr ?_|(refine yo zr ?_;intro _)|(refine yp zr ?_;intro _)|refine yq zr ?_|refine ys zr ?_|refine yu zr ?_|refine yv zr ?_|(with_reducible first|refine zd ?_|refine ze ?_|refine zf ?_|refine zg ?_|refine zh ?_|refine zi ?_|refine zj ?_|refine zk ?_|refine zl ?_)|refine zz zr ?_|refine zw (by decide +kernel) ?_|refine zx zr zr zr ?_|refine zy zr zr ?_|refine W.condT zr ?_|refine W.condF zr ?_
      refine W.appG (i:=.z) (l:=[]) (m:=regs.l) (enc:=iC) (Δ1:=[_,_]) (Δ0:=[]) tblOk rfl rfl rfl rfl rfl rfl rfl (by decide) hb (fun _=>rfl) (srcI hr) (fun h=>src_none h) (leaf_all _ leafI _) rfl rfl fun n1=>?_
      repeat' first|(with_reducible first|refine za ?_|refine zb ?_|refine zc ?_)|refine ym zr ?_|refine yn 0 zr ?_|refine yn 1 zr ?_|refine yn 2 zr ?_|refine yn 3 zr ?_|(refine yo zr ?_;intro _)|(refine yp zr ?_;intro _)|refine yq zr ?_|refine ys zr ?_|refine yu zr ?_|refine yv zr ?_|(with_reducible first|refine zd ?_|refine ze ?_|refine zf ?_|refine zg ?_|refine zh ?_|refine zi ?_|refine zj ?_|refine zk ?_|refine zl ?_)|refine zz zr ?_|refine zw (by decide +kernel) ?_|refine zx zr zr zr ?_|refine zy zr zr ?_|(refine W.condP zr ?_ ?_<;>intro _)|refine W.condT zr ?_|refine W.condF zr ?_|(refine W.cond zr ?_ ?_<;>intro _)|(refine W.gs zr zr zr zr ?_ ?_<;>intro _)|(refine W.gsB zr zr zr zr ?_ ?_<;>intro _)|refine W.done zr ?_|refine W.doneN zr ?_
      exact hold _ (.tail _ (.head _))
  repeat first|(with_reducible first|refine za ?_|refine zb ?_|refine zc ?_)|refine ym zr ?_|refine yn 0 zr ?_|refine yn 1 zr ?_|refine yn 2 zr ?_|refine yn 3 zr ?_|(refine yo zr ?_;intro _)|(refine yp zr ?_;intro _)|refine yq zr ?_|refine ys zr ?_|refine yu zr ?_|refine yv zr ?_|(with_reducible first|refine zd ?_|refine ze ?_|refine zf ?_|refine zg ?_|refine zh ?_|refine zi ?_|refine zj ?_|refine zk ?_|refine zl ?_)|refine zz zr ?_|refine zw (by decide +kernel) ?_|refine zx zr zr zr ?_|refine zy zr zr ?_|refine W.condT zr ?_|refine W.condF zr ?_
  refine W.appG (i:=.z) (l:=[]) (m:=regs.l) (enc:=iC) (Δ1:=[_,_]) (Δ0:=[]) tblOk rfl rfl rfl rfl rfl rfl rfl (by decide) hb (fun _=>rfl) (srcI hr) (fun h=>src_none h) (leaf_all _ leafI _) rfl rfl fun n1=>?_
  repeat' first|refine W.doneC tblOk (.cell 0 rfl rfl rfl rfl .nil) ?_|(with_reducible first|refine za ?_|refine zb ?_|refine zc ?_)|refine ym zr ?_|refine yn 0 zr ?_|refine yn 1 zr ?_|refine yn 2 zr ?_|refine yn 3 zr ?_|(refine yo zr ?_;intro _)|(refine yp zr ?_;intro _)|refine yq zr ?_|refine ys zr ?_|refine yu zr ?_|refine yv zr ?_|(with_reducible first|refine zd ?_|refine ze ?_|refine zf ?_|refine zg ?_|refine zh ?_|refine zi ?_|refine zj ?_|refine zk ?_|refine zl ?_)|refine zz zr ?_|refine zw (by decide +kernel) ?_|refine zx zr zr zr ?_|refine zy zr zr ?_|(refine W.condP zr ?_ ?_<;>intro _)|refine W.condT zr ?_|refine W.condF zr ?_|(refine W.cond zr ?_ ?_<;>intro _)|(refine W.gs zr zr zr zr ?_ ?_<;>intro _)|(refine W.gsB zr zr zr zr ?_ ?_<;>intro _)|refine W.done zr ?_|refine W.doneN zr ?_
  exact ⟨n1,[_,_],rfl,by rw [List.append_nil];rfl⟩
end Go.Proofs.YtoegffiapnnkiaaGreat.Abs
