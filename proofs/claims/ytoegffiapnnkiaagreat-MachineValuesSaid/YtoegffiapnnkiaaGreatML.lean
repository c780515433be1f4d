/- The document's 'in': is a span one of the table's? No condition but those that each theorem names. -/
import Derived.Test.YtoegffiapnnkiaaGreatMJ
namespace Go.Proofs.YtoegffiapnnkiaaGreat.Abs
open Go
set_option linter.unusedVariables false
set_option linter.unusedSimpArgs false
set_option maxRecDepth 100000
set_option maxHeartbeats 4000000
def rowHasR (x:Span) (r:Row):Bool:=!spanB x ⟨0,0⟩&&(spanB r.side x||(spanB r.qty x||(spanB r.price x||spanB r.value x)))
def guardHasR (x:Span) (g:Guard):Bool:=spanB g.when x||g.rows.l.any (rowHasR x)
def tabHasR (x:Span) (t:Table):Bool:=t.states.l.any fun s=>s.l.any (guardHasR x)
theorem any_drop {α:Type} {l:List α} {i:Nat} (h:i<l.length) (f:α→Bool):(l.drop i).any f=(f l[i]||(l.drop (i+1)).any f):=by
  rw [List.drop_eq_getElem_cons h,List.any_cons]
theorem any_done {α:Type} {l:List α} {i:Nat} (h:l.length≤i) (f:α→Bool):(l.drop i).any f=false:=by rw [List.drop_eq_nil_of_le h];rfl
attribute [local irreducible] W Cl Bd
variable {g:Cg} {V:K→Option (List AV)}
theorem inR_c (A:AskG g) {t:Table} (ht:t.Ok V) (x:Span):Cl Tryz.prog g V 76 [t.v,x.v] [] fun o _=>o=.ret (.bool (tabHasR x t)):=by
  refine Cl.enter A.in_ Tryz.func76 rfl ?_
  have hlen:=ht.states.1
  unfold Len at hlen
  generalize hR:tabHasR x t=R
  repeat first|(with_reducible first|refine za ?_|refine zb ?_|refine zc ?_)|refine ym zr ?_|refine yn 0 zr ?_|refine yn 1 zr ?_|refine yn 2 zr ?_|refine yn 3 zr ?_|(refine yo zr ?_;intro _)|(refine yp zr ?_;intro _)|refine yq zr ?_|refine ys zr ?_|refine yu zr ?_|refine yv zr ?_|(with_reducible first|refine zd ?_|refine ze ?_|refine zf ?_|refine zg ?_|refine zh ?_|refine zi ?_|refine zj ?_|refine zk ?_|refine zl ?_)|refine zz zr ?_|refine zw (by decide +kernel) ?_|refine zx zr zr zr ?_|refine zy zr zr ?_|refine W.condT zr ?_|refine W.condF zr ?_
  rename_i it ix i0
  refine W.loopR (α:={ i:Nat // i≤t.states.l.length∧R=(t.states.l.drop i).any fun s=>s.l.any (guardHasR x) }) (fun i=>t.states.l.length-i.1) (fun i=>[(2,.ptr (some (it,0))),(3,.ptr (some (ix,0))),(5,.ptr (some (i0,0))),(6,.int .i64 (i.1:Int))])
    (fun _=>(i0,.cells [.int .i64 0,.int .i64 0] 53 2 true)::(ix,.cells [.int .i64 x.f,.int .i64 x.t] 53 2 true)::(it,.cells [.str t.name,t.regs.v,.int .i64 t.slots,t.consts.v,t.code.v,t.states.v] 26 6 true)::[]) ⟨0,Nat.zero_le _,by rw [←hR];rfl⟩ ⟨rfl,rfl,rfl,rfl⟩ (List.Sublist.refl _) ?_
  clear hR
  rintro ⟨i,hi,hinv⟩ ih
  simp only at ih hi hinv ⊢
  by_cases hlt:i<t.states.l.length
  rotate_left
  · clear ih
    rw [any_done (by omega)] at hinv
    subst hinv
    repeat first|(with_reducible first|refine za ?_|refine zb ?_|refine zc ?_)|refine ym zr ?_|refine yn 0 zr ?_|refine yn 1 zr ?_|refine yn 2 zr ?_|refine yn 3 zr ?_|(refine yo zr ?_;intro _)|(refine yp zr ?_;intro _)|refine yq zr ?_|refine ys zr ?_|refine yu zr ?_|refine yv zr ?_|(with_reducible first|refine zd ?_|refine ze ?_|refine zf ?_|refine zg ?_|refine zh ?_|refine zi ?_|refine zj ?_|refine zk ?_|refine zl ?_)|refine zz zr ?_|refine zw (by decide +kernel) ?_|refine zx zr zr zr ?_|refine zy zr zr ?_|refine W.condT zr ?_|refine W.condF zr ?_
    refine W.condP rfl (fun h=>absurd h (by omega)) (fun _=>?_)
    repeat' first|(with_reducible first|refine za ?_|refine zb ?_|refine zc ?_)|refine ym zr ?_|refine yn 0 zr ?_|refine yn 1 zr ?_|refine yn 2 zr ?_|refine yn 3 zr ?_|(refine yo zr ?_;intro _)|(refine yp zr ?_;intro _)|refine yq zr ?_|refine ys zr ?_|refine yu zr ?_|refine yv zr ?_|(with_reducible first|refine zd ?_|refine ze ?_|refine zf ?_|refine zg ?_|refine zh ?_|refine zi ?_|refine zj ?_|refine zk ?_|refine zl ?_)|refine zz zr ?_|refine zw (by decide +kernel) ?_|refine zx zr zr zr ?_|refine zy zr zr ?_|(refine W.condP zr ?_ ?_<;>intro _)|refine W.condT zr ?_|refine W.condF zr ?_|(refine W.cond zr ?_ ?_<;>intro _)|(refine W.gs zr zr zr zr ?_ ?_<;>intro _)|(refine W.gsB zr zr zr zr ?_ ?_<;>intro _)|refine W.done zr ?_|refine W.doneN zr ?_
    rfl
  have hi0:(0:Int)≤(i:Int):=by omega
  have hi1:(i:Int)<(t.states.l.length:Int):=by omega
  have ewi:IntKind.i64.wrap ((i:Int)+1)=((i+1:Nat):Int):=by rw [w64 (by omega) (by omega)];omega
  obtain ⟨jn,o,cs,ha,hV,hpt⟩:=Sl.In.get ht.states.2.1 hlt
  have hl:=ht.states.2.2 _ (List.getElem_mem hlt)
  rw [any_drop hlt] at hinv
  have hnext:=fun h=>ih ⟨i+1,hlt,h⟩ (by show t.states.l.length-(i+1)<t.states.l.length-i;omega)
  simp only at hnext
  clear ih
  generalize t.states.l[i]=l at hpt hl hinv
  generalize hS:((t.states.l.drop (i+1)).any fun s=>s.l.any (guardHasR x))=S at hinv hnext
  have hll:=hl.1
  unfold Len at hll
  repeat first|(with_reducible first|refine za ?_|refine zb ?_|refine zc ?_)|refine ym zr ?_|refine yn 0 zr ?_|refine yn 1 zr ?_|refine yn 2 zr ?_|refine yn 3 zr ?_|(refine yo zr ?_;intro _)|(refine yp zr ?_;intro _)|refine yq zr ?_|refine ys zr ?_|refine yu zr ?_|refine yv zr ?_|(with_reducible first|refine zd ?_|refine ze ?_|refine zf ?_|refine zg ?_|refine zh ?_|refine zi ?_|refine zj ?_|refine zk ?_|refine zl ?_)|refine zz zr ?_|refine zw (by decide +kernel) ?_|refine zx zr zr zr ?_|refine zy zr zr ?_|refine W.condT zr ?_|refine W.condF zr ?_
  refine W.condP rfl (fun _=>?_) (fun h=>absurd hi1 h)
  repeat first|(with_reducible first|refine za ?_|refine zb ?_|refine zc ?_)|refine ym zr ?_|refine yn 0 zr ?_|refine yn 1 zr ?_|refine yn 2 zr ?_|refine yn 3 zr ?_|(refine yo zr ?_;intro _)|(refine yp zr ?_;intro _)|refine yq zr ?_|refine ys zr ?_|refine yu zr ?_|refine yv zr ?_|(with_reducible first|refine zd ?_|refine ze ?_|refine zf ?_|refine zg ?_|refine zh ?_|refine zi ?_|refine zj ?_|refine zk ?_|refine zl ?_)|refine zz zr ?_|refine zw (by decide +kernel) ?_|refine zx zr zr zr ?_|refine zy zr zr ?_|refine W.condT zr ?_|refine W.condF zr ?_
  refine W.loopR (α:={ k:Nat // k≤l.l.length∧R=((l.l.drop k).any (guardHasR x)||S) }) (fun k=>l.l.length-k.1) (fun k=>[(2,.ptr (some (it,0))),(3,.ptr (some (ix,0))),(5,.ptr (some (i0,0))),(6,.int .i64 (i:Int)),(7,.int .i64 (k.1:Int))])
    (fun _=>_::_::_::[]) ⟨0,Nat.zero_le _,hinv⟩ ⟨rfl,rfl,rfl,rfl,rfl⟩ (List.Sublist.refl _) ?_
  clear hinv
  rintro ⟨k,hk,hinv⟩ ih
  simp only at ih hk hinv ⊢
  by_cases hlt2:k<l.l.length
  rotate_left
  · clear ih
    rw [any_done (by omega),Bool.false_or] at hinv
    repeat first|refine W.ia tblOk rfl rfl rfl rfl rfl rfl ha hi0 hi1 ?_|refine W.ldV tblOk rfl rfl rfl hV hpt ?_|(with_reducible first|refine za ?_|refine zb ?_|refine zc ?_)|refine ym zr ?_|refine yn 0 zr ?_|refine yn 1 zr ?_|refine yn 2 zr ?_|refine yn 3 zr ?_|(refine yo zr ?_;intro _)|(refine yp zr ?_;intro _)|refine yq zr ?_|refine ys zr ?_|refine yu zr ?_|refine yv zr ?_|(with_reducible first|refine zd ?_|refine ze ?_|refine zf ?_|refine zg ?_|refine zh ?_|refine zi ?_|refine zj ?_|refine zk ?_|refine zl ?_)|refine zz zr ?_|refine zw (by decide +kernel) ?_|refine zx zr zr zr ?_|refine zy zr zr ?_|refine W.condT zr ?_|refine W.condF zr ?_
    refine W.condP rfl (fun h=>absurd h (by omega)) (fun _=>?_)
    repeat first|(with_reducible first|refine za ?_|refine zb ?_|refine zc ?_)|refine ym zr ?_|refine yn 0 zr ?_|refine yn 1 zr ?_|refine yn 2 zr ?_|refine yn 3 zr ?_|(refine yo zr ?_;intro _)|(refine yp zr ?_;intro _)|refine yq zr ?_|refine ys zr ?_|refine yu zr ?_|refine yv zr ?_|(with_reducible first|refine zd ?_|refine ze ?_|refine zf ?_|refine zg ?_|refine zh ?_|refine zi ?_|refine zj ?_|refine zk ?_|refine zl ?_)|refine zz zr ?_|refine zw (by decide +kernel) ?_|refine zx zr zr zr ?_|refine zy zr zr ?_|refine W.condT zr ?_|refine W.condF zr ?_
    rw [ewi]
    exact W.wk (hnext hinv) ⟨rfl,rfl,rfl,rfl⟩ (List.Sublist.refl _)
  clear hnext
  have hk0:(0:Int)≤(k:Int):=by omega
  have hk1:(k:Int)<(l.l.length:Int):=by omega
  have ewk:IntKind.i64.wrap ((k:Int)+1)=((k+1:Nat):Int):=by rw [w64 (by omega) (by omega)];omega
  obtain ⟨jn2,o2,cs2,ha2,hV2,hpt2⟩:=Sl.In.get hl.2.1 hlt2
  have hg:=hl.2.2 _ (List.getElem_mem hlt2)
  rw [any_drop hlt2] at hinv
  have hnext:=fun h=>ih ⟨k+1,hlt2,h⟩ (by show l.l.length-(k+1)<l.l.length-k;omega)
  simp only at hnext
  clear ih
  generalize l.l[k]=y at hpt2 hg hinv
  generalize (l.l.drop (k+1)).any (guardHasR x)=S2 at hinv hnext
  unfold guardHasR at hinv
  have hrl:=hg.2.2.2.1
  unfold Len at hrl
  repeat first|refine W.ia tblOk rfl rfl rfl rfl rfl rfl ha hi0 hi1 ?_|refine W.ldV tblOk rfl rfl rfl hV hpt ?_|(with_reducible first|refine za ?_|refine zb ?_|refine zc ?_)|refine ym zr ?_|refine yn 0 zr ?_|refine yn 1 zr ?_|refine yn 2 zr ?_|refine yn 3 zr ?_|(refine yo zr ?_;intro _)|(refine yp zr ?_;intro _)|refine yq zr ?_|refine ys zr ?_|refine yu zr ?_|refine yv zr ?_|(with_reducible first|refine zd ?_|refine ze ?_|refine zf ?_|refine zg ?_|refine zh ?_|refine zi ?_|refine zj ?_|refine zk ?_|refine zl ?_)|refine zz zr ?_|refine zw (by decide +kernel) ?_|refine zx zr zr zr ?_|refine zy zr zr ?_|refine W.condT zr ?_|refine W.condF zr ?_
  refine W.condP rfl (fun _=>?_) (fun h=>absurd hk1 h)
  repeat first|refine W.ia tblOk rfl rfl rfl rfl rfl rfl ha hi0 hi1 ?_|refine W.ldV tblOk rfl rfl rfl hV hpt ?_|refine W.ia tblOk rfl rfl rfl rfl rfl rfl ha2 hk0 hk1 ?_|refine W.ldV tblOk rfl rfl rfl hV2 hpt2 ?_|refine W.eqS tblOk rfl rfl rfl rfl rfl (eqSpan _ _ _ _) ?_|(with_reducible first|refine za ?_|refine zb ?_|refine zc ?_)|refine ym zr ?_|refine yn 0 zr ?_|refine yn 1 zr ?_|refine yn 2 zr ?_|refine yn 3 zr ?_|(refine yo zr ?_;intro _)|(refine yp zr ?_;intro _)|refine yq zr ?_|refine ys zr ?_|refine yu zr ?_|refine yv zr ?_|(with_reducible first|refine zd ?_|refine ze ?_|refine zf ?_|refine zg ?_|refine zh ?_|refine zi ?_|refine zj ?_|refine zk ?_|refine zl ?_)|refine zz zr ?_|refine zw (by decide +kernel) ?_|refine zx zr zr zr ?_|refine zy zr zr ?_|refine W.condT zr ?_|refine W.condF zr ?_
  rename_i ig
  refine W.cond rfl ?_ ?_<;>intro hw
  · have hw:spanB y.when x=true:=hw
    rw [hw,Bool.true_or,Bool.true_or,Bool.true_or] at hinv
    subst hinv
    repeat' first|(with_reducible first|refine za ?_|refine zb ?_|refine zc ?_)|refine ym zr ?_|refine yn 0 zr ?_|refine yn 1 zr ?_|refine yn 2 zr ?_|refine yn 3 zr ?_|(refine yo zr ?_;intro _)|(refine yp zr ?_;intro _)|refine yq zr ?_|refine ys zr ?_|refine yu zr ?_|refine yv zr ?_|(with_reducible first|refine zd ?_|refine ze ?_|refine zf ?_|refine zg ?_|refine zh ?_|refine zi ?_|refine zj ?_|refine zk ?_|refine zl ?_)|refine zz zr ?_|refine zw (by decide +kernel) ?_|refine zx zr zr zr ?_|refine zy zr zr ?_|(refine W.condP zr ?_ ?_<;>intro _)|refine W.condT zr ?_|refine W.condF zr ?_|(refine W.cond zr ?_ ?_<;>intro _)|(refine W.gs zr zr zr zr ?_ ?_<;>intro _)|(refine W.gsB zr zr zr zr ?_ ?_<;>intro _)|refine W.done zr ?_|refine W.doneN zr ?_
    rfl
  have hw:spanB y.when x=false:=hw
  rw [hw,Bool.false_or] at hinv
  repeat first|(with_reducible first|refine za ?_|refine zb ?_|refine zc ?_)|refine ym zr ?_|refine yn 0 zr ?_|refine yn 1 zr ?_|refine yn 2 zr ?_|refine yn 3 zr ?_|(refine yo zr ?_;intro _)|(refine yp zr ?_;intro _)|refine yq zr ?_|refine ys zr ?_|refine yu zr ?_|refine yv zr ?_|(with_reducible first|refine zd ?_|refine ze ?_|refine zf ?_|refine zg ?_|refine zh ?_|refine zi ?_|refine zj ?_|refine zk ?_|refine zl ?_)|refine zz zr ?_|refine zw (by decide +kernel) ?_|refine zx zr zr zr ?_|refine zy zr zr ?_|refine W.condT zr ?_|refine W.condF zr ?_
  refine W.loopR (α:={ j:Nat // j≤y.rows.l.length∧R=(((y.rows.l.drop j).any (rowHasR x)||S2)||S) }) (fun j=>y.rows.l.length-j.1) (fun j=>[(2,.ptr (some (it,0))),(3,.ptr (some (ix,0))),(5,.ptr (some (i0,0))),(6,.int .i64 (i:Int)),(7,.int .i64 (k:Int)),(8,.ptr (some (ig,0))),(9,.int .i64 (j.1:Int))])
    (fun _=>_::_::_::_::[]) ⟨0,Nat.zero_le _,hinv⟩ ⟨rfl,rfl,rfl,rfl,rfl,rfl,rfl⟩ (List.Sublist.refl _) ?_
  clear hinv
  rintro ⟨j,hj,hinv⟩ ih
  simp only at ih hj hinv ⊢
  by_cases hlt3:j<y.rows.l.length
  rotate_left
  · clear ih
    rw [any_done (by omega),Bool.false_or] at hinv
    repeat first|(with_reducible first|refine za ?_|refine zb ?_|refine zc ?_)|refine ym zr ?_|refine yn 0 zr ?_|refine yn 1 zr ?_|refine yn 2 zr ?_|refine yn 3 zr ?_|(refine yo zr ?_;intro _)|(refine yp zr ?_;intro _)|refine yq zr ?_|refine ys zr ?_|refine yu zr ?_|refine yv zr ?_|(with_reducible first|refine zd ?_|refine ze ?_|refine zf ?_|refine zg ?_|refine zh ?_|refine zi ?_|refine zj ?_|refine zk ?_|refine zl ?_)|refine zz zr ?_|refine zw (by decide +kernel) ?_|refine zx zr zr zr ?_|refine zy zr zr ?_|refine W.condT zr ?_|refine W.condF zr ?_
    refine W.condP rfl (fun h=>absurd h (by omega)) (fun _=>?_)
    repeat first|(with_reducible first|refine za ?_|refine zb ?_|refine zc ?_)|refine ym zr ?_|refine yn 0 zr ?_|refine yn 1 zr ?_|refine yn 2 zr ?_|refine yn 3 zr ?_|(refine yo zr ?_;intro _)|(refine yp zr ?_;intro _)|refine yq zr ?_|refine ys zr ?_|refine yu zr ?_|refine yv zr ?_|(with_reducible first|refine zd ?_|refine ze ?_|refine zf ?_|refine zg ?_|refine zh ?_|refine zi ?_|refine zj ?_|refine zk ?_|refine zl ?_)|refine zz zr ?_|refine zw (by decide +kernel) ?_|refine zx zr zr zr ?_|refine zy zr zr ?_|refine W.condT zr ?_|refine W.condF zr ?_
    rw [ewk]
    exact W.wk (hnext hinv) ⟨rfl,rfl,rfl,rfl,rfl⟩ (.cons _ (List.Sublist.refl _))
  clear hnext
  have hj0:(0:Int)≤(j:Int):=by omega
  have hj1:(j:Int)<(y.rows.l.length:Int):=by omega
  have ewj:IntKind.i64.wrap ((j:Int)+1)=((j+1:Nat):Int):=by rw [w64 (by omega) (by omega)];omega
  obtain ⟨jn3,o3,cs3,ha3,hV3,hpt3⟩:=Sl.In.get hg.2.2.2.2.1 hlt3
  rw [any_drop hlt3] at hinv
  have hnext:=fun h=>ih ⟨j+1,hlt3,h⟩ (by show y.rows.l.length-(j+1)<y.rows.l.length-j;omega)
  simp only at hnext
  clear ih
  generalize y.rows.l[j]=r at hpt3 hinv
  generalize (y.rows.l.drop (j+1)).any (rowHasR x)=S3 at hinv hnext
  repeat first|(with_reducible first|refine za ?_|refine zb ?_|refine zc ?_)|refine ym zr ?_|refine yn 0 zr ?_|refine yn 1 zr ?_|refine yn 2 zr ?_|refine yn 3 zr ?_|(refine yo zr ?_;intro _)|(refine yp zr ?_;intro _)|refine yq zr ?_|refine ys zr ?_|refine yu zr ?_|refine yv zr ?_|(with_reducible first|refine zd ?_|refine ze ?_|refine zf ?_|refine zg ?_|refine zh ?_|refine zi ?_|refine zj ?_|refine zk ?_|refine zl ?_)|refine zz zr ?_|refine zw (by decide +kernel) ?_|refine zx zr zr zr ?_|refine zy zr zr ?_|refine W.condT zr ?_|refine W.condF zr ?_
  refine W.condP rfl (fun _=>?_) (fun h=>absurd hj1 h)
  repeat first|refine W.ia tblOk rfl rfl rfl rfl rfl rfl ha3 hj0 hj1 ?_|refine W.ldV tblOk rfl rfl rfl hV3 hpt3 ?_|refine W.neS tblOk rfl rfl rfl rfl rfl (eqSpan _ _ _ _) ?_|(with_reducible first|refine za ?_|refine zb ?_|refine zc ?_)|refine ym zr ?_|refine yn 0 zr ?_|refine yn 1 zr ?_|refine yn 2 zr ?_|refine yn 3 zr ?_|(refine yo zr ?_;intro _)|(refine yp zr ?_;intro _)|refine yq zr ?_|refine ys zr ?_|refine yu zr ?_|refine yv zr ?_|(with_reducible first|refine zd ?_|refine ze ?_|refine zf ?_|refine zg ?_|refine zh ?_|refine zi ?_|refine zj ?_|refine zk ?_|refine zl ?_)|refine zz zr ?_|refine zw (by decide +kernel) ?_|refine zx zr zr zr ?_|refine zy zr zr ?_|refine W.condT zr ?_|refine W.condF zr ?_
  unfold rowHasR at hinv
  repeat' first|refine W.eqS tblOk rfl rfl rfl rfl rfl (eqSpan _ _ _ _) ?_|(with_reducible first|refine za ?_|refine zb ?_|refine zc ?_)|refine ym zr ?_|refine yn 0 zr ?_|refine yn 1 zr ?_|refine yn 2 zr ?_|refine yn 3 zr ?_|(refine yo zr ?_;intro _)|(refine yp zr ?_;intro _)|refine yq zr ?_|refine ys zr ?_|refine yu zr ?_|refine yv zr ?_|(with_reducible first|refine zd ?_|refine ze ?_|refine zf ?_|refine zg ?_|refine zh ?_|refine zi ?_|refine zj ?_|refine zk ?_|refine zl ?_)|refine zz zr ?_|refine zw (by decide +kernel) ?_|refine zx zr zr zr ?_|refine zy zr zr ?_|(refine W.condP zr ?_ ?_<;>intro _)|refine W.condT zr ?_|refine W.condF zr ?_|(refine W.cond zr ?_ ?_<;>intro _)|(refine W.gs zr zr zr zr ?_ ?_<;>intro _)|(refine W.gsB zr zr zr zr ?_ ?_<;>intro _)|refine W.done zr ?_|refine W.doneN zr ?_
  all_goals first
    | (refine W.wk (hnext ?_) ⟨rfl,rfl,rfl,rfl,rfl,rfl,congrArg (fun z=>some (AV.int .i64 z)) ewj⟩ (.cons _ (List.Sublist.refl _))
       clear hnext ht hl hg
       simp only [spanB] at hinv
       rw [hinv]
       simp only [*,Bool.true_and,Bool.false_and,Bool.or_false,Bool.false_or,Bool.or_true,Bool.true_or,Bool.not_true,Bool.not_false])
    | (clear hnext ht hl hg
       simp only [spanB] at hinv
       have e:R=true:=by
         rw [hinv]
         simp only [*,Bool.true_and,Bool.false_and,Bool.or_false,Bool.false_or,Bool.or_true,Bool.true_or,Bool.not_true,Bool.not_false]
       rw [e]
       rfl)
    | trace_state
end Go.Proofs.YtoegffiapnnkiaaGreat.Abs
