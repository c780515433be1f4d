/- Parts of one proof. No condition but those that each theorem names. -/
import Derived.Test.YtoegffiapnnkiaaGreatPE28
import Derived.Test.YtoegffiapnnkiaaGreatPE32
namespace Go.Proofs.YtoegffiapnnkiaaGreat.Abs
open Go
set_option linter.unusedVariables false
set_option linter.unusedSimpArgs false
set_option maxRecDepth 100000
set_option maxHeartbeats 4000000
attribute [local irreducible] W Cl Bd
variable {g:Cg} {V:K→Option (List AV)}
theorem caches_c (G:EvG g) {k jr km:K} {T:Table} {e:Ev} (hT:T.Ok V) (hn:T.states.l.length≤1000) (hn2:∀s∈T.states.l,s.l.length≤1000) (hk:V k=some (evC T jr km e)) (L:List Ent) (c:Nat) :
    Cl Tryz.prog g V 54 [.ptr (some (k,0))] [(km,.mp (L.map entA) c)] fun o Δ=>∃js,o=.ret (.slice (some (js,0)) T.states.l.length (.ex T.states.l.length))∧∃kr:KR,kr.map (·.2)=matF (lkE L) 0 T.states.l∧Δ=(js,.cells (kr.map krH) 168 1 true)::(km,.mp (L.map entA) c)::krD kr:=by
  refine Cl.enter G.caches Tryz.func54 rfl ?_
  repeat first|refine W.ldV tblOk rfl rfl rfl hk rfl ?_|(refine W.mkE (len:=T.states.l.length) (cap:=T.states.l.length) tblOk rfl rfl rfl rfl rfl (Nat.le_refl _) (by omega) (by decide) rfl rfl ?_;intro js)|(with_reducible first|refine za ?_|refine zb ?_|refine zc ?_)|refine ym zr ?_|refine yn 0 zr ?_|refine yn 1 zr ?_|refine yn 2 zr ?_|refine yn 3 zr ?_|(refine yo zr ?_;intro _)|(refine yp zr ?_;intro _)|refine yq zr ?_|refine ys zr ?_|refine yu zr ?_|refine yv zr ?_|(with_reducible first|refine zd ?_|refine ze ?_|refine zf ?_|refine zg ?_|refine zh ?_|refine zi ?_|refine zj ?_|refine zk ?_|refine zl ?_)|refine zz zr ?_|refine zw (by decide +kernel) ?_|refine zx zr zr zr ?_|refine zy zr zr ?_|refine W.condT zr ?_|refine W.condF zr ?_
  rw [repL_one]
  refine W.loopR (α:={ q:Nat×KR // q.1≤T.states.l.length∧q.2.length=q.1∧q.2.map (·.2)=matF (lkE L) 0 (T.states.l.take q.1) }) (fun q=>T.states.l.length-q.1.1) (fun q=>[(0,.ptr (some (k,0))),(3,.slice (some (js,0)) T.states.l.length (.ex T.states.l.length)),(18,T.states.v),(19,.int .i64 (T.states.l.length:Int)),(20,.int .i64 (q.1.1:Int))])
    (fun q=>(js,.cells (q.1.2.map krH++List.replicate (T.states.l.length-q.1.1) (.slice none 0 (.ex 0))) 168 1 true)::(km,.mp (L.map entA) c)::krD q.1.2) ⟨(0,[]),Nat.zero_le _,rfl,rfl⟩ ⟨rfl,rfl,rfl,rfl,rfl⟩ (List.Sublist.refl _) ?_
  rintro ⟨⟨i,kr⟩,hi1,hi2,hi3⟩ ih
  simp only at ih hi1 hi2 hi3 ⊢
  repeat first|(with_reducible first|refine za ?_|refine zb ?_|refine zc ?_)|refine ym zr ?_|refine yn 0 zr ?_|refine yn 1 zr ?_|refine yn 2 zr ?_|refine yn 3 zr ?_|(refine yo zr ?_;intro _)|(refine yp zr ?_;intro _)|refine yq zr ?_|refine ys zr ?_|refine yu zr ?_|refine yv zr ?_|(with_reducible first|refine zd ?_|refine ze ?_|refine zf ?_|refine zg ?_|refine zh ?_|refine zi ?_|refine zj ?_|refine zk ?_|refine zl ?_)|refine zz zr ?_|refine zw (by decide +kernel) ?_|refine zx zr zr zr ?_|refine zy zr zr ?_|refine W.condT zr ?_|refine W.condF zr ?_
  refine W.condP rfl ?_ ?_<;>intro hlt
  rotate_left
  · clear ih
    have hi:i=T.states.l.length:=by omega
    rw [hi,List.take_length] at hi3
    rw [hi,Nat.sub_self,List.replicate_zero,List.append_nil]
    repeat' first|(with_reducible first|refine za ?_|refine zb ?_|refine zc ?_)|refine ym zr ?_|refine yn 0 zr ?_|refine yn 1 zr ?_|refine yn 2 zr ?_|refine yn 3 zr ?_|(refine yo zr ?_;intro _)|(refine yp zr ?_;intro _)|refine yq zr ?_|refine ys zr ?_|refine yu zr ?_|refine yv zr ?_|(with_reducible first|refine zd ?_|refine ze ?_|refine zf ?_|refine zg ?_|refine zh ?_|refine zi ?_|refine zj ?_|refine zk ?_|refine zl ?_)|refine zz zr ?_|refine zw (by decide +kernel) ?_|refine zx zr zr zr ?_|refine zy zr zr ?_|(refine W.condP zr ?_ ?_<;>intro _)|refine W.condT zr ?_|refine W.condF zr ?_|(refine W.cond zr ?_ ?_<;>intro _)|(refine W.gs zr zr zr zr ?_ ?_<;>intro _)|(refine W.gsB zr zr zr zr ?_ ?_<;>intro _)|refine W.done zr ?_|refine W.doneN zr ?_
    exact ⟨js,rfl,kr,hi3,rfl⟩
  have hlt:i<T.states.l.length:=by omega
  have hlt0:(i:Int)<(T.states.l.length:Int):=by omega
  have hi0:(0:Int)≤(i:Int):=by omega
  obtain ⟨jn,o,cs,ha,hV,hpt⟩:=Sl.In.get hT.states.2.1 hlt
  have hll:=hn2 _ (List.getElem_mem hlt)
  have htk:=matF_take (lkE L) hlt
  generalize T.states.l[i]=l at hpt hll htk
  have erep:List.replicate (T.states.l.length-i) (AV.slice none 0 (.ex 0))=.slice none 0 (.ex 0)::List.replicate (T.states.l.length-(i+1)) (AV.slice none 0 (.ex 0)):=by
    rw [show T.states.l.length-i=(T.states.l.length-(i+1))+1 by omega,List.replicate_succ]
  rw [erep]
  have hxl:(kr.map krH).length=i:=by rw [List.length_map];exact hi2
  have ewi:IntKind.i64.wrap ((i:Int)+1)=((i+1:Nat):Int):=by rw [w64 (by omega) (by omega)];omega
  repeat first|refine W.ia tblOk rfl rfl rfl rfl rfl rfl ha hi0 hlt0 ?_|refine W.ldV tblOk rfl rfl rfl hV hpt ?_|(with_reducible first|refine za ?_|refine zb ?_|refine zc ?_)|refine ym zr ?_|refine yn 0 zr ?_|refine yn 1 zr ?_|refine yn 2 zr ?_|refine yn 3 zr ?_|(refine yo zr ?_;intro _)|(refine yp zr ?_;intro _)|refine yq zr ?_|refine ys zr ?_|refine yu zr ?_|refine yv zr ?_|(with_reducible first|refine zd ?_|refine ze ?_|refine zf ?_|refine zg ?_|refine zh ?_|refine zi ?_|refine zj ?_|refine zk ?_|refine zl ?_)|refine zz zr ?_|refine zw (by decide +kernel) ?_|refine zx zr zr zr ?_|refine zy zr zr ?_|refine W.condT zr ?_|refine W.condF zr ?_
  refine W.loopR (α:={ q:Nat×K // q.1≤l.l.length }) (fun q=>l.l.length-q.1.1) (fun q=>[(0,.ptr (some (k,0))),(3,.slice (some (js,0)) T.states.l.length (.ex T.states.l.length)),(4,.int .i64 (i:Int)),(18,T.states.v),(19,.int .i64 (T.states.l.length:Int)),(20,.int .i64 (i:Int)),(26,.int .i64 (l.l.length:Int)),(27,.int .i64 (q.1.1:Int))])
    (fun q=>(js,.cells (kr.map krH++krH (q.1.2,rowM (lkE L) i q.1.1)::List.replicate (T.states.l.length-(i+1)) (.slice none 0 (.ex 0))) 168 1 true)::(km,.mp (L.map entA) c)::(gD Cch.cs 170 3 q.1.2 (rowM (lkE L) i q.1.1)++krD kr)) ⟨(0,.z),Nat.zero_le _⟩ ⟨rfl,rfl,rfl,rfl,rfl,rfl,rfl,rfl⟩ (List.Sublist.refl _) ?_
  rintro ⟨⟨m,j'⟩,hm⟩ ih2
  simp only at ih2 hm ⊢
  repeat first|(with_reducible first|refine za ?_|refine zb ?_|refine zc ?_)|refine ym zr ?_|refine yn 0 zr ?_|refine yn 1 zr ?_|refine yn 2 zr ?_|refine yn 3 zr ?_|(refine yo zr ?_;intro _)|(refine yp zr ?_;intro _)|refine yq zr ?_|refine ys zr ?_|refine yu zr ?_|refine yv zr ?_|(with_reducible first|refine zd ?_|refine ze ?_|refine zf ?_|refine zg ?_|refine zh ?_|refine zi ?_|refine zj ?_|refine zk ?_|refine zl ?_)|refine zz zr ?_|refine zw (by decide +kernel) ?_|refine zx zr zr zr ?_|refine zy zr zr ?_|refine W.condT zr ?_|refine W.condF zr ?_
  refine W.condP rfl ?_ ?_<;>intro hlt2
  rotate_left
  · clear ih2
    have hml:m=l.l.length:=by omega
    repeat first|(with_reducible first|refine za ?_|refine zb ?_|refine zc ?_)|refine ym zr ?_|refine yn 0 zr ?_|refine yn 1 zr ?_|refine yn 2 zr ?_|refine yn 3 zr ?_|(refine yo zr ?_;intro _)|(refine yp zr ?_;intro _)|refine yq zr ?_|refine ys zr ?_|refine yu zr ?_|refine yv zr ?_|(with_reducible first|refine zd ?_|refine ze ?_|refine zf ?_|refine zg ?_|refine zh ?_|refine zi ?_|refine zj ?_|refine zk ?_|refine zl ?_)|refine zz zr ?_|refine zw (by decide +kernel) ?_|refine zx zr zr zr ?_|refine zy zr zr ?_|refine W.condT zr ?_|refine W.condF zr ?_
    rw [ewi]
    have h9:=ih ⟨(i+1,kr++[(j',rowM (lkE L) i m)]),by show i+1≤_;omega,by show (kr++[_]).length=i+1;simp [hi2],by rw [List.map_append,hi3,htk,hml];rfl⟩ (by show T.states.l.length-(i+1)<T.states.l.length-i;omega)
    simp only [List.map_append,List.map_cons,List.map_nil,List.append_assoc,List.singleton_append] at h9
    refine W.perm _ (.cons _ (.cons _ ?_)) (W.weak _ _ ?_ (List.Sublist.refl _) h9)
    · show (krD (kr++[(j',rowM (lkE L) i m)])).Perm _
      unfold krD
      rw [List.flatMap_append,List.flatMap_cons,List.flatMap_nil,List.append_nil]
      exact List.perm_append_comm
    · exact ⟨rfl,rfl,rfl,rfl,rfl⟩
  have hlt2:m<l.l.length:=by omega
  have ewm:IntKind.i64.wrap ((m:Int)+1)=((m+1:Nat):Int):=by rw [w64 (by omega) (by omega)];omega
  have hget:=cell_get (t:=168) rfl (zs:=List.replicate (T.states.l.length-(i+1)) (AV.slice none 0 (.ex 0))) hxl (krH (j',rowM (lkE L) i m))
  have hnext:=fun n6=>ih2 ⟨(m+1,n6),hlt2⟩ (by show l.l.length-(m+1)<l.l.length-m;omega)
  simp only [rowM_succ] at hnext
  clear ih ih2
  repeat first|(with_reducible first|refine za ?_|refine zb ?_|refine zc ?_)|refine ym zr ?_|refine yn 0 zr ?_|refine yn 1 zr ?_|refine yn 2 zr ?_|refine yn 3 zr ?_|(refine yo zr ?_;intro _)|(refine yp zr ?_;intro _)|refine yq zr ?_|refine ys zr ?_|refine yu zr ?_|refine yv zr ?_|(with_reducible first|refine zd ?_|refine ze ?_|refine zf ?_|refine zg ?_|refine zh ?_|refine zi ?_|refine zj ?_|refine zk ?_|refine zl ?_)|refine zz zr ?_|refine zw (by decide +kernel) ?_|refine zx zr zr zr ?_|refine zy zr zr ?_|refine W.condT zr ?_|refine W.condF zr ?_
  refine W.drawG _ [(5,13,15)] 0 (by decide +kernel) tbl tblOk ⟨⟨_,_,_,js,0+(i:Int).toNat * 1,krH (j',rowM (lkE L) i m),rfl,rfl,sl_same _,?_,?_⟩,trivial⟩ (.inl rfl) ?_
  · show W _ _ _ _ _ [.o false _ [_,_,_,_,_]] _ _ _ _
    repeat' first|refine W.ia tblOk rfl rfl rfl rfl rfl rfl rfl hi0 hlt0 ?_|(with_reducible first|refine za ?_|refine zb ?_|refine zc ?_)|refine ym zr ?_|refine yn 0 zr ?_|refine yn 1 zr ?_|refine yn 2 zr ?_|refine yn 3 zr ?_|(refine yo zr ?_;intro _)|(refine yp zr ?_;intro _)|refine yq zr ?_|refine ys zr ?_|refine yu zr ?_|refine yv zr ?_|(with_reducible first|refine zd ?_|refine ze ?_|refine zf ?_|refine zg ?_|refine zh ?_|refine zi ?_|refine zj ?_|refine zk ?_|refine zl ?_)|refine zz zr ?_|refine zw (by decide +kernel) ?_|refine zx zr zr zr ?_|refine zy zr zr ?_|(refine W.condP zr ?_ ?_<;>intro _)|refine W.condT zr ?_|refine W.condF zr ?_|(refine W.cond zr ?_ ?_<;>intro _)|(refine W.gs zr zr zr zr ?_ ?_<;>intro _)|(refine W.gsB zr zr zr zr ?_ ?_<;>intro _)|refine W.done zr ?_|refine W.doneN zr ?_
    exact ⟨rfl,_,_,.head _,rfl,hget⟩
  · intro j hj1 hj2
    obtain rfl|rfl|rfl:j=13∨j=14∨j=15:=by have h1:13≤j:=hj1;have h2:j≤15:=hj2;omega
    · show W _ _ _ _ _ [.o false _ [_,_,_,_,_,_,_,_,_,_,_,_,_]] _ _ _ _
      repeat' first|refine W.ia tblOk rfl rfl rfl rfl rfl rfl rfl hi0 hlt0 ?_|refine W.ldO tblOk 0 rfl rfl rfl hget rfl rfl ?_|refine W.ldV tblOk rfl rfl rfl hk rfl ?_|(with_reducible first|refine za ?_|refine zb ?_|refine zc ?_)|refine ym zr ?_|refine yn 0 zr ?_|refine yn 1 zr ?_|refine yn 2 zr ?_|refine yn 3 zr ?_|(refine yo zr ?_;intro _)|(refine yp zr ?_;intro _)|refine yq zr ?_|refine ys zr ?_|refine yu zr ?_|refine yv zr ?_|(with_reducible first|refine zd ?_|refine ze ?_|refine zf ?_|refine zg ?_|refine zh ?_|refine zi ?_|refine zj ?_|refine zk ?_|refine zl ?_)|refine zz zr ?_|refine zw (by decide +kernel) ?_|refine zx zr zr zr ?_|refine zy zr zr ?_|(refine W.condP zr ?_ ?_<;>intro _)|refine W.condT zr ?_|refine W.condF zr ?_|(refine W.cond zr ?_ ?_<;>intro _)|(refine W.gs zr zr zr zr ?_ ?_<;>intro _)|(refine W.gsB zr zr zr zr ?_ ?_<;>intro _)|refine W.done zr ?_|refine W.doneN zr ?_
      exact ⟨_,_,.head _,rfl,hget⟩
    · show W _ _ _ _ _ [.o false _ [_,_,_,_,_,_,_,_,_,_,_,_,_,_]] _ _ _ _
      repeat' first|refine W.ia tblOk rfl rfl rfl rfl rfl rfl rfl hi0 hlt0 ?_|refine W.ldO tblOk 0 rfl rfl rfl hget rfl rfl ?_|refine W.ldV tblOk rfl rfl rfl hk rfl ?_|refine W.lkp 1 rfl rfl rfl (lkp_pl _ _) rfl rfl ?_|(with_reducible first|refine za ?_|refine zb ?_|refine zc ?_)|refine ym zr ?_|refine yn 0 zr ?_|refine yn 1 zr ?_|refine yn 2 zr ?_|refine yn 3 zr ?_|(refine yo zr ?_;intro _)|(refine yp zr ?_;intro _)|refine yq zr ?_|refine ys zr ?_|refine yu zr ?_|refine yv zr ?_|(with_reducible first|refine zd ?_|refine ze ?_|refine zf ?_|refine zg ?_|refine zh ?_|refine zi ?_|refine zj ?_|refine zk ?_|refine zl ?_)|refine zz zr ?_|refine zw (by decide +kernel) ?_|refine zx zr zr zr ?_|refine zy zr zr ?_|(refine W.condP zr ?_ ?_<;>intro _)|refine W.condT zr ?_|refine W.condF zr ?_|(refine W.cond zr ?_ ?_<;>intro _)|(refine W.gs zr zr zr zr ?_ ?_<;>intro _)|(refine W.gsB zr zr zr zr ?_ ?_<;>intro _)|refine W.done zr ?_|refine W.doneN zr ?_
      exact ⟨_,_,.head _,rfl,hget⟩
    · show W _ _ _ _ _ [.o false _ [_,_,_,_,_,_,_,_,_,_,_,_,_,_,_]] _ _ _ _
      repeat' first|refine W.ia tblOk rfl rfl rfl rfl rfl rfl rfl hi0 hlt0 ?_|refine W.ldO tblOk 0 rfl rfl rfl hget rfl rfl ?_|refine W.ldV tblOk rfl rfl rfl hk rfl ?_|refine W.lkp 1 rfl rfl rfl (lkp_pl _ _) rfl rfl ?_|(refine W.bsl tblOk rfl rfl rfl rfl (by decide) rfl rfl rfl ?_;intro i9)|(with_reducible first|refine za ?_|refine zb ?_|refine zc ?_)|refine ym zr ?_|refine yn 0 zr ?_|refine yn 1 zr ?_|refine yn 2 zr ?_|refine yn 3 zr ?_|(refine yo zr ?_;intro _)|(refine yp zr ?_;intro _)|refine yq zr ?_|refine ys zr ?_|refine yu zr ?_|refine yv zr ?_|(with_reducible first|refine zd ?_|refine ze ?_|refine zf ?_|refine zg ?_|refine zh ?_|refine zi ?_|refine zj ?_|refine zk ?_|refine zl ?_)|refine zz zr ?_|refine zw (by decide +kernel) ?_|refine zx zr zr zr ?_|refine zy zr zr ?_|(refine W.condP zr ?_ ?_<;>intro _)|refine W.condT zr ?_|refine W.condF zr ?_|(refine W.cond zr ?_ ?_<;>intro _)|(refine W.gs zr zr zr zr ?_ ?_<;>intro _)|(refine W.gsB zr zr zr zr ?_ ?_<;>intro _)|refine W.done zr ?_|refine W.doneN zr ?_
      exact ⟨_,_,.tail _ (.head _),rfl,hget⟩
  repeat first|refine W.ia tblOk rfl rfl rfl rfl rfl rfl rfl hi0 hlt0 ?_|refine W.ldO tblOk 0 rfl rfl rfl hget rfl rfl ?_|refine W.ldV tblOk rfl rfl rfl hk rfl ?_|refine W.lkp 1 rfl rfl rfl (lkp_pl _ _) rfl rfl ?_|(refine W.bsl tblOk rfl rfl rfl rfl (by decide) rfl rfl rfl ?_;intro i9)|(with_reducible first|refine za ?_|refine zb ?_|refine zc ?_)|refine ym zr ?_|refine yn 0 zr ?_|refine yn 1 zr ?_|refine yn 2 zr ?_|refine yn 3 zr ?_|(refine yo zr ?_;intro _)|(refine yp zr ?_;intro _)|refine yq zr ?_|refine ys zr ?_|refine yu zr ?_|refine yv zr ?_|(with_reducible first|refine zd ?_|refine ze ?_|refine zf ?_|refine zg ?_|refine zh ?_|refine zi ?_|refine zj ?_|refine zk ?_|refine zl ?_)|refine zz zr ?_|refine zw (by decide +kernel) ?_|refine zx zr zr zr ?_|refine zy zr zr ?_|refine W.condT zr ?_|refine W.condF zr ?_
  generalize (lkE L (i:Int) (m:Int)).getD Cch.none=v at hnext ⊢
  have hml:(rowM (lkE L) i m).length=m:=by unfold rowM;rw [List.length_map,List.length_range]
  generalize rowM (lkE L) i m=row at hget hnext hml ⊢
  refine W.appG (i:=j') (l:=row) (m:=[v]) (enc:=Cch.cs) (Δ1:=[_,_,_]) tblOk rfl rfl rfl rfl rfl rfl rfl (by decide) (by simp only [List.length_singleton,hml];omega) (fun _=>rfl) (src_own (p:=0) rfl rfl rfl) (fun h=>by cases h) (leaf_all _ leafC _) rfl rfl fun n6=>?_
  have hset:=cell_set (zs:=List.replicate (T.states.l.length-(i+1)) (AV.slice none 0 (.ex 0))) hxl (krH (j',row)) (krH (n6,row++[v]))
  repeat first|refine W.ia tblOk rfl rfl rfl rfl rfl rfl rfl hi0 hlt0 ?_|(refine W.fr1 ?_;refine W.stF tblOk rfl rfl rfl rfl rfl rfl rfl hset ?_)|(with_reducible first|refine za ?_|refine zb ?_|refine zc ?_)|refine ym zr ?_|refine yn 0 zr ?_|refine yn 1 zr ?_|refine yn 2 zr ?_|refine yn 3 zr ?_|(refine yo zr ?_;intro _)|(refine yp zr ?_;intro _)|refine yq zr ?_|refine ys zr ?_|refine yu zr ?_|refine yv zr ?_|(with_reducible first|refine zd ?_|refine ze ?_|refine zf ?_|refine zg ?_|refine zh ?_|refine zi ?_|refine zj ?_|refine zk ?_|refine zl ?_)|refine zz zr ?_|refine zw (by decide +kernel) ?_|refine zx zr zr zr ?_|refine zy zr zr ?_|refine W.condT zr ?_|refine W.condF zr ?_
  rw [ewm]
  exact W.wk (hnext n6) ⟨rfl,rfl,rfl,rfl,rfl,rfl,rfl,rfl⟩ (.cons_cons _ (.cons _ (List.Sublist.refl _)))
theorem eqCch_self (a:Bool) (b c:Int):eqStr Tryz.prog 170 (.agg [.bool a,.int .i64 b,.int .i64 c]) (.agg [.bool a,.int .i64 b,.int .i64 c])=some true:=by
  have e:eqStr Tryz.prog 170 (.agg [.bool a,.int .i64 b,.int .i64 c]) (.agg [.bool a,.int .i64 b,.int .i64 c])=some (ieqb b b&&(ieqb c c&&true)):=by cases a<;>kernel_rfl
  rw [e,ieqb_eq,ieqb_eq,beq_self_eq_true,beq_self_eq_true];rfl
theorem sameKnown_c (hp:Plain g 55=true) {a b:Sl (Sl Cch)} (ha:a.In V false 1 Sl.v) (hb:b.In V false 1 Sl.v) (har:∀r∈a.l,r.In V true 3 Cch.av∧r.l.length≤1000) (hbr:∀r∈b.l,r.In V true 3 Cch.av) (h:a.l.map (·.l)=b.l.map (·.l)) (hl:a.l.length≤1000) :
    Cl Tryz.prog g V 55 [a.v,b.v] [] fun o _=>o=.ret (.bool true):=by
  refine Cl.enter hp Tryz.func55 rfl ?_
  have hlen:a.l.length=b.l.length:=by have:=congrArg List.length h;simpa using this
  have hlen2:(a.l.length:Int)=(b.l.length:Int):=by omega
  repeat first|(with_reducible first|refine za ?_|refine zb ?_|refine zc ?_)|refine ym zr ?_|refine yn 0 zr ?_|refine yn 1 zr ?_|refine yn 2 zr ?_|refine yn 3 zr ?_|(refine yo zr ?_;intro _)|(refine yp zr ?_;intro _)|refine yq zr ?_|refine ys zr ?_|refine yu zr ?_|refine yv zr ?_|(with_reducible first|refine zd ?_|refine ze ?_|refine zf ?_|refine zg ?_|refine zh ?_|refine zi ?_|refine zj ?_|refine zk ?_|refine zl ?_)|refine zz zr ?_|refine zw (by decide +kernel) ?_|refine zx zr zr zr ?_|refine zy zr zr ?_|refine W.condT zr ?_|refine W.condF zr ?_
  refine W.condP rfl (fun h=>absurd hlen2 h) (fun _=>?_)
  repeat first|(with_reducible first|refine za ?_|refine zb ?_|refine zc ?_)|refine ym zr ?_|refine yn 0 zr ?_|refine yn 1 zr ?_|refine yn 2 zr ?_|refine yn 3 zr ?_|(refine yo zr ?_;intro _)|(refine yp zr ?_;intro _)|refine yq zr ?_|refine ys zr ?_|refine yu zr ?_|refine yv zr ?_|(with_reducible first|refine zd ?_|refine ze ?_|refine zf ?_|refine zg ?_|refine zh ?_|refine zi ?_|refine zj ?_|refine zk ?_|refine zl ?_)|refine zz zr ?_|refine zw (by decide +kernel) ?_|refine zx zr zr zr ?_|refine zy zr zr ?_|refine W.condT zr ?_|refine W.condF zr ?_
  refine W.loopR (α:={ i:Nat // i≤a.l.length }) (fun i=>a.l.length-i.1) (fun i=>[(0,a.v),(1,b.v),(5,.int .i64 (i.1:Int))]) (fun _=>[]) ⟨0,Nat.zero_le _⟩ ⟨rfl,rfl,rfl⟩ (List.Sublist.refl _) ?_
  rintro ⟨i,hi⟩ ih
  simp only at ih hi ⊢
  by_cases hlt:i<a.l.length
  rotate_left
  · clear ih
    repeat first|(with_reducible first|refine za ?_|refine zb ?_|refine zc ?_)|refine ym zr ?_|refine yn 0 zr ?_|refine yn 1 zr ?_|refine yn 2 zr ?_|refine yn 3 zr ?_|(refine yo zr ?_;intro _)|(refine yp zr ?_;intro _)|refine yq zr ?_|refine ys zr ?_|refine yu zr ?_|refine yv zr ?_|(with_reducible first|refine zd ?_|refine ze ?_|refine zf ?_|refine zg ?_|refine zh ?_|refine zi ?_|refine zj ?_|refine zk ?_|refine zl ?_)|refine zz zr ?_|refine zw (by decide +kernel) ?_|refine zx zr zr zr ?_|refine zy zr zr ?_|refine W.condT zr ?_|refine W.condF zr ?_
    refine W.condP rfl (fun h=>absurd h (by omega)) (fun _=>?_)
    repeat' first|(with_reducible first|refine za ?_|refine zb ?_|refine zc ?_)|refine ym zr ?_|refine yn 0 zr ?_|refine yn 1 zr ?_|refine yn 2 zr ?_|refine yn 3 zr ?_|(refine yo zr ?_;intro _)|(refine yp zr ?_;intro _)|refine yq zr ?_|refine ys zr ?_|refine yu zr ?_|refine yv zr ?_|(with_reducible first|refine zd ?_|refine ze ?_|refine zf ?_|refine zg ?_|refine zh ?_|refine zi ?_|refine zj ?_|refine zk ?_|refine zl ?_)|refine zz zr ?_|refine zw (by decide +kernel) ?_|refine zx zr zr zr ?_|refine zy zr zr ?_|(refine W.condP zr ?_ ?_<;>intro _)|refine W.condT zr ?_|refine W.condF zr ?_|(refine W.cond zr ?_ ?_<;>intro _)|(refine W.gs zr zr zr zr ?_ ?_<;>intro _)|(refine W.gsB zr zr zr zr ?_ ?_<;>intro _)|refine W.done zr ?_|refine W.doneN zr ?_
    rfl
  have hi0:(0:Int)≤(i:Int):=by omega
  have hi1:(i:Int)<(a.l.length:Int):=by omega
  have hi2:(i:Int)<(b.l.length:Int):=by omega
  have hltb:i<b.l.length:=by omega
  have ewi:IntKind.i64.wrap ((i:Int)+1)=((i+1:Nat):Int):=by rw [w64 (by omega) (by omega)];omega
  obtain ⟨j1,o1,c1,ha1,hV1,hp1⟩:=Sl.In.get ha hlt
  obtain ⟨j2,o2,c2,ha2,hV2,hp2⟩:=Sl.In.get hb hltb
  have hx:=har _ (List.getElem_mem hlt)
  have hy:=hbr _ (List.getElem_mem hltb)
  have hxy:a.l[i].l=b.l[i].l:=by
    have:=congrArg (fun l=>l[i]?) h
    simp only [List.getElem?_map,List.getElem?_eq_getElem hlt,List.getElem?_eq_getElem hltb,Option.map_some,Option.some.injEq] at this
    exact this
  have hnext:=ih ⟨i+1,hlt⟩ (by show a.l.length-(i+1)<a.l.length-i;omega)
  clear ih
  generalize a.l[i]=x at hp1 hx hxy
  generalize b.l[i]=y at hp2 hy hxy
  have hxl:(x.l.length:Int)=(y.l.length:Int):=by rw [hxy]
  have hx2:=hx.2
  repeat first|(with_reducible first|refine za ?_|refine zb ?_|refine zc ?_)|refine ym zr ?_|refine yn 0 zr ?_|refine yn 1 zr ?_|refine yn 2 zr ?_|refine yn 3 zr ?_|(refine yo zr ?_;intro _)|(refine yp zr ?_;intro _)|refine yq zr ?_|refine ys zr ?_|refine yu zr ?_|refine yv zr ?_|(with_reducible first|refine zd ?_|refine ze ?_|refine zf ?_|refine zg ?_|refine zh ?_|refine zi ?_|refine zj ?_|refine zk ?_|refine zl ?_)|refine zz zr ?_|refine zw (by decide +kernel) ?_|refine zx zr zr zr ?_|refine zy zr zr ?_|refine W.condT zr ?_|refine W.condF zr ?_
  refine W.condP rfl (fun _=>?_) (fun h=>absurd hi1 h)
  repeat first|refine W.ia tblOk rfl rfl rfl rfl rfl rfl ha1 hi0 hi1 ?_|refine W.ldV tblOk rfl rfl rfl hV1 hp1 ?_|refine W.ia tblOk rfl rfl rfl rfl rfl rfl ha2 hi0 hi2 ?_|refine W.ldV tblOk rfl rfl rfl hV2 hp2 ?_|(with_reducible first|refine za ?_|refine zb ?_|refine zc ?_)|refine ym zr ?_|refine yn 0 zr ?_|refine yn 1 zr ?_|refine yn 2 zr ?_|refine yn 3 zr ?_|(refine yo zr ?_;intro _)|(refine yp zr ?_;intro _)|refine yq zr ?_|refine ys zr ?_|refine yu zr ?_|refine yv zr ?_|(with_reducible first|refine zd ?_|refine ze ?_|refine zf ?_|refine zg ?_|refine zh ?_|refine zi ?_|refine zj ?_|refine zk ?_|refine zl ?_)|refine zz zr ?_|refine zw (by decide +kernel) ?_|refine zx zr zr zr ?_|refine zy zr zr ?_|refine W.condT zr ?_|refine W.condF zr ?_
  refine W.condP rfl (fun h=>absurd hxl h) (fun _=>?_)
  repeat first|(with_reducible first|refine za ?_|refine zb ?_|refine zc ?_)|refine ym zr ?_|refine yn 0 zr ?_|refine yn 1 zr ?_|refine yn 2 zr ?_|refine yn 3 zr ?_|(refine yo zr ?_;intro _)|(refine yp zr ?_;intro _)|refine yq zr ?_|refine ys zr ?_|refine yu zr ?_|refine yv zr ?_|(with_reducible first|refine zd ?_|refine ze ?_|refine zf ?_|refine zg ?_|refine zh ?_|refine zi ?_|refine zj ?_|refine zk ?_|refine zl ?_)|refine zz zr ?_|refine zw (by decide +kernel) ?_|refine zx zr zr zr ?_|refine zy zr zr ?_|refine W.condT zr ?_|refine W.condF zr ?_
  refine W.loopR (α:={ k:Nat // k≤x.l.length }) (fun k=>x.l.length-k.1) (fun k=>[(0,a.v),(1,b.v),(5,.int .i64 (i:Int)),(6,.int .i64 (k.1:Int))]) (fun _=>[]) ⟨0,Nat.zero_le _⟩ ⟨rfl,rfl,rfl,rfl⟩ (List.Sublist.refl _) ?_
  rintro ⟨k,hk⟩ ih2
  simp only at ih2 hk ⊢
  by_cases hltk:k<x.l.length
  · have hk0:(0:Int)≤(k:Int):=by omega
    have hk1:(k:Int)<(x.l.length:Int):=by omega
    have hk2:(k:Int)<(y.l.length:Int):=by omega
    have ewk:IntKind.i64.wrap ((k:Int)+1)=((k+1:Nat):Int):=by rw [w64 (by omega) (by omega)];omega
    obtain ⟨j3,o3,c3,ha3,hV3,hp3⟩:=Sl.In.get hx.1 hltk
    obtain ⟨j4,o4,c4,ha4,hV4,hp4⟩:=Sl.In.get hy (i:=k) (by rw [←hxy];exact hltk)
    have hxyk:y.l[k]'(by rw [←hxy];exact hltk)=x.l[k]:=by simp only [hxy]
    rw [hxyk] at hp4
    have hnext2:=ih2 ⟨k+1,hltk⟩ (by show x.l.length-(k+1)<x.l.length-k;omega)
    clear ih2 hnext
    generalize x.l[k]=v at hp3 hp4
    repeat first|refine W.ia tblOk rfl rfl rfl rfl rfl rfl ha1 hi0 hi1 ?_|refine W.ldV tblOk rfl rfl rfl hV1 hp1 ?_|(with_reducible first|refine za ?_|refine zb ?_|refine zc ?_)|refine ym zr ?_|refine yn 0 zr ?_|refine yn 1 zr ?_|refine yn 2 zr ?_|refine yn 3 zr ?_|(refine yo zr ?_;intro _)|(refine yp zr ?_;intro _)|refine yq zr ?_|refine ys zr ?_|refine yu zr ?_|refine yv zr ?_|(with_reducible first|refine zd ?_|refine ze ?_|refine zf ?_|refine zg ?_|refine zh ?_|refine zi ?_|refine zj ?_|refine zk ?_|refine zl ?_)|refine zz zr ?_|refine zw (by decide +kernel) ?_|refine zx zr zr zr ?_|refine zy zr zr ?_|refine W.condT zr ?_|refine W.condF zr ?_
    refine W.condP rfl (fun _=>?_) (fun h=>absurd hk1 h)
    repeat first|refine W.ia tblOk rfl rfl rfl rfl rfl rfl ha1 hi0 hi1 ?_|refine W.ldV tblOk rfl rfl rfl hV1 hp1 ?_|refine W.ia tblOk rfl rfl rfl rfl rfl rfl ha2 hi0 hi2 ?_|refine W.ldV tblOk rfl rfl rfl hV2 hp2 ?_|refine W.ia tblOk rfl rfl rfl rfl rfl rfl ha3 hk0 hk1 ?_|refine W.ldV tblOk rfl rfl rfl hV3 hp3 ?_|refine W.ia tblOk rfl rfl rfl rfl rfl rfl ha4 hk0 hk2 ?_|refine W.ldV tblOk rfl rfl rfl hV4 hp4 ?_|refine W.neS tblOk rfl rfl rfl rfl rfl (eqCch_self ..) ?_|refine W.condF rfl ?_|(with_reducible first|refine za ?_|refine zb ?_|refine zc ?_)|refine ym zr ?_|refine yn 0 zr ?_|refine yn 1 zr ?_|refine yn 2 zr ?_|refine yn 3 zr ?_|(refine yo zr ?_;intro _)|(refine yp zr ?_;intro _)|refine yq zr ?_|refine ys zr ?_|refine yu zr ?_|refine yv zr ?_|(with_reducible first|refine zd ?_|refine ze ?_|refine zf ?_|refine zg ?_|refine zh ?_|refine zi ?_|refine zj ?_|refine zk ?_|refine zl ?_)|refine zz zr ?_|refine zw (by decide +kernel) ?_|refine zx zr zr zr ?_|refine zy zr zr ?_|refine W.condT zr ?_|refine W.condF zr ?_
    rw [ewk]
    exact W.wk hnext2 ⟨rfl,rfl,rfl,rfl⟩ (List.Sublist.refl _)
  · clear ih2
    repeat first|refine W.ia tblOk rfl rfl rfl rfl rfl rfl ha1 hi0 hi1 ?_|refine W.ldV tblOk rfl rfl rfl hV1 hp1 ?_|(with_reducible first|refine za ?_|refine zb ?_|refine zc ?_)|refine ym zr ?_|refine yn 0 zr ?_|refine yn 1 zr ?_|refine yn 2 zr ?_|refine yn 3 zr ?_|(refine yo zr ?_;intro _)|(refine yp zr ?_;intro _)|refine yq zr ?_|refine ys zr ?_|refine yu zr ?_|refine yv zr ?_|(with_reducible first|refine zd ?_|refine ze ?_|refine zf ?_|refine zg ?_|refine zh ?_|refine zi ?_|refine zj ?_|refine zk ?_|refine zl ?_)|refine zz zr ?_|refine zw (by decide +kernel) ?_|refine zx zr zr zr ?_|refine zy zr zr ?_|refine W.condT zr ?_|refine W.condF zr ?_
    refine W.condP rfl (fun h=>absurd h (by omega)) (fun _=>?_)
    repeat first|(with_reducible first|refine za ?_|refine zb ?_|refine zc ?_)|refine ym zr ?_|refine yn 0 zr ?_|refine yn 1 zr ?_|refine yn 2 zr ?_|refine yn 3 zr ?_|(refine yo zr ?_;intro _)|(refine yp zr ?_;intro _)|refine yq zr ?_|refine ys zr ?_|refine yu zr ?_|refine yv zr ?_|(with_reducible first|refine zd ?_|refine ze ?_|refine zf ?_|refine zg ?_|refine zh ?_|refine zi ?_|refine zj ?_|refine zk ?_|refine zl ?_)|refine zz zr ?_|refine zw (by decide +kernel) ?_|refine zx zr zr zr ?_|refine zy zr zr ?_|refine W.condT zr ?_|refine W.condF zr ?_
    rw [ewi]
    exact W.wk hnext ⟨rfl,rfl,rfl⟩ (List.Sublist.refl _)
end Go.Proofs.YtoegffiapnnkiaaGreat.Abs
