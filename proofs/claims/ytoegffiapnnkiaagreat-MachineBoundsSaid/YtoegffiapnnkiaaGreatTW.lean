/- How many steps and actions a table can need: the program's function. No condition but those that each theorem names. -/
import Derived.Test.YtoegffiapnnkiaaGreatTV
namespace Go.Proofs.YtoegffiapnnkiaaGreat.Abs
open Go
set_option linter.unusedVariables false
set_option linter.unusedSimpArgs false
set_option maxRecDepth 100000
set_option maxHeartbeats 4000000
attribute [local irreducible] W Cl Bd
variable {g:Cg} {V:K→Option (List AV)}
theorem bound_c (hp:Plain g 31=true) (hsp:Plain g 86=true) {t:Table} (ht:t.Ok V) (hck:Cl Tryz.prog g V 59 [t.v] [] fun o _=>o=.ret (.int .i64 ((checkS t).getD 0))) :
    Cl Tryz.prog g V 31 [t.v] [] fun o _=>o=.ret (boundV t):=by
  refine Cl.enter hp Tryz.func31 rfl ?_
  have hne:=checkS_ne (t:=t)
  repeat first|refine W.callP rfl rfl rfl rfl hck ?_|(with_reducible first|refine za ?_|refine zb ?_|refine zc ?_)|refine ym zr ?_|refine yn 0 zr ?_|refine yn 1 zr ?_|refine yn 2 zr ?_|refine yn 3 zr ?_|(refine yo zr ?_;intro _)|(refine yp zr ?_;intro _)|refine yq zr ?_|refine ys zr ?_|refine yu zr ?_|refine yv zr ?_|(with_reducible first|refine zd ?_|refine ze ?_|refine zf ?_|refine zg ?_|refine zh ?_|refine zi ?_|refine zj ?_|refine zk ?_|refine zl ?_)|refine zz zr ?_|refine zw (by decide +kernel) ?_|refine zx zr zr zr ?_|refine zy zr zr ?_|refine W.condT zr ?_|refine W.condF zr ?_
  refine W.condP rfl ?_ ?_<;>intro hc
  · have hb:boundV t=.tup [.agg [.int .i64 0,.int .i64 0],.int .i64 ((checkS t).getD 0)]:=by
      unfold boundV
      cases h:checkS t with
      | none=>rw [h] at hc;exact absurd rfl hc
      | some c=>rfl
    rw [hb]
    repeat' first|refine W.doneC tblOk (.cell 0 rfl rfl rfl rfl (.tmp rfl .nil)) ?_|(with_reducible first|refine za ?_|refine zb ?_|refine zc ?_)|refine ym zr ?_|refine yn 0 zr ?_|refine yn 1 zr ?_|refine yn 2 zr ?_|refine yn 3 zr ?_|(refine yo zr ?_;intro _)|(refine yp zr ?_;intro _)|refine yq zr ?_|refine ys zr ?_|refine yu zr ?_|refine yv zr ?_|(with_reducible first|refine zd ?_|refine ze ?_|refine zf ?_|refine zg ?_|refine zh ?_|refine zi ?_|refine zj ?_|refine zk ?_|refine zl ?_)|refine zz zr ?_|refine zw (by decide +kernel) ?_|refine zx zr zr zr ?_|refine zy zr zr ?_|(refine W.condP zr ?_ ?_<;>intro _)|refine W.condT zr ?_|refine W.condF zr ?_|(refine W.cond zr ?_ ?_<;>intro _)|(refine W.gs zr zr zr zr ?_ ?_<;>intro _)|(refine W.gsB zr zr zr zr ?_ ?_<;>intro _)|refine W.done zr ?_|refine W.doneN zr ?_
    all_goals rfl
  have hC:checkS t=none:=hne (Classical.not_not.1 hc)
  have hb:boundV t=.tup [.agg [.int .i64 (statesB t.states.l (0,0)).1,.int .i64 (statesB t.states.l (0,0)).2],.int .i64 0]:=by
    unfold boundV;rw [hC]
  rw [hb]
  have hF:=checkS_formed hC
  have hin:=hF.in
  have hrest:=hF.rest
  have hc4:t.code.l.length≤4096:=hF.1.2.2.2.2.2.1
  have hlen:=ht.states.1
  unfold Len at hlen
  clear hc hC hne hck hF hb
  generalize hR:statesB t.states.l (0,0)=R
  repeat first|(with_reducible first|refine za ?_|refine zb ?_|refine zc ?_)|refine ym zr ?_|refine yn 0 zr ?_|refine yn 1 zr ?_|refine yn 2 zr ?_|refine yn 3 zr ?_|(refine yo zr ?_;intro _)|(refine yp zr ?_;intro _)|refine yq zr ?_|refine ys zr ?_|refine yu zr ?_|refine yv zr ?_|(with_reducible first|refine zd ?_|refine ze ?_|refine zf ?_|refine zg ?_|refine zh ?_|refine zi ?_|refine zj ?_|refine zk ?_|refine zl ?_)|refine zz zr ?_|refine zw (by decide +kernel) ?_|refine zx zr zr zr ?_|refine zy zr zr ?_|refine W.condT zr ?_|refine W.condF zr ?_
  refine W.loopR (α:={ q:Nat×Int×Int // q.1≤t.states.l.length∧R=statesB (t.states.l.drop q.1) (q.2.1,q.2.2) }) (fun q=>t.states.l.length-q.1.1) (fun q=>[(1,_),(2,_),(5,_),(25,_),(26,_),(27,.int .i64 (q.1.1:Int))]) (fun q=>[(_,.cells [.int .i64 q.1.2.1,.int .i64 q.1.2.2] 73 2 true),_,_]) ⟨(0,0,0),by simp,hR.symm⟩ ⟨rfl,rfl,rfl,rfl,rfl,rfl⟩ (List.Sublist.refl _) ?_
  rintro ⟨⟨i,S,A⟩,hi1,hi2⟩ ih
  simp only at ih hi1 hi2 ⊢
  repeat first|(with_reducible first|refine za ?_|refine zb ?_|refine zc ?_)|refine ym zr ?_|refine yn 0 zr ?_|refine yn 1 zr ?_|refine yn 2 zr ?_|refine yn 3 zr ?_|(refine yo zr ?_;intro _)|(refine yp zr ?_;intro _)|refine yq zr ?_|refine ys zr ?_|refine yu zr ?_|refine yv zr ?_|(with_reducible first|refine zd ?_|refine ze ?_|refine zf ?_|refine zg ?_|refine zh ?_|refine zi ?_|refine zj ?_|refine zk ?_|refine zl ?_)|refine zz zr ?_|refine zw (by decide +kernel) ?_|refine zx zr zr zr ?_|refine zy zr zr ?_|refine W.condT zr ?_|refine W.condF zr ?_
  refine W.condP rfl ?_ ?_<;>intro hlt
  rotate_left
  · clear ih
    rw [List.drop_eq_nil_of_le (by omega),statesB] at hi2
    repeat' first|refine W.doneC tblOk (.cell 0 rfl rfl rfl rfl (.tmp rfl .nil)) ?_|refine W.doneC tblOk (.cell 1 rfl rfl rfl rfl (.tmp rfl .nil)) ?_|(with_reducible first|refine za ?_|refine zb ?_|refine zc ?_)|refine ym zr ?_|refine yn 0 zr ?_|refine yn 1 zr ?_|refine yn 2 zr ?_|refine yn 3 zr ?_|(refine yo zr ?_;intro _)|(refine yp zr ?_;intro _)|refine yq zr ?_|refine ys zr ?_|refine yu zr ?_|refine yv zr ?_|(with_reducible first|refine zd ?_|refine ze ?_|refine zf ?_|refine zg ?_|refine zh ?_|refine zi ?_|refine zj ?_|refine zk ?_|refine zl ?_)|refine zz zr ?_|refine zw (by decide +kernel) ?_|refine zx zr zr zr ?_|refine zy zr zr ?_|(refine W.condP zr ?_ ?_<;>intro _)|refine W.condT zr ?_|refine W.condF zr ?_|(refine W.cond zr ?_ ?_<;>intro _)|(refine W.gs zr zr zr zr ?_ ?_<;>intro _)|(refine W.gsB zr zr zr zr ?_ ?_<;>intro _)|refine W.done zr ?_|refine W.doneN zr ?_
    rw [hi2];rfl
  have hlt:i<t.states.l.length:=by omega
  obtain ⟨jn,o,cs,ha,hV,hpt⟩:=Sl.In.get ht.states.2.1 hlt
  have hl:=ht.states.2.2 _ (List.getElem_mem hlt)
  have hin1:=hin _ (List.getElem_mem hlt)
  have hrest1:=hrest _ (List.getElem_mem hlt)
  rw [List.drop_eq_getElem_cons hlt,statesB] at hi2
  generalize t.states.l[i]=l at hpt hl hi2 hin1 hrest1
  repeat first|refine W.ia tblOk rfl rfl rfl rfl rfl rfl ha (by omega) (by omega) ?_|refine W.ldV tblOk rfl rfl rfl hV hpt ?_|(with_reducible first|refine za ?_|refine zb ?_|refine zc ?_)|refine ym zr ?_|refine yn 0 zr ?_|refine yn 1 zr ?_|refine yn 2 zr ?_|refine yn 3 zr ?_|(refine yo zr ?_;intro _)|(refine yp zr ?_;intro _)|refine yq zr ?_|refine ys zr ?_|refine yu zr ?_|refine yv zr ?_|(with_reducible first|refine zd ?_|refine ze ?_|refine zf ?_|refine zg ?_|refine zh ?_|refine zi ?_|refine zj ?_|refine zk ?_|refine zl ?_)|refine zz zr ?_|refine zw (by decide +kernel) ?_|refine zx zr zr zr ?_|refine zy zr zr ?_|refine W.condT zr ?_|refine W.condF zr ?_
  refine W.loopR (α:={ q:Nat×Int×Int×Int // q.1≤l.l.length∧(0≤q.2.1∧q.2.1≤4096 * (q.1:Int))∧(0≤q.2.2.1∧q.2.2.1≤200000)∧R=statesB (t.states.l.drop (i+1)) (stateB S (guardsB (l.l.drop q.1) (q.2.1,q.2.2.1,q.2.2.2))) }) (fun q=>l.l.length-q.1.1) (fun q=>[(1,_),(2,_),(5,_),(25,_),(26,_),(27,.int .i64 (i:Int)),(8,.int .i64 q.1.2.1),(9,.int .i64 q.1.2.2.1),(31,_),(32,_),(33,.int .i64 (q.1.1:Int))]) (fun q=>[(_,.cells [.int .i64 S,.int .i64 q.1.2.2.2] 73 2 true),_,_]) ⟨(0,0,0,A),by simp,by simp,by simp,hi2⟩ ⟨rfl,rfl,rfl,rfl,rfl,rfl,rfl,rfl,rfl,rfl,rfl⟩ (List.Sublist.refl _) ?_
  clear hi2
  rintro ⟨⟨k,s,m,A⟩,hk1,hk3,hk4,hk2⟩ ih2
  simp only at ih2 hk1 hk2 hk3 hk4 ⊢
  repeat first|(with_reducible first|refine za ?_|refine zb ?_|refine zc ?_)|refine ym zr ?_|refine yn 0 zr ?_|refine yn 1 zr ?_|refine yn 2 zr ?_|refine yn 3 zr ?_|(refine yo zr ?_;intro _)|(refine yp zr ?_;intro _)|refine yq zr ?_|refine ys zr ?_|refine yu zr ?_|refine yv zr ?_|(with_reducible first|refine zd ?_|refine ze ?_|refine zf ?_|refine zg ?_|refine zh ?_|refine zi ?_|refine zj ?_|refine zk ?_|refine zl ?_)|refine zz zr ?_|refine zw (by decide +kernel) ?_|refine zx zr zr zr ?_|refine zy zr zr ?_|refine W.condT zr ?_|refine W.condF zr ?_
  refine W.condP rfl ?_ ?_<;>intro hlt2
  rotate_left
  · clear ih2
    rw [show l.l.drop k=[] from List.drop_eq_nil_of_le (by omega),guardsB,stateB] at hk2
    have e1:IntKind.i64.wrap (s+m)=s+m:=w64 (by omega) (by omega)
    repeat first|(with_reducible first|refine za ?_|refine zb ?_|refine zc ?_)|refine ym zr ?_|refine yn 0 zr ?_|refine yn 1 zr ?_|refine yn 2 zr ?_|refine yn 3 zr ?_|(refine yo zr ?_;intro _)|(refine yp zr ?_;intro _)|refine yq zr ?_|refine ys zr ?_|refine yu zr ?_|refine yv zr ?_|(with_reducible first|refine zd ?_|refine ze ?_|refine zf ?_|refine zg ?_|refine zh ?_|refine zi ?_|refine zj ?_|refine zk ?_|refine zl ?_)|refine zz zr ?_|refine zw (by decide +kernel) ?_|refine zx zr zr zr ?_|refine zy zr zr ?_|refine W.condT zr ?_|refine W.condF zr ?_
    rw [wN (by omega)]
    have h9:=ih ⟨(i+1,mx S (s+m),A),by show i+1≤_;omega,hk2⟩ (by show t.states.l.length-(i+1)<t.states.l.length-i;omega)
    refine W.weak _ _ ?_ ?_ h9
    · exact ⟨rfl,rfl,rfl,rfl,rfl,rfl⟩
    · show List.Sublist [(_,Bk.cells [.int .i64 (mx S (s+m)),.int .i64 A] 73 2 true),_,_] _
      rw [e1];exact List.Sublist.refl _
  have hlt2:k<l.l.length:=by omega
  obtain ⟨jn2,o2,cs2,ha2,hV2,hpt2⟩:=Sl.In.get hl.2.1 hlt2
  have hg:=hl.2.2 _ (List.getElem_mem hlt2)
  have hin2:=hin1 _ (List.getElem_mem hlt2)
  have hrest2:=hrest1.2 _ (List.getElem_mem hlt2)
  rw [List.drop_eq_getElem_cons hlt2,guardsB] at hk2
  generalize l.l[k]=x at hpt2 hg hk2 hin2 hrest2
  obtain ⟨hw0,hrows⟩:=hin2
  have hx8:=hrest2.2
  have hl12:=hrest1.1
  have e1:IntKind.i64.wrap (x.when.t-x.when.f)=x.when.t-x.when.f:=w64 (by omega) (by omega)
  have e2:IntKind.i64.wrap (s+(x.when.t-x.when.f))=s+(x.when.t-x.when.f):=w64 (by omega) (by omega)
  repeat first|refine W.ia tblOk rfl rfl rfl rfl rfl rfl ha2 (by omega) (by omega) ?_|refine W.ldV tblOk rfl rfl rfl hV2 hpt2 ?_|(with_reducible first|refine za ?_|refine zb ?_|refine zc ?_)|refine ym zr ?_|refine yn 0 zr ?_|refine yn 1 zr ?_|refine yn 2 zr ?_|refine yn 3 zr ?_|(refine yo zr ?_;intro _)|(refine yp zr ?_;intro _)|refine yq zr ?_|refine ys zr ?_|refine yu zr ?_|refine yv zr ?_|(with_reducible first|refine zd ?_|refine ze ?_|refine zf ?_|refine zg ?_|refine zh ?_|refine zi ?_|refine zj ?_|refine zk ?_|refine zl ?_)|refine zz zr ?_|refine zw (by decide +kernel) ?_|refine zx zr zr zr ?_|refine zy zr zr ?_|refine W.condT zr ?_|refine W.condF zr ?_
  rw [e1,e2]
  refine W.loopR (α:={ q:Nat×Int×Int // q.1≤x.rows.l.length∧(0≤q.2.1∧q.2.1≤16384 * (q.1:Int))∧(0≤q.2.2∧q.2.2≤(q.1:Int))∧R=statesB (t.states.l.drop (i+1)) (stateB S (guardsB (l.l.drop (k+1)) (guardB (s+(x.when.t-x.when.f)) m A (rowsB (x.rows.l.drop q.1) (q.2.1,q.2.2))))) }) (fun q=>x.rows.l.length-q.1.1) (fun q=>[(1,_),(2,_),(5,_),(25,_),(26,_),(27,.int .i64 (i:Int)),(8,.int .i64 (s+(x.when.t-x.when.f))),(9,.int .i64 m),(31,_),(32,_),(33,.int .i64 (k:Int)),(12,.int .i64 q.1.2.1),(13,.int .i64 q.1.2.2),(47,_),(48,_),(49,.int .i64 (q.1.1:Int))]) (fun q=>[_,_,_,_]) ⟨(0,0,0),by simp,by simp,by simp,hk2⟩ ⟨rfl,rfl,rfl,rfl,rfl,rfl,rfl,rfl,rfl,rfl,rfl,rfl,rfl,rfl,rfl,rfl⟩ (List.Sublist.refl _) ?_
  clear hk2
  rintro ⟨⟨j,bd,ac⟩,hj1,hj3,hj4,hj2⟩ ih3
  simp only at ih3 hj1 hj2 hj3 hj4 ⊢
  repeat first|(with_reducible first|refine za ?_|refine zb ?_|refine zc ?_)|refine ym zr ?_|refine yn 0 zr ?_|refine yn 1 zr ?_|refine yn 2 zr ?_|refine yn 3 zr ?_|(refine yo zr ?_;intro _)|(refine yp zr ?_;intro _)|refine yq zr ?_|refine ys zr ?_|refine yu zr ?_|refine yv zr ?_|(with_reducible first|refine zd ?_|refine ze ?_|refine zf ?_|refine zg ?_|refine zh ?_|refine zi ?_|refine zj ?_|refine zk ?_|refine zl ?_)|refine zz zr ?_|refine zw (by decide +kernel) ?_|refine zx zr zr zr ?_|refine zy zr zr ?_|refine W.condT zr ?_|refine W.condF zr ?_
  refine W.condP rfl ?_ ?_<;>intro hlt3
  rotate_left
  · clear ih3
    rw [show x.rows.l.drop j=[] from List.drop_eq_nil_of_le (by omega),rowsB,guardB] at hj2
    repeat first|(with_reducible first|refine za ?_|refine zb ?_|refine zc ?_)|refine ym zr ?_|refine yn 0 zr ?_|refine yn 1 zr ?_|refine yn 2 zr ?_|refine yn 3 zr ?_|(refine yo zr ?_;intro _)|(refine yp zr ?_;intro _)|refine yq zr ?_|refine ys zr ?_|refine yu zr ?_|refine yv zr ?_|(with_reducible first|refine zd ?_|refine ze ?_|refine zf ?_|refine zg ?_|refine zh ?_|refine zi ?_|refine zj ?_|refine zk ?_|refine zl ?_)|refine zz zr ?_|refine zw (by decide +kernel) ?_|refine zx zr zr zr ?_|refine zy zr zr ?_|refine W.condT zr ?_|refine W.condF zr ?_
    rw [wN (by omega)]
    have h9:=ih2 ⟨(k+1,s+(x.when.t-x.when.f),mx m bd,mx A ac),by show k+1≤_;omega,by show 0≤_∧_;constructor<;>simp only<;>omega,by show 0≤mx m bd∧mx m bd≤200000;unfold mx;split<;>omega,hj2⟩ (by show l.l.length-(k+1)<l.l.length-k;omega)
    refine W.weak _ _ ?_ ?_ h9
    · exact ⟨rfl,rfl,rfl,rfl,rfl,rfl,rfl,rfl,rfl,rfl,rfl⟩
    · exact .cons_cons _ (.cons _ (List.Sublist.refl _))
  have hlt3:j<x.rows.l.length:=by omega
  obtain ⟨jn3,o3,cs3,ha3,hV3,hpt3⟩:=Sl.In.get hg.2.2.2.2.1 hlt3
  have hrow:=hrows _ (List.getElem_mem hlt3)
  rw [List.drop_eq_getElem_cons hlt3,rowsB] at hj2
  generalize x.rows.l[j]=r at hpt3 hj2 hrow
  have hbi:=body_in hrow (by omega)
  have hnext:=fun (b a:Int) (hb:b=bd+bodyS r) (ha:a=(if r.k≤3 then ac+1 else ac))=>ih3 ⟨(j+1,b,a),by show j+1≤_;omega,by show 0≤b∧b≤16384 * ((j+1:Nat):Int);subst hb;omega,by show 0≤a∧a≤((j+1:Nat):Int);subst ha;split<;>omega,by rw [hb,ha];exact hj2⟩ (by show x.rows.l.length-(j+1)<x.rows.l.length-j;omega)
  repeat first|refine W.ia tblOk rfl rfl rfl rfl rfl rfl ha3 (by omega) (by omega) ?_|refine W.ldV tblOk rfl rfl rfl hV3 hpt3 ?_|(with_reducible first|refine za ?_|refine zb ?_|refine zc ?_)|refine ym zr ?_|refine yn 0 zr ?_|refine yn 1 zr ?_|refine yn 2 zr ?_|refine yn 3 zr ?_|(refine yo zr ?_;intro _)|(refine yp zr ?_;intro _)|refine yq zr ?_|refine ys zr ?_|refine yu zr ?_|refine yv zr ?_|(with_reducible first|refine zd ?_|refine ze ?_|refine zf ?_|refine zg ?_|refine zh ?_|refine zi ?_|refine zj ?_|refine zk ?_|refine zl ?_)|refine zz zr ?_|refine zw (by decide +kernel) ?_|refine zx zr zr zr ?_|refine zy zr zr ?_|refine W.condT zr ?_|refine W.condF zr ?_
  refine W.callR (Δ:=[rowK _ r]) rfl rfl rfl rfl (spans_c hsp _ r) ?_ ?_
  · intro v Δ' h;exfalso;split at h
    · cases h.1
    · obtain ⟨i,h,-⟩:=h;cases h
  intro v Δ' h
  have hcase:(r.k=1∧r.o=2)∨(r.k=1∧¬r.o=2)∨r.k=2∨r.k=4∨(¬r.k=1∧¬r.k=2∧¬r.k=4):=by omega
  rcases hcase with ⟨hk,ho⟩|⟨hk,ho⟩|hk|hk|⟨hk1',hk2',hk4'⟩
  · have hl2:r.spans=[r.side,r.qty]:=by simp [Row.spans,hk,ho]
    have hf0:=hrow r.side (by rw [hl2];simp)
    have hf1:=hrow r.qty (by rw [hl2];simp)
    have hbs:bodyS r=(r.side.t-r.side.f)+(r.qty.t-r.qty.f):=by unfold bodyS;rw [hl2];simp [lenS]
    rw [offs_a hk ho] at h
    rw [if_neg (by simp)] at h
    obtain ⟨i5,hv,rfl⟩:=h
    injection hv with hv;subst hv
    repeat' first|refine W.condDT rfl (by decide) ?_|refine W.condDF rfl (by decide) ?_|with_reducible refine W.loop (a:=.seq (.region 18 _ _) _) ?_|refine W.ia tblOk rfl rfl rfl rfl rfl rfl rfl (by decide) (by decide) ?_|(with_reducible first|refine za ?_|refine zb ?_|refine zc ?_)|refine ym zr ?_|refine yn 0 zr ?_|refine yn 1 zr ?_|refine yn 2 zr ?_|refine yn 3 zr ?_|(refine yo zr ?_;intro _)|(refine yp zr ?_;intro _)|refine yq zr ?_|refine ys zr ?_|refine yu zr ?_|refine yv zr ?_|(with_reducible first|refine zd ?_|refine ze ?_|refine zf ?_|refine zg ?_|refine zh ?_|refine zi ?_|refine zj ?_|refine zk ?_|refine zl ?_)|refine zz zr ?_|refine zw (by decide +kernel) ?_|refine zx zr zr zr ?_|refine zy zr zr ?_|(refine W.condP zr ?_ ?_<;>intro _)|refine W.condT zr ?_|refine W.condF zr ?_|(refine W.cond zr ?_ ?_<;>intro _)|(refine W.gs zr zr zr zr ?_ ?_<;>intro _)|(refine W.gsB zr zr zr zr ?_ ?_<;>intro _)|refine W.done zr ?_|refine W.doneN zr ?_
    all_goals
      rw [wN (by omega)]
      refine W.weak _ _ ?_ ?_ (hnext _ _ rfl rfl)
      · refine ⟨rfl,rfl,rfl,rfl,rfl,rfl,rfl,rfl,rfl,rfl,rfl,?_,?_,rfl,rfl,rfl⟩
        · show some (AV.int .i64 _)=some (AV.int .i64 _)
          congr 2;simp only [wrap64];omega
        · show some (AV.int .i64 _)=some (AV.int .i64 _)
          congr 2
          show _=(if r.k≤3 then ac+1 else ac)
          first|(rw [if_pos (by assumption),wrap64];omega)|rw [if_neg (by assumption)]
      · first|exact List.Sublist.refl _|exact .cons _ (List.Sublist.refl _)|exact .cons _ (.cons _ (List.Sublist.refl _))|exact .cons _ (.cons _ (.cons _ (List.Sublist.refl _)))
  · have hl2:r.spans=[r.side,r.qty,r.price]:=by simp [Row.spans,hk,ho]
    have hf0:=hrow r.side (by rw [hl2];simp)
    have hf1:=hrow r.qty (by rw [hl2];simp)
    have hf2:=hrow r.price (by rw [hl2];simp)
    have hbs:bodyS r=(r.side.t-r.side.f)+(r.qty.t-r.qty.f)+(r.price.t-r.price.f):=by unfold bodyS;rw [hl2];simp [lenS];omega
    rw [offs_b hk ho] at h
    rw [if_neg (by simp)] at h
    obtain ⟨i5,hv,rfl⟩:=h
    injection hv with hv;subst hv
    repeat' first|refine W.condDT rfl (by decide) ?_|refine W.condDF rfl (by decide) ?_|with_reducible refine W.loop (a:=.seq (.region 18 _ _) _) ?_|refine W.ia tblOk rfl rfl rfl rfl rfl rfl rfl (by decide) (by decide) ?_|(with_reducible first|refine za ?_|refine zb ?_|refine zc ?_)|refine ym zr ?_|refine yn 0 zr ?_|refine yn 1 zr ?_|refine yn 2 zr ?_|refine yn 3 zr ?_|(refine yo zr ?_;intro _)|(refine yp zr ?_;intro _)|refine yq zr ?_|refine ys zr ?_|refine yu zr ?_|refine yv zr ?_|(with_reducible first|refine zd ?_|refine ze ?_|refine zf ?_|refine zg ?_|refine zh ?_|refine zi ?_|refine zj ?_|refine zk ?_|refine zl ?_)|refine zz zr ?_|refine zw (by decide +kernel) ?_|refine zx zr zr zr ?_|refine zy zr zr ?_|(refine W.condP zr ?_ ?_<;>intro _)|refine W.condT zr ?_|refine W.condF zr ?_|(refine W.cond zr ?_ ?_<;>intro _)|(refine W.gs zr zr zr zr ?_ ?_<;>intro _)|(refine W.gsB zr zr zr zr ?_ ?_<;>intro _)|refine W.done zr ?_|refine W.doneN zr ?_
    all_goals
      rw [wN (by omega)]
      refine W.weak _ _ ?_ ?_ (hnext _ _ rfl rfl)
      · refine ⟨rfl,rfl,rfl,rfl,rfl,rfl,rfl,rfl,rfl,rfl,rfl,?_,?_,rfl,rfl,rfl⟩
        · show some (AV.int .i64 _)=some (AV.int .i64 _)
          congr 2;simp only [wrap64];omega
        · show some (AV.int .i64 _)=some (AV.int .i64 _)
          congr 2
          show _=(if r.k≤3 then ac+1 else ac)
          first|(rw [if_pos (by assumption),wrap64];omega)|rw [if_neg (by assumption)]
      · first|exact List.Sublist.refl _|exact .cons _ (List.Sublist.refl _)|exact .cons _ (.cons _ (List.Sublist.refl _))|exact .cons _ (.cons _ (.cons _ (List.Sublist.refl _)))
  · have hl2:r.spans=[r.qty,r.price]:=by simp [Row.spans,hk]
    have hf0:=hrow r.qty (by rw [hl2];simp)
    have hf1:=hrow r.price (by rw [hl2];simp)
    have hbs:bodyS r=(r.qty.t-r.qty.f)+(r.price.t-r.price.f):=by unfold bodyS;rw [hl2];simp [lenS]
    rw [offs_c hk] at h
    rw [if_neg (by simp)] at h
    obtain ⟨i5,hv,rfl⟩:=h
    injection hv with hv;subst hv
    repeat' first|refine W.condDT rfl (by decide) ?_|refine W.condDF rfl (by decide) ?_|with_reducible refine W.loop (a:=.seq (.region 18 _ _) _) ?_|refine W.ia tblOk rfl rfl rfl rfl rfl rfl rfl (by decide) (by decide) ?_|(with_reducible first|refine za ?_|refine zb ?_|refine zc ?_)|refine ym zr ?_|refine yn 0 zr ?_|refine yn 1 zr ?_|refine yn 2 zr ?_|refine yn 3 zr ?_|(refine yo zr ?_;intro _)|(refine yp zr ?_;intro _)|refine yq zr ?_|refine ys zr ?_|refine yu zr ?_|refine yv zr ?_|(with_reducible first|refine zd ?_|refine ze ?_|refine zf ?_|refine zg ?_|refine zh ?_|refine zi ?_|refine zj ?_|refine zk ?_|refine zl ?_)|refine zz zr ?_|refine zw (by decide +kernel) ?_|refine zx zr zr zr ?_|refine zy zr zr ?_|(refine W.condP zr ?_ ?_<;>intro _)|refine W.condT zr ?_|refine W.condF zr ?_|(refine W.cond zr ?_ ?_<;>intro _)|(refine W.gs zr zr zr zr ?_ ?_<;>intro _)|(refine W.gsB zr zr zr zr ?_ ?_<;>intro _)|refine W.done zr ?_|refine W.doneN zr ?_
    all_goals
      rw [wN (by omega)]
      refine W.weak _ _ ?_ ?_ (hnext _ _ rfl rfl)
      · refine ⟨rfl,rfl,rfl,rfl,rfl,rfl,rfl,rfl,rfl,rfl,rfl,?_,?_,rfl,rfl,rfl⟩
        · show some (AV.int .i64 _)=some (AV.int .i64 _)
          congr 2;simp only [wrap64];omega
        · show some (AV.int .i64 _)=some (AV.int .i64 _)
          congr 2
          show _=(if r.k≤3 then ac+1 else ac)
          first|(rw [if_pos (by assumption),wrap64];omega)|rw [if_neg (by assumption)]
      · first|exact List.Sublist.refl _|exact .cons _ (List.Sublist.refl _)|exact .cons _ (.cons _ (List.Sublist.refl _))|exact .cons _ (.cons _ (.cons _ (List.Sublist.refl _)))
  · have hl2:r.spans=[r.value]:=by simp [Row.spans,hk]
    have hf0:=hrow r.value (by rw [hl2];simp)
    have hbs:bodyS r=(r.value.t-r.value.f):=by unfold bodyS;rw [hl2];simp [lenS]
    rw [offs_d hk] at h
    rw [if_neg (by simp)] at h
    obtain ⟨i5,hv,rfl⟩:=h
    injection hv with hv;subst hv
    repeat' first|refine W.condDT rfl (by decide) ?_|refine W.condDF rfl (by decide) ?_|with_reducible refine W.loop (a:=.seq (.region 18 _ _) _) ?_|refine W.ia tblOk rfl rfl rfl rfl rfl rfl rfl (by decide) (by decide) ?_|(with_reducible first|refine za ?_|refine zb ?_|refine zc ?_)|refine ym zr ?_|refine yn 0 zr ?_|refine yn 1 zr ?_|refine yn 2 zr ?_|refine yn 3 zr ?_|(refine yo zr ?_;intro _)|(refine yp zr ?_;intro _)|refine yq zr ?_|refine ys zr ?_|refine yu zr ?_|refine yv zr ?_|(with_reducible first|refine zd ?_|refine ze ?_|refine zf ?_|refine zg ?_|refine zh ?_|refine zi ?_|refine zj ?_|refine zk ?_|refine zl ?_)|refine zz zr ?_|refine zw (by decide +kernel) ?_|refine zx zr zr zr ?_|refine zy zr zr ?_|(refine W.condP zr ?_ ?_<;>intro _)|refine W.condT zr ?_|refine W.condF zr ?_|(refine W.cond zr ?_ ?_<;>intro _)|(refine W.gs zr zr zr zr ?_ ?_<;>intro _)|(refine W.gsB zr zr zr zr ?_ ?_<;>intro _)|refine W.done zr ?_|refine W.doneN zr ?_
    all_goals
      rw [wN (by omega)]
      refine W.weak _ _ ?_ ?_ (hnext _ _ rfl rfl)
      · refine ⟨rfl,rfl,rfl,rfl,rfl,rfl,rfl,rfl,rfl,rfl,rfl,?_,?_,rfl,rfl,rfl⟩
        · show some (AV.int .i64 _)=some (AV.int .i64 _)
          congr 2;simp only [wrap64];omega
        · show some (AV.int .i64 _)=some (AV.int .i64 _)
          congr 2
          show _=(if r.k≤3 then ac+1 else ac)
          first|(rw [if_pos (by assumption),wrap64];omega)|rw [if_neg (by assumption)]
      · first|exact List.Sublist.refl _|exact .cons _ (List.Sublist.refl _)|exact .cons _ (.cons _ (List.Sublist.refl _))|exact .cons _ (.cons _ (.cons _ (List.Sublist.refl _)))
  · have hl2:r.spans=[]:=by simp [Row.spans,hk1',hk2',hk4']
    have hbs:bodyS r=0:=by unfold bodyS;rw [hl2];simp [lenS]
    rw [offs_e hk1' hk2' hk4'] at h
    rw [if_pos rfl] at h
    obtain ⟨hv,rfl⟩:=h
    injection hv with hv;subst hv
    repeat' first|refine W.condDT rfl (by decide) ?_|refine W.condDF rfl (by decide) ?_|with_reducible refine W.loop (a:=.seq (.region 18 _ _) _) ?_|refine W.ia tblOk rfl rfl rfl rfl rfl rfl rfl (by decide) (by decide) ?_|(with_reducible first|refine za ?_|refine zb ?_|refine zc ?_)|refine ym zr ?_|refine yn 0 zr ?_|refine yn 1 zr ?_|refine yn 2 zr ?_|refine yn 3 zr ?_|(refine yo zr ?_;intro _)|(refine yp zr ?_;intro _)|refine yq zr ?_|refine ys zr ?_|refine yu zr ?_|refine yv zr ?_|(with_reducible first|refine zd ?_|refine ze ?_|refine zf ?_|refine zg ?_|refine zh ?_|refine zi ?_|refine zj ?_|refine zk ?_|refine zl ?_)|refine zz zr ?_|refine zw (by decide +kernel) ?_|refine zx zr zr zr ?_|refine zy zr zr ?_|(refine W.condP zr ?_ ?_<;>intro _)|refine W.condT zr ?_|refine W.condF zr ?_|(refine W.cond zr ?_ ?_<;>intro _)|(refine W.gs zr zr zr zr ?_ ?_<;>intro _)|(refine W.gsB zr zr zr zr ?_ ?_<;>intro _)|refine W.done zr ?_|refine W.doneN zr ?_
    all_goals
      rw [wN (by omega)]
      refine W.weak _ _ ?_ ?_ (hnext _ _ rfl rfl)
      · refine ⟨rfl,rfl,rfl,rfl,rfl,rfl,rfl,rfl,rfl,rfl,rfl,?_,?_,rfl,rfl,rfl⟩
        · show some (AV.int .i64 _)=some (AV.int .i64 _)
          congr 2;simp only [wrap64];omega
        · show some (AV.int .i64 _)=some (AV.int .i64 _)
          congr 2
          show _=(if r.k≤3 then ac+1 else ac)
          first|(rw [if_pos (by assumption),wrap64];omega)|rw [if_neg (by assumption)]
      · first|exact List.Sublist.refl _|exact .cons _ (List.Sublist.refl _)|exact .cons _ (.cons _ (List.Sublist.refl _))|exact .cons _ (.cons _ (.cons _ (List.Sublist.refl _)))
end Go.Proofs.YtoegffiapnnkiaaGreat.Abs
