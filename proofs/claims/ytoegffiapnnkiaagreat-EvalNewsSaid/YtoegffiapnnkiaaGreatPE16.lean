/- Parts of one proof. No condition but those that each theorem names. -/
import Derived.Test.YtoegffiapnnkiaaGreatPE13
namespace Go.Proofs.YtoegffiapnnkiaaGreat.Abs
open Go
set_option linter.unusedVariables false
set_option linter.unusedSimpArgs false
set_option maxRecDepth 100000
set_option maxHeartbeats 4000000
attribute [local irreducible] W Cl Bd
variable {g:Cg} {V:K→Option (List AV)}
def placeV (o:Option Int):AV:=.tup [.int .i64 (o.getD 0),.bool o.isSome]
theorem guardR_c (hp:Plain g 126=true) {t:Table} {x:Guard} (hg:x.Ok V) (hrow:∀r n,Cl Tryz.prog g V 164 [t.v,r.v,.int .i64 n] [] fun o _=>o=.ret (placeV (RowAt t r n))) (n:Int) :
    Cl Tryz.prog g V 126 [t.v,x.v,.int .i64 n] [] fun o _=>o=.ret (placeV (guardAt t x n)):=by
  have hx:=hg.2.2.2.1
  unfold Len at hx
  have hno:guardAt t x n=none→RO.ret (oneOr [AV.int .i64 0,AV.bool false])=.ret (placeV (guardAt t x n)):=fun h=>by rw [h];rfl
  refine Cl.enter hp Tryz.func126 rfl ?_
  repeat' first|(with_reducible first|refine za ?_|refine zb ?_|refine zc ?_)|refine ym zr ?_|refine yn 0 zr ?_|(refine yo zr ?_;intro _)|(with_reducible first|refine zd ?_|refine ze ?_|refine zj ?_|refine zk ?_)|refine zx zr zr zr ?_|(refine W.condP zr ?_ ?_<;>intro _)|refine W.condT zr ?_|(refine W.gs zr zr zr zr ?_ ?_<;>intro _)|refine W.done zr ?_
  all_goals first
    | with_reducible refine W.id ?_
    | (refine hno ?_;unfold guardAt SpanAt;rw [if_neg (by omega)])
  have hh:SpanAt x.when.f x.when.t n∧1≤x.rows.l.length∧x.rows.l.length≤8:=by unfold SpanAt;omega
  clear hno
  rw [show guardAt t x n=rowsAt t 0 x.rows.l x.when.t by unfold guardAt;rw [if_pos hh]]
  generalize hR:rowsAt t 0 x.rows.l x.when.t=R
  have hno:R=none→RO.ret (oneOr [AV.int .i64 0,AV.bool false])=.ret (placeV R):=fun h=>by rw [h];rfl
  refine W.loopR (α:={ p:Nat×Int // p.1≤x.rows.l.length∧R=rowsAt t (prevK x.rows.l p.1) (x.rows.l.drop p.1) p.2 }) (fun p=>x.rows.l.length-p.1.1) (fun p=>[(2,.int .i64 p.1.2),(3,_),(4,_),(8,.int .i64 (p.1.1:Int))]) (fun _=>_) ⟨(0,x.when.t),by omega,hR.symm⟩ ⟨rfl,rfl,rfl,rfl⟩ (List.Sublist.refl _) ?_
  rintro ⟨⟨j,m⟩,hj1,hj2⟩ ih3
  simp only at ih3 hj1 hj2 ⊢
  repeat first|(with_reducible first|refine za ?_|refine zb ?_|refine zc ?_)|refine ym zr ?_|refine yn 0 zr ?_
  refine W.condP rfl ?_ ?_<;>intro hlt3
  rotate_left
  · clear ih3
    rw [List.drop_eq_nil_of_le (by omega),rowsAt] at hj2
    repeat' first|(with_reducible first|refine za ?_|refine zb ?_|refine zc ?_)|refine ym zr ?_|(with_reducible first|refine zg ?_|refine zh ?_|refine zi ?_|refine zj ?_)|refine W.done zr ?_
    rw [hj2];rfl
  have hlt3:j<x.rows.l.length:=by omega
  obtain ⟨jn3,o3,cs3,ha3,hV3,hpt3⟩:=Sl.In.get hg.2.2.2.2.1 hlt3
  rw [List.drop_eq_getElem_cons hlt3,rowsAt] at hj2
  have hpk:prevK x.rows.l (j+1)=x.rows.l[j].k:=by simp only [prevK,List.getElem?_eq_getElem hlt3]
  generalize x.rows.l[j]=r at hpt3 hj2 hpk
  cases j with
  | zero =>
    rw [show prevK x.rows.l 0=0 from rfl,if_pos (by omega)] at hj2
    repeat' first|(refine W.gs rfl rfl rfl rfl ?_ ?_<;>intro _<;>first|(exfalso;omega)|skip)|refine W.ia tblOk rfl rfl rfl rfl rfl rfl ha3 (by omega) (by omega) ?_|refine W.ldV tblOk rfl rfl rfl hV3 hpt3 ?_|refine W.callP rfl rfl rfl rfl (hrow r m) ?_|(with_reducible first|refine za ?_|refine zb ?_|refine zc ?_)|refine ym zr ?_|refine yn 0 zr ?_|refine yn 1 zr ?_|(with_reducible first|refine zd ?_|refine ze ?_|refine zf ?_|refine zj ?_|refine zk ?_|refine zl ?_)|refine zw (by decide +kernel) ?_|refine zx zr zr zr ?_|refine W.condF zr ?_|(refine W.cond zr ?_ ?_<;>intro _)|refine W.done zr ?_
    · rename_i hq
      have hN:RowAt t r m=none:=Option.not_isSome_iff_eq_none.1 (by simpa using hq)
      refine hno ?_
      rw [hj2,hN];rfl
    · rename_i hq
      obtain ⟨m',hm'⟩:=Option.isSome_iff_exists.1 (show (RowAt t r m).isSome=true by simpa using hq)
      rw [hm',Option.getD_some,wN (by omega)]
      have h9:=ih3 ⟨(0+1,m'),by show 0+1≤_;omega,by rw [hj2,hm',hpk];rfl⟩ (by show x.rows.l.length-(0+1)<x.rows.l.length-0;omega)
      refine W.weak _ _ ?_ ?_ h9
      · exact ⟨rfl,rfl,rfl,rfl⟩
      · exact List.Sublist.refl _
  | succ j =>
    have hlt4:j<x.rows.l.length:=by omega
    obtain ⟨jn4,o4,cs4,ha4,hV4,hpt4⟩:=Sl.In.get hg.2.2.2.2.1 hlt4
    have hpk4:prevK x.rows.l (j+1)=x.rows.l[j].k:=by simp only [prevK,List.getElem?_eq_getElem hlt4]
    generalize x.rows.l[j]=r4 at hpt4 hpk4
    have e4:IntKind.i64.wrap (((j+1:Nat):Int)-1)=(j:Int):=by rw [w64 (by omega) (by omega)];omega
    rw [←e4] at hpt4
    have hK4:partG tbl 146 cs4 (o4+(IntKind.i64.wrap (((j+1:Nat):Int)-1)).toNat * 11+0)=some (.int .u8 r4.k):=cell_in (k:=0) hpt4 rfl
    rw [hpk4] at hj2
    repeat' first|(refine W.gs rfl rfl rfl rfl ?_ ?_<;>intro _<;>first|(exfalso;omega)|skip)|(refine W.ia tblOk rfl rfl rfl rfl rfl rfl ha4 (by rw [e4];omega) (by rw [e4];omega) ?_)|refine W.ldV tblOk rfl rfl rfl hV4 hK4 ?_|refine W.ia tblOk rfl rfl rfl rfl rfl rfl ha3 (by omega) (by omega) ?_|refine W.ldV tblOk rfl rfl rfl hV3 hpt3 ?_|refine W.callP rfl rfl rfl rfl (hrow r m) ?_|(with_reducible first|refine za ?_|refine zb ?_|refine zc ?_)|refine ym zr ?_|refine yn 0 zr ?_|refine yn 1 zr ?_|(with_reducible first|refine zd ?_|refine ze ?_|refine zf ?_|refine zj ?_|refine zk ?_|refine zl ?_)|refine zw (by decide +kernel) ?_|(refine W.condP zr ?_ ?_<;>intro _)|(refine W.cond zr ?_ ?_<;>intro _)|refine W.done zr ?_
    · refine hno ?_;rw [hj2,if_neg (by omega)]
    · rename_i hq
      have hN:RowAt t r m=none:=Option.not_isSome_iff_eq_none.1 (by simpa using hq)
      refine hno ?_
      rw [hj2,if_pos (by omega),hN];rfl
    · rename_i hq
      obtain ⟨m',hm'⟩:=Option.isSome_iff_exists.1 (show (RowAt t r m).isSome=true by simpa using hq)
      rw [hm',Option.getD_some,wN (by omega)]
      have h9:=ih3 ⟨((j+1)+1,m'),by show (j+1)+1≤_;omega,by rw [hj2,if_pos (by omega),hm',hpk];rfl⟩ (by show x.rows.l.length-((j+1)+1)<x.rows.l.length-(j+1);omega)
      refine W.weak _ _ ?_ ?_ h9
      · exact ⟨rfl,rfl,rfl,rfl⟩
      · exact List.Sublist.refl _
theorem formedR_c (hp:Plain g 82=true) {t:Table} (ht:t.Ok V) (hn:Cl Tryz.prog g V 125 [.str t.name] [] fun o _=>o=.ret (.bool (NameS t.name)))
    (hguard:∀x n,x.Ok V→Cl Tryz.prog g V 126 [t.v,x.v,.int .i64 n] [] fun o _=>o=.ret (placeV (guardAt t x n))) :
    Cl Tryz.prog g V 82 [t.v] [] fun o _=>o=.ret (.bool (decide (Formed t))):=by
  have hlen:=ht.states.1
  unfold Len at hlen
  refine Cl.enter hp Tryz.func82 rfl ?_
  repeat' first|refine W.callP rfl rfl rfl rfl hn ?_|(with_reducible first|refine za ?_|refine zb ?_|refine zc ?_)|refine ym zr ?_|refine yn 0 zr ?_|(refine yo zr ?_;intro _)|(with_reducible first|refine zd ?_|refine ze ?_|refine zj ?_|refine zk ?_)|refine zx zr zr zr ?_|(refine W.condP zr ?_ ?_<;>intro _)|refine W.condT zr ?_|(refine W.gs zr zr zr zr ?_ ?_<;>intro _)|(refine W.gsB zr zr zr zr ?_ ?_<;>intro _)|refine W.done zr ?_
  all_goals first
    | with_reducible refine W.id ?_
    | (show RO.ret (AV.bool false)=RO.ret (AV.bool _)
       have hF:decide (Formed t)=false:=decide_eq_false (by rintro ⟨⟨q1,q2,q3,q4,q5,q6,q7,q8⟩,-⟩;first|omega|(simp_all;done))
       rw [hF])
  have hh:Heads t:=by unfold Heads;simp_all;omega
  rw [show decide (Formed t)=(statesAt t t.states.l 0==some (t.code.l.length:Int)) by rw [Bool.eq_iff_iff];simp [Formed,hh]]
  generalize hR:statesAt t t.states.l 0=R
  have hno:R=none→RO.ret (oneOr [AV.bool false])=.ret (.bool (R==some (t.code.l.length:Int))):=fun h=>by rw [h];rfl
  refine W.loopR (α:={ p:Nat×Int // p.1≤t.states.l.length∧R=statesAt t (t.states.l.drop p.1) p.2 }) (fun p=>t.states.l.length-p.1.1) (fun p=>[(1,_),(4,.int .i64 p.1.2),(5,.int .i64 (p.1.1:Int))]) (fun _=>_) ⟨(0,0),by omega,by simp [hR]⟩ ⟨rfl,rfl,rfl⟩ (List.Sublist.refl _) ?_
  rintro ⟨⟨i,n⟩,hi1,hi2⟩ ih
  simp only at ih hi1 hi2 ⊢
  repeat first|(with_reducible first|refine za ?_|refine zb ?_|refine zc ?_)|refine ym zr ?_|refine yn 0 zr ?_
  refine W.condP rfl ?_ ?_<;>intro hlt
  rotate_left
  · clear ih
    rw [List.drop_eq_nil_of_le (by omega),statesAt] at hi2
    repeat' first|(with_reducible first|refine za ?_|refine zb ?_|refine zc ?_)|refine ym zr ?_|refine yn 0 zr ?_|(with_reducible first|refine zg ?_|refine zh ?_|refine zi ?_|refine zj ?_)|refine W.done zr ?_
    show RO.ret (AV.bool _)=RO.ret (AV.bool _)
    rw [hi2];congr 2
  have hlt:i<t.states.l.length:=by omega
  obtain ⟨jn,o,cs,ha,hV,hpt⟩:=Sl.In.get ht.states.2.1 hlt
  have hl:=ht.states.2.2 _ (List.getElem_mem hlt)
  rw [List.drop_eq_getElem_cons hlt] at hi2
  generalize t.states.l[i]=l at hpt hl hi2
  have hll:=hl.1
  unfold Len at hll
  repeat' first|refine W.ia tblOk rfl rfl rfl rfl rfl rfl ha (by omega) (by omega) ?_|refine W.ldV tblOk rfl rfl rfl hV hpt ?_|(with_reducible first|refine za ?_|refine zb ?_|refine zc ?_)|refine ym zr ?_|refine yn 0 zr ?_|(with_reducible first|refine zd ?_|refine ze ?_|refine zj ?_|refine zk ?_|refine zl ?_)|(refine W.condP zr ?_ ?_<;>intro _)|refine W.done zr ?_
  · refine hno ?_;rw [hi2,statesAt,if_neg (by omega)]
  have hl12:l.l.length≤12:=by omega
  rw [statesAt,if_pos hl12] at hi2
  refine W.loopR (α:={ p:Nat×Int // p.1≤l.l.length∧R=(guardsAt t (l.l.drop p.1) p.2).bind (statesAt t (t.states.l.drop (i+1))) }) (fun p=>l.l.length-p.1.1) (fun p=>[(1,_),(4,.int .i64 p.1.2),(5,.int .i64 (i:Int)),(6,.int .i64 (p.1.1:Int))]) (fun _=>_) ⟨(0,n),by omega,hi2⟩ ⟨rfl,rfl,rfl,rfl⟩ (List.Sublist.refl _) ?_
  clear hi2 n
  rintro ⟨⟨k,n⟩,hk1,hk2⟩ ih2
  simp only at ih2 hk1 hk2 ⊢
  repeat first|refine W.ia tblOk rfl rfl rfl rfl rfl rfl ha (by omega) (by omega) ?_|refine W.ldV tblOk rfl rfl rfl hV hpt ?_|(with_reducible first|refine za ?_|refine zb ?_|refine zc ?_)|refine ym zr ?_|refine yn 0 zr ?_
  refine W.condP rfl ?_ ?_<;>intro hlt2
  rotate_left
  · clear ih2
    rw [List.drop_eq_nil_of_le (by omega)] at hk2
    repeat first|(with_reducible first|refine zb ?_|refine zc ?_)|refine ym zr ?_|(with_reducible first|refine zf ?_|refine zg ?_|refine zh ?_|refine zi ?_)
    rw [wN (by omega)]
    have h9:=ih ⟨(i+1,n),by show i+1≤_;omega,by rw [hk2];rfl⟩ (by show t.states.l.length-(i+1)<t.states.l.length-i;omega)
    refine W.weak _ _ ?_ ?_ h9
    · exact ⟨rfl,rfl,rfl⟩
    · exact List.Sublist.refl _
  have hlt2:k<l.l.length:=by omega
  obtain ⟨jn2,o2,cs2,ha2,hV2,hpt2⟩:=Sl.In.get hl.2.1 hlt2
  have hg:=hl.2.2 _ (List.getElem_mem hlt2)
  rw [List.drop_eq_getElem_cons hlt2,guardsAt] at hk2
  generalize l.l[k]=x at hpt2 hg hk2
  repeat' first|refine W.ia tblOk rfl rfl rfl rfl rfl rfl ha (by omega) (by omega) ?_|refine W.ldV tblOk rfl rfl rfl hV hpt ?_|refine W.ia tblOk rfl rfl rfl rfl rfl rfl ha2 (by omega) (by omega) ?_|refine W.ldV tblOk rfl rfl rfl hV2 hpt2 ?_|refine W.callP rfl rfl rfl rfl (hguard x n hg) ?_|(with_reducible first|refine za ?_|refine zb ?_|refine zc ?_)|refine ym zr ?_|refine yn 0 zr ?_|(with_reducible first|refine zd ?_|refine ze ?_|refine zf ?_|refine zj ?_|refine zk ?_|refine zl ?_)|refine zw (by decide +kernel) ?_|(refine W.cond zr ?_ ?_<;>intro _)|refine W.done zr ?_
  · rename_i hq
    have hN:guardAt t x n=none:=Option.not_isSome_iff_eq_none.1 (by simpa using hq)
    refine hno ?_
    rw [hk2,hN];rfl
  · rename_i hq
    obtain ⟨m',hm'⟩:=Option.isSome_iff_exists.1 (show (guardAt t x n).isSome=true by simpa using hq)
    rw [hm',Option.getD_some,wN (by omega)]
    have h9:=ih2 ⟨(k+1,m'),by show k+1≤_;omega,by rw [hk2,hm'];rfl⟩ (by show l.l.length-(k+1)<l.l.length-k;omega)
    refine W.weak _ _ ?_ ?_ h9
    · exact ⟨rfl,rfl,rfl,rfl⟩
    · exact List.Sublist.refl _
end Go.Proofs.YtoegffiapnnkiaaGreat.Abs
