/- Parts of one proof. No condition but those that each theorem names. -/
import Derived.Test.YtoegffiapnnkiaaGreatPT06
import Derived.Test.YtoegffiapnnkiaaGreatPT20
import Derived.Test.YtoegffiapnnkiaaGreatPT44
namespace Go.Proofs.YtoegffiapnnkiaaGreat.Abs
open Go
set_option linter.unusedVariables false
set_option linter.unusedSimpArgs false
set_option maxRecDepth 100000
set_option maxHeartbeats 4000000
attribute [local irreducible] W Cl Bd
variable {g:Cg} {V:K→Option (List AV)}
theorem sameMode_c (hp:Plain g 17=true) {a b:Sl Int} (ha:a.In V false 1 (AV.int .i64)) (hb:b.In V false 1 (AV.int .i64)) (h:a.l=b.l) (hl:a.l.length≤10000000) (s:Int) :
    Cl Tryz.prog g V 17 [.agg [.int .i64 s,a.v],.agg [.int .i64 s,b.v]] [] fun o _=>o=.ret (.bool true):=by
  refine Cl.enter hp Tryz.func17 rfl ?_
  have hlen:(a.l.length:Int)=(b.l.length:Int):=by rw [h]
  repeat first|(refine W.gs rfl rfl rfl rfl (fun h=>absurd rfl h) ?_;intro _)|(with_reducible first|refine za ?_|refine zb ?_|refine zc ?_)|refine ym zr ?_|refine yn 0 zr ?_|refine yn 1 zr ?_|(refine yo zr ?_;intro _)
  refine W.condP rfl (fun h=>absurd hlen h) (fun _=>?_)
  repeat first|(with_reducible first|refine za ?_|refine zb ?_|refine zc ?_)|refine ym zr ?_|(with_reducible first|refine zd ?_|refine ze ?_)
  rename_i ib ia x1 x2
  refine W.loopR (α:={ i:Nat // i≤a.l.length }) (fun i=>a.l.length-i.1) (fun i=>[(2,.ptr (some (ib,0))),(3,.ptr (some (ia,0))),(5,.int .i64 (i.1:Int))]) (fun _=>[(ia,.cells [.int .i64 s,b.v] 30 2 true),(ib,.cells [.int .i64 s,a.v] 30 2 true)]) ⟨0,Nat.zero_le _⟩ ⟨rfl,rfl,rfl⟩ (List.Sublist.refl _) ?_
  rintro ⟨i,hi⟩ ih
  simp only at ih hi ⊢
  by_cases hlt:i<a.l.length
  · have hi0:(0:Int)≤(i:Int):=by omega
    have hi1:(i:Int)<(a.l.length:Int):=by omega
    have hi2:(i:Int)<(b.l.length:Int):=by omega
    obtain ⟨j1,o1,c1,ha1,hV1,hp1⟩:=num_in0 ha hi0 hi1
    obtain ⟨j2,o2,c2,ha2,hV2,hp2⟩:=num_in0 hb hi0 hi2
    rw [←h] at hp2
    have ew:IntKind.i64.wrap ((i:Int)+1)=((i+1:Nat):Int):=by rw [w64 (by omega) (by omega)];omega
    have hnext:=ih ⟨i+1,hlt⟩ (by show a.l.length-(i+1)<a.l.length-i;omega)
    clear ih
    repeat first|(with_reducible first|refine za ?_|refine zb ?_|refine zc ?_)|refine ym zr ?_|refine yn 1 zr ?_
    refine W.condP rfl (fun _=>?_) (fun h=>absurd hi1 h)
    repeat first|refine W.ia tblOk rfl rfl rfl rfl rfl rfl ha1 hi0 hi1 ?_|refine W.ldV tblOk rfl rfl rfl hV1 hp1 ?_|refine W.ia tblOk rfl rfl rfl rfl rfl rfl ha2 hi0 hi2 ?_|refine W.ldV tblOk rfl rfl rfl hV2 hp2 ?_|(with_reducible first|refine za ?_|refine zc ?_)|refine ym zr ?_|refine yn 0 zr ?_|refine yn 1 zr ?_|(with_reducible first|refine zd ?_|refine ze ?_)|refine zw (by decide +kernel) ?_
    refine W.condP rfl (fun h=>absurd rfl h) (fun _=>?_)
    repeat first|(with_reducible first|refine zb ?_|refine zc ?_)|refine ym zr ?_|(with_reducible first|refine zd ?_|refine zf ?_)
    rw [ew]
    exact W.wk hnext ⟨rfl,rfl,rfl⟩ (List.Sublist.refl _)
  · clear ih
    repeat first|(with_reducible first|refine za ?_|refine zb ?_|refine zc ?_)|refine ym zr ?_|refine yn 1 zr ?_
    refine W.condP rfl (fun h=>absurd h (by omega)) (fun _=>?_)
    repeat' first|(with_reducible first|refine za ?_|refine zb ?_|refine zc ?_)|refine ym zr ?_|(with_reducible first|refine zg ?_|refine zh ?_|refine zi ?_|refine zj ?_)|refine W.done zr ?_
    rfl
def nilV:AV:=.slice none 0 (.ex 0)
theorem ownInts_0 (hp:Plain g 62=true):Cl Tryz.prog g V 62 [nilV] [] fun o _=>o=.ret (.bool true):=by
  refine Cl.enter hp Tryz.func62 rfl ?_
  repeat' first|refine W.condF rfl ?_|refine W.loop ?_|(with_reducible first|refine za ?_|refine zb ?_|refine zc ?_)|refine ym zr ?_|(with_reducible first|refine ze ?_|refine zg ?_|refine zh ?_|refine zi ?_|refine zj ?_)|refine W.done zr ?_
  all_goals first|rfl|(exfalso;omega)
theorem ownNumbers_0 (hp:Plain g 64=true):Cl Tryz.prog g V 64 [nilV] [] fun o _=>o=.ret (.bool true):=by
  refine Cl.enter hp Tryz.func64 rfl ?_
  repeat' first|refine W.condF rfl ?_|refine W.loop ?_|(with_reducible first|refine za ?_|refine zb ?_|refine zc ?_)|refine ym zr ?_|(with_reducible first|refine ze ?_|refine zg ?_|refine zh ?_|refine zi ?_|refine zj ?_)|refine W.done zr ?_
  all_goals first|rfl|(exfalso;omega)
theorem ownOrders_0 (hp:Plain g 65=true):Cl Tryz.prog g V 65 [nilV] [] fun o _=>o=.ret (.bool true):=by
  refine Cl.enter hp Tryz.func65 rfl ?_
  repeat' first|refine W.condF rfl ?_|refine W.loop ?_|(with_reducible first|refine za ?_|refine zb ?_|refine zc ?_)|refine ym zr ?_|(with_reducible first|refine ze ?_|refine zg ?_|refine zh ?_|refine zi ?_|refine zj ?_)|refine W.done zr ?_
  all_goals first|rfl|(exfalso;omega)
theorem ownLevels_0 (hp:Plain g 66=true):Cl Tryz.prog g V 66 [nilV] [] fun o _=>o=.ret (.bool true):=by
  refine Cl.enter hp Tryz.func66 rfl ?_
  repeat' first|refine W.condF rfl ?_|refine W.loop ?_|(with_reducible first|refine za ?_|refine zb ?_|refine zc ?_)|refine ym zr ?_|(with_reducible first|refine ze ?_|refine zg ?_|refine zh ?_|refine zi ?_|refine zj ?_)|refine W.done zr ?_
  all_goals first|rfl|(exfalso;omega)
theorem ownHits_0 (hp:Plain g 67=true):Cl Tryz.prog g V 67 [nilV] [] fun o _=>o=.ret (.bool true):=by
  refine Cl.enter hp Tryz.func67 rfl ?_
  repeat' first|refine W.condF rfl ?_|refine W.loop ?_|(with_reducible first|refine za ?_|refine zb ?_|refine zc ?_)|refine ym zr ?_|(with_reducible first|refine ze ?_|refine zg ?_|refine zh ?_|refine zi ?_|refine zj ?_)|refine W.done zr ?_
  all_goals first|rfl|(exfalso;omega)
theorem ownEvents_0 (hp:Plain g 68=true):Cl Tryz.prog g V 68 [nilV] [] fun o _=>o=.ret (.bool true):=by
  refine Cl.enter hp Tryz.func68 rfl ?_
  repeat' first|refine W.condF rfl ?_|refine W.loop ?_|(with_reducible first|refine za ?_|refine zb ?_|refine zc ?_)|refine ym zr ?_|(with_reducible first|refine ze ?_|refine zg ?_|refine zh ?_|refine zi ?_|refine zj ?_)|refine W.done zr ?_
  all_goals first|rfl|(exfalso;omega)
theorem ownFeeds_0 (hp:Plain g 69=true):Cl Tryz.prog g V 69 [nilV] [] fun o _=>o=.ret (.bool true):=by
  refine Cl.enter hp Tryz.func69 rfl ?_
  repeat' first|refine W.condF rfl ?_|refine W.loop ?_|(with_reducible first|refine za ?_|refine zb ?_|refine zc ?_)|refine ym zr ?_|(with_reducible first|refine ze ?_|refine zg ?_|refine zh ?_|refine zi ?_|refine zj ?_)|refine W.done zr ?_
  all_goals first|rfl|(exfalso;omega)
theorem ownTolds_0 (hp:Plain g 71=true):Cl Tryz.prog g V 71 [nilV] [] fun o _=>o=.ret (.bool true):=by
  refine Cl.enter hp Tryz.func71 rfl ?_
  repeat' first|refine W.condF rfl ?_|refine W.loop ?_|(with_reducible first|refine za ?_|refine zb ?_|refine zc ?_)|refine ym zr ?_|(with_reducible first|refine ze ?_|refine zg ?_|refine zh ?_|refine zi ?_|refine zj ?_)|refine W.done zr ?_
  all_goals first|rfl|(exfalso;omega)
theorem ownTexts_0 (hp:Plain g 72=true):Cl Tryz.prog g V 72 [nilV] [] fun o _=>o=.ret (.bool true):=by
  refine Cl.enter hp Tryz.func72 rfl ?_
  repeat' first|refine W.condF rfl ?_|refine W.loop ?_|(with_reducible first|refine za ?_|refine zb ?_|refine zc ?_)|refine ym zr ?_|(with_reducible first|refine ze ?_|refine zg ?_|refine zh ?_|refine zi ?_|refine zj ?_)|refine W.done zr ?_
  all_goals first|rfl|(exfalso;omega)
def bookB (k:K) (a b:AV):K×Bk:=(k,.cells [nilV,a,nilV,nilV,nilV,nilV,nilV,nilV,b,nilV,nilV] 49 11 true)
structure BookG (g:Cg):Prop where
  longs:Plain g 18=true
  own:Plain g 19=true
  ownLongs:Plain g 63=true
  ownInts:Plain g 62=true
  ownNumbers:Plain g 64=true
  ownOrders:Plain g 65=true
  ownLevels:Plain g 66=true
  ownHits:Plain g 67=true
  ownEvents:Plain g 68=true
  ownFeeds:Plain g 69=true
  ownActions:Plain g 70=true
  ownTolds:Plain g 71=true
  ownTexts:Plain g 72=true
theorem longs_c (B:BookG g) (k:K) (b:AV) (jl:K) (bk:Bk) (rows:List AV) (q:Nat) (hg:0<rows.length→Grown bk rows 22 1 q∧q≤rows.length) (hm:rows.length≤1000000) (a:Option (K×Nat)) (n:Nat) (c:Cp) :
    Cl Tryz.prog g V 18 [.ptr (some (k,0)),.slice a n c] (bookB k (hdL jl rows.length) b::blL jl bk rows.length) fun o Δ=>o=.ret (.tup []) ∧
      ∃jl' bk' q',Δ=[bookB k (hdL jl' (rows.length+1)) b,(jl',bk')]∧Grown bk' (rows++[.slice a n c]) 22 1 q'∧q'≤rows.length+1:=by
  refine Cl.enter B.longs Tryz.func18 rfl ?_
  unfold bookB
  cases rows with
  | nil =>
    repeat first|(refine W.bsl tblOk rfl rfl rfl rfl (by decide) rfl rfl rfl ?_;intro i0)|(refine W.appN tblOk rfl rfl rfl rfl rfl rfl rfl (by decide) (by decide) (by decide) (src_own (p:=0) rfl rfl rfl) rfl rfl rfl ?_;intro i2)|(with_reducible first|refine zb ?_|refine zc ?_)|refine ym zr ?_|refine yn 0 zr ?_|refine yu zr ?_
    refine W.dropE [_,_] (.cons_cons _ (.cons_cons _ (.cons _ .slnil))) ?_
    repeat' first|refine W.doneN zr ?_
    exact ⟨rfl,_,_,0,rfl,.inl ⟨rfl,rfl⟩,Nat.zero_le _⟩
  | cons r0 rows =>
    generalize hR:r0::rows=R at *
    have hpos:0<R.length:=by rw [←hR];simp
    obtain ⟨hg1,hq1⟩:=hg hpos
    have hold:takeL (R.length * 1) R=some R:=by rw [Nat.mul_one];exact takeL_all _
    rw [hdL_pos hpos,blL_pos hpos]
    repeat first|(refine W.bsl tblOk rfl rfl rfl rfl (by decide) rfl rfl rfl ?_;intro i0)|with_reducible refine zb ?_|refine ym zr ?_|refine yn 0 zr ?_
    refine W.fr2 ?_
    refine W.appK (len:=R.length) tblOk hg1 rfl rfl rfl rfl rfl rfl rfl (by decide) (by decide) ?hb ?hq hold (src_own (p:=1) rfl rfl rfl) rfl rfl rfl ?_
    case hb=>show (R.length+1) * 24≤_;omega
    case hq=>omega
    intro i2
    repeat first|with_reducible refine zc ?_|refine ym zr ?_|refine yv zr ?_
    refine W.dropE [_,_] (.cons_cons _ (.cons_cons _ (.cons _ (.cons _ .slnil)))) ?_
    repeat' first|refine W.doneN zr ?_
    refine ⟨rfl,i2,_,R.length * 1,?_,.inr rfl,by omega⟩
    rw [hdL_pos (m:=R.length+1) (by omega)]
end Go.Proofs.YtoegffiapnnkiaaGreat.Abs
