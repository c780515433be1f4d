/- A row of numbers is lent with room behind it, and looked at after. No condition but those that each theorem names. -/
import Derived.Test.YtoegffiapnnkiaaGreatOC
import Derived.Test.YtoegffiapnnkiaaGreatTY
namespace Go.Proofs.YtoegffiapnnkiaaGreat.Abs
open Go
set_option linter.unusedVariables false
set_option linter.unusedSimpArgs false
set_option maxRecDepth 100000
set_option maxHeartbeats 4000000
theorem setLs_0 {α:Type}:∀(a b r:List α),b.length=a.length→setLs (b++r) 0 a=some (a++r)
  | [],[],r,_=>by cases r<;>rfl
  | x::a,y::b,r,h=>by
    show consO x (setLs (b++r) 0 a)=_
    rw [setLs_0 a b r (by simpa using h)];rfl
theorem setLs_cat {α:Type} (a b:List α) (h:b.length=a.length) (r:List α):∀(p:List α),setLs (p++(b++r)) p.length a=some (p++(a++r))
  | []=>setLs_0 a b r h
  | x::p=>by
    show consO x (setLs (p++(b++r)) p.length a)=_
    rw [setLs_cat a b h r p];rfl
theorem repL_add {α:Type} (z:List α):∀m n:Nat,repL (m+n) z=repL m z++repL n z
  | 0,n=>by rw [Nat.zero_add];rfl
  | m+1,n=>by rw [Nat.succ_add];show z++repL (m+n) z=(z++repL m z)++repL n z;rw [repL_add z m n,List.append_assoc]
theorem iCs_len (l:List Int):(l.flatMap iC).length=l.length:=by
  induction l with
  | nil=>rfl
  | cons x l ih=>rw [List.flatMap_cons,List.length_append,ih];show 1+l.length=l.length+1;omega
attribute [local irreducible] W Cl Bd
variable {g:Cg} {V:K→Option (List AV)}
def lentB (i:K) (l:List Int):K×Bk:=(i,.cells (l.flatMap iC++[.int .i64 (-771),.int .i64 (-772)]) 2 1 true)
def lentV (i:K) (n:Nat):AV:=.slice (some (i,0)) n (.ex (n+2))
theorem lentLongs_c (hp:Plain g 20=true) {s:Sl Int} (hs:s.In V false 1 (AV.int .i64)) (hl:s.l.length≤1000000) :
    Cl Tryz.prog g V 20 [s.v] [] fun o Δ=>∃i,o=.ret (lentV i s.l.length)∧∃R,Δ=lentB i s.l::R:=by
  refine Cl.enter hp Tryz.func20 rfl ?_
  have e2:IntKind.i64.wrap ((s.l.length:Int)+2)=((s.l.length+2:Nat):Int):=by rw [w64 (by omega) (by omega)];omega
  have hz2:setLs (s.l.flatMap iC++(repL 2 [AV.int .i64 0]++[])) ((0+s.l.length) * 1) [.int .i64 (-771),.int .i64 (-772)]=some (s.l.flatMap iC++([.int .i64 (-771),.int .i64 (-772)]++[])):=by
    have h:=setLs_cat [AV.int .i64 (-771),.int .i64 (-772)] (repL 2 [AV.int .i64 0]) rfl [] (s.l.flatMap iC)
    rw [iCs_len] at h
    rw [Nat.mul_one,Nat.zero_add];exact h
  have hrep:repL (s.l.length+2) [AV.int .i64 0]=repL s.l.length [AV.int .i64 0]++(repL 2 [AV.int .i64 0]++[]):=by rw [repL_add,List.append_nil]
  have hz1:setLs (repL (s.l.length+2) [AV.int .i64 0]) (0 * 1) (s.l.flatMap iC)=some (s.l.flatMap iC++(repL 2 [AV.int .i64 0]++[])):=by
    rw [hrep,Nat.zero_mul]
    exact setLs_0 _ _ _ (by rw [repL_length,iCs_len];simp)
  have hsrc:=fun D:Dm=>srcI (V:=V) (Δ:=D) hs
  by_cases h0:s.l.length=0
  · have hs0:s.l=[]:=List.length_eq_zero_iff.1 h0
    have hno:=src_none (sz:=1) hs0
    obtain ⟨a,c,l⟩:=s
    simp only at hs0;subst hs0
    clear hsrc hz1 hrep
    repeat first|(refine W.mkE (len:=0) (cap:=2) tblOk rfl (congrArg (fun z=>some (AV.int .i64 z)) e2) rfl rfl rfl (by omega) (by omega) (by decide) rfl rfl ?_;intro i)|refine W.app0 tblOk rfl rfl rfl rfl rfl rfl rfl (by decide) (by omega) (fun h=>by cases h) hno rfl rfl ?_|(refine W.bsl tblOk rfl rfl rfl rfl (by decide) rfl rfl rfl ?_;intro j)|(with_reducible first|refine za ?_|refine zb ?_|refine zc ?_)|refine ym zr ?_|refine yn 0 zr ?_|refine yn 1 zr ?_|refine yn 2 zr ?_|refine yn 3 zr ?_|(refine yo zr ?_;intro _)|(refine yp zr ?_;intro _)|refine yq zr ?_|refine ys zr ?_|refine yu zr ?_|refine yv zr ?_|(with_reducible first|refine zd ?_|refine ze ?_|refine zf ?_|refine zg ?_|refine zh ?_|refine zi ?_|refine zj ?_|refine zk ?_|refine zl ?_)|refine zz zr ?_|refine zw (by decide +kernel) ?_|refine zx zr zr zr ?_|refine zy zr zr ?_|refine W.condT zr ?_|refine W.condF zr ?_
    refine W.perm [(i,_),(j,_)] (List.Perm.swap _ _ _) ?_
    refine W.appE (k:=2) (len:=0) (m:=2) tblOk rfl rfl rfl rfl rfl rfl rfl (by decide) (by omega) (by omega) (by omega) hz2 (src_own (p:=1) rfl rfl rfl) rfl rfl rfl ?_
    repeat' first|refine W.cutS (m:=0) tblOk rfl rfl rfl rfl (by show 0≤2;omega) rfl rfl ?_|(with_reducible first|refine za ?_|refine zb ?_|refine zc ?_)|refine ym zr ?_|refine yn 0 zr ?_|refine yn 1 zr ?_|refine yn 2 zr ?_|refine yn 3 zr ?_|(refine yo zr ?_;intro _)|(refine yp zr ?_;intro _)|refine yq zr ?_|refine ys zr ?_|refine yu zr ?_|refine yv zr ?_|(with_reducible first|refine zd ?_|refine ze ?_|refine zf ?_|refine zg ?_|refine zh ?_|refine zi ?_|refine zj ?_|refine zk ?_|refine zl ?_)|refine zz zr ?_|refine zw (by decide +kernel) ?_|refine zx zr zr zr ?_|refine zy zr zr ?_|(refine W.condP zr ?_ ?_<;>intro _)|refine W.condT zr ?_|refine W.condF zr ?_|(refine W.cond zr ?_ ?_<;>intro _)|(refine W.gs zr zr zr zr ?_ ?_<;>intro _)|(refine W.gsB zr zr zr zr ?_ ?_<;>intro _)|refine W.done zr ?_|refine W.doneN zr ?_
    exact ⟨i,rfl,[_],rfl⟩
  · skip
    repeat first|(refine W.mkE (len:=0) (cap:=s.l.length+2) tblOk rfl (congrArg (fun z=>some (AV.int .i64 z)) e2) rfl rfl rfl (by omega) (by omega) (by decide) rfl rfl ?_;intro i)|refine W.appE (k:=s.l.length+2) (len:=0) (m:=s.l.length) tblOk rfl rfl rfl rfl rfl rfl rfl (by decide) (by omega) (by omega) (by omega) hz1 (hsrc _) (leaf_all _ leafI _) rfl rfl ?_|(refine W.bsl tblOk rfl rfl rfl rfl (by decide) rfl rfl rfl ?_;intro j)|(with_reducible first|refine za ?_|refine zb ?_|refine zc ?_)|refine ym zr ?_|refine yn 0 zr ?_|refine yn 1 zr ?_|refine yn 2 zr ?_|refine yn 3 zr ?_|(refine yo zr ?_;intro _)|(refine yp zr ?_;intro _)|refine yq zr ?_|refine ys zr ?_|refine yu zr ?_|refine yv zr ?_|(with_reducible first|refine zd ?_|refine ze ?_|refine zf ?_|refine zg ?_|refine zh ?_|refine zi ?_|refine zj ?_|refine zk ?_|refine zl ?_)|refine zz zr ?_|refine zw (by decide +kernel) ?_|refine zx zr zr zr ?_|refine zy zr zr ?_|refine W.condT zr ?_|refine W.condF zr ?_
    refine W.perm [(i,_),(j,_)] (List.Perm.swap _ _ _) ?_
    refine W.appE (k:=s.l.length+2) (len:=0+s.l.length) (m:=2) tblOk rfl rfl rfl rfl rfl rfl rfl (by decide) (by omega) (by omega) (by omega) hz2 (src_own (p:=1) rfl rfl rfl) rfl rfl rfl ?_
    repeat' first|refine W.cutS (m:=s.l.length) tblOk rfl rfl rfl rfl (by show s.l.length≤s.l.length+2;omega) rfl rfl ?_|(with_reducible first|refine za ?_|refine zb ?_|refine zc ?_)|refine ym zr ?_|refine yn 0 zr ?_|refine yn 1 zr ?_|refine yn 2 zr ?_|refine yn 3 zr ?_|(refine yo zr ?_;intro _)|(refine yp zr ?_;intro _)|refine yq zr ?_|refine ys zr ?_|refine yu zr ?_|refine yv zr ?_|(with_reducible first|refine zd ?_|refine ze ?_|refine zf ?_|refine zg ?_|refine zh ?_|refine zi ?_|refine zj ?_|refine zk ?_|refine zl ?_)|refine zz zr ?_|refine zw (by decide +kernel) ?_|refine zx zr zr zr ?_|refine zy zr zr ?_|(refine W.condP zr ?_ ?_<;>intro _)|refine W.condT zr ?_|refine W.condF zr ?_|(refine W.cond zr ?_ ?_<;>intro _)|(refine W.gs zr zr zr zr ?_ ?_<;>intro _)|(refine W.gsB zr zr zr zr ?_ ?_<;>intro _)|refine W.done zr ?_|refine W.doneN zr ?_
    exact ⟨i,rfl,[_],rfl⟩
theorem sameLongs_c (hp:Plain g 79=true) {a b:Sl Int} (ha:a.In V false 1 (AV.int .i64)) (hb:b.In V false 1 (AV.int .i64)) (h:a.l=b.l) (hl:a.l.length≤10000000) :
    Cl Tryz.prog g V 79 [a.v,b.v] [] fun o _=>o=.ret (.bool true):=by
  refine Cl.enter hp Tryz.func79 rfl ?_
  have hlen:(a.l.length:Int)=(b.l.length:Int):=by rw [h]
  repeat first|(with_reducible first|refine za ?_|refine zb ?_|refine zc ?_)|refine ym zr ?_|refine yn 0 zr ?_|refine yn 1 zr ?_|refine yn 2 zr ?_|refine yn 3 zr ?_|(refine yo zr ?_;intro _)|(refine yp zr ?_;intro _)|refine yq zr ?_|refine ys zr ?_|refine yu zr ?_|refine yv zr ?_|(with_reducible first|refine zd ?_|refine ze ?_|refine zf ?_|refine zg ?_|refine zh ?_|refine zi ?_|refine zj ?_|refine zk ?_|refine zl ?_)|refine zz zr ?_|refine zw (by decide +kernel) ?_|refine zx zr zr zr ?_|refine zy zr zr ?_|refine W.condT zr ?_|refine W.condF zr ?_
  refine W.condP rfl (fun h=>absurd hlen h) (fun _=>?_)
  repeat first|(with_reducible first|refine za ?_|refine zb ?_|refine zc ?_)|refine ym zr ?_|refine yn 0 zr ?_|refine yn 1 zr ?_|refine yn 2 zr ?_|refine yn 3 zr ?_|(refine yo zr ?_;intro _)|(refine yp zr ?_;intro _)|refine yq zr ?_|refine ys zr ?_|refine yu zr ?_|refine yv zr ?_|(with_reducible first|refine zd ?_|refine ze ?_|refine zf ?_|refine zg ?_|refine zh ?_|refine zi ?_|refine zj ?_|refine zk ?_|refine zl ?_)|refine zz zr ?_|refine zw (by decide +kernel) ?_|refine zx zr zr zr ?_|refine zy zr zr ?_|refine W.condT zr ?_|refine W.condF zr ?_
  refine W.loopR (α:={ i:Nat // i≤a.l.length }) (fun i=>a.l.length-i.1) (fun i=>[(0,a.v),(1,b.v),(5,.int .i64 (i.1:Int))]) (fun _=>[]) ⟨0,Nat.zero_le _⟩ ⟨rfl,rfl,rfl⟩ (List.Sublist.refl _) ?_
  rintro ⟨i,hi⟩ ih
  simp only at ih hi ⊢
  by_cases hlt:i<a.l.length
  · have hi0:(0:Int)≤(i:Int):=by omega
    have hi1:(i:Int)<(a.l.length:Int):=by omega
    have hi2:(i:Int)<(b.l.length:Int):=by omega
    obtain ⟨j1,o1,c1,ha1,hV1,hp1⟩:=num_in0 ha hi0 hi1
    obtain ⟨j2,o2,c2,ha2,hV2,hp2⟩:=num_in0 hb hi0 hi2
    rw [←h] at hp2
    have ew:IntKind.i64.wrap ((i:Int)+1)=((i+1:Nat):Int):=by rw [w64 (by omega) (by omega)];omega
    have hnext:=ih ⟨i+1,hlt⟩ (by show a.l.length-(i+1)<a.l.length-i;omega)
    clear ih
    repeat first|(with_reducible first|refine za ?_|refine zb ?_|refine zc ?_)|refine ym zr ?_|refine yn 0 zr ?_|refine yn 1 zr ?_|refine yn 2 zr ?_|refine yn 3 zr ?_|(refine yo zr ?_;intro _)|(refine yp zr ?_;intro _)|refine yq zr ?_|refine ys zr ?_|refine yu zr ?_|refine yv zr ?_|(with_reducible first|refine zd ?_|refine ze ?_|refine zf ?_|refine zg ?_|refine zh ?_|refine zi ?_|refine zj ?_|refine zk ?_|refine zl ?_)|refine zz zr ?_|refine zw (by decide +kernel) ?_|refine zx zr zr zr ?_|refine zy zr zr ?_|refine W.condT zr ?_|refine W.condF zr ?_
    refine W.condP rfl (fun _=>?_) (fun h=>absurd hi1 h)
    repeat first|refine W.ia tblOk rfl rfl rfl rfl rfl rfl ha1 hi0 hi1 ?_|refine W.ldV tblOk rfl rfl rfl hV1 hp1 ?_|refine W.ia tblOk rfl rfl rfl rfl rfl rfl ha2 hi0 hi2 ?_|refine W.ldV tblOk rfl rfl rfl hV2 hp2 ?_|(with_reducible first|refine za ?_|refine zb ?_|refine zc ?_)|refine ym zr ?_|refine yn 0 zr ?_|refine yn 1 zr ?_|refine yn 2 zr ?_|refine yn 3 zr ?_|(refine yo zr ?_;intro _)|(refine yp zr ?_;intro _)|refine yq zr ?_|refine ys zr ?_|refine yu zr ?_|refine yv zr ?_|(with_reducible first|refine zd ?_|refine ze ?_|refine zf ?_|refine zg ?_|refine zh ?_|refine zi ?_|refine zj ?_|refine zk ?_|refine zl ?_)|refine zz zr ?_|refine zw (by decide +kernel) ?_|refine zx zr zr zr ?_|refine zy zr zr ?_|refine W.condT zr ?_|refine W.condF zr ?_
    refine W.condP rfl (fun h=>absurd rfl h) (fun _=>?_)
    repeat first|(with_reducible first|refine za ?_|refine zb ?_|refine zc ?_)|refine ym zr ?_|refine yn 0 zr ?_|refine yn 1 zr ?_|refine yn 2 zr ?_|refine yn 3 zr ?_|(refine yo zr ?_;intro _)|(refine yp zr ?_;intro _)|refine yq zr ?_|refine ys zr ?_|refine yu zr ?_|refine yv zr ?_|(with_reducible first|refine zd ?_|refine ze ?_|refine zf ?_|refine zg ?_|refine zh ?_|refine zi ?_|refine zj ?_|refine zk ?_|refine zl ?_)|refine zz zr ?_|refine zw (by decide +kernel) ?_|refine zx zr zr zr ?_|refine zy zr zr ?_|refine W.condT zr ?_|refine W.condF zr ?_
    rw [ew]
    exact W.wk hnext ⟨rfl,rfl,rfl⟩ (List.Sublist.refl _)
  · clear ih
    repeat first|(with_reducible first|refine za ?_|refine zb ?_|refine zc ?_)|refine ym zr ?_|refine yn 0 zr ?_|refine yn 1 zr ?_|refine yn 2 zr ?_|refine yn 3 zr ?_|(refine yo zr ?_;intro _)|(refine yp zr ?_;intro _)|refine yq zr ?_|refine ys zr ?_|refine yu zr ?_|refine yv zr ?_|(with_reducible first|refine zd ?_|refine ze ?_|refine zf ?_|refine zg ?_|refine zh ?_|refine zi ?_|refine zj ?_|refine zk ?_|refine zl ?_)|refine zz zr ?_|refine zw (by decide +kernel) ?_|refine zx zr zr zr ?_|refine zy zr zr ?_|refine W.condT zr ?_|refine W.condF zr ?_
    refine W.condP rfl (fun h=>absurd h (by omega)) (fun _=>?_)
    repeat' first|(with_reducible first|refine za ?_|refine zb ?_|refine zc ?_)|refine ym zr ?_|refine yn 0 zr ?_|refine yn 1 zr ?_|refine yn 2 zr ?_|refine yn 3 zr ?_|(refine yo zr ?_;intro _)|(refine yp zr ?_;intro _)|refine yq zr ?_|refine ys zr ?_|refine yu zr ?_|refine yv zr ?_|(with_reducible first|refine zd ?_|refine ze ?_|refine zf ?_|refine zg ?_|refine zh ?_|refine zi ?_|refine zj ?_|refine zk ?_|refine zl ?_)|refine zz zr ?_|refine zw (by decide +kernel) ?_|refine zx zr zr zr ?_|refine zy zr zr ?_|(refine W.condP zr ?_ ?_<;>intro _)|refine W.condT zr ?_|refine W.condF zr ?_|(refine W.cond zr ?_ ?_<;>intro _)|(refine W.gs zr zr zr zr ?_ ?_<;>intro _)|(refine W.gsB zr zr zr zr ?_ ?_<;>intro _)|refine W.done zr ?_|refine W.doneN zr ?_
    rfl
theorem lent_in {i:K} {l:List Int} (hV:V i=some (l.flatMap iC++[.int .i64 (-771),.int .i64 (-772)])):(⟨some (i,0),.ex (l.length+2),l⟩:Sl Int).In V false 1 (AV.int .i64):=fun k x hx=>by
  refine ⟨i,0,_,rfl,hV,?_⟩
  have hk:k<l.length:=(List.getElem?_eq_some_iff.1 hx).1
  have key:∀(l:List Int) (k:Nat),l[k]?=some x→(l.flatMap iC)[k]?=some (AV.int .i64 x):=fun l=>by
    induction l with
    | nil=>intro k h;simp at h
    | cons y l ih =>
      intro k h
      cases k with
      | zero=>simp at h;subst h;rfl
      | succ k=>exact ih k (by simpa using h)
  show getL _ _=_
  rw [getL_eq,Nat.zero_add,Nat.mul_one,List.getElem?_append_left (by rw [iCs_len];exact hk)]
  exact key l k hx
theorem wholeLongs_c (hp:Plain g 24=true) (h1:Plain g 79=true) {i:K} {b:Sl Int} (hV:V i=some (b.l.flatMap iC++[.int .i64 (-771),.int .i64 (-772)])) (hb:b.In V false 1 (AV.int .i64)) (hl:b.l.length≤1000000) :
    Cl Tryz.prog g V 24 [lentV i b.l.length,b.v] [] fun o _=>o=.ret (.bool true):=by
  refine Cl.enter hp Tryz.func24 rfl ?_
  have e2:IntKind.i64.wrap ((b.l.length:Int)+2)=((b.l.length+2:Nat):Int):=by rw [w64 (by omega) (by omega)];omega
  have e1:IntKind.i64.wrap ((b.l.length:Int)+1)=((b.l.length+1:Nat):Int):=by rw [w64 (by omega) (by omega)];omega
  have hs:=sameLongs_c (g:=g) h1 (lent_in hV) hb rfl (by show b.l.length≤_;omega)
  have p1:partG tbl 2 (b.l.flatMap iC++[AV.int .i64 (-771),AV.int .i64 (-772)]) (0+(b.l.length:Int).toNat * 1)=some (AV.int .i64 (-771)):=part_leaf rfl (by
    rw [List.getElem?_append_right (by rw [iCs_len];omega),iCs_len,show 0+(b.l.length:Int).toNat * 1-b.l.length=0 by omega];rfl)
  have p2:partG tbl 2 (b.l.flatMap iC++[AV.int .i64 (-771),AV.int .i64 (-772)]) (0+((b.l.length+1:Nat):Int).toNat * 1)=some (AV.int .i64 (-772)):=part_leaf rfl (by
    rw [List.getElem?_append_right (by rw [iCs_len];omega),iCs_len,show 0+((b.l.length+1:Nat):Int).toNat * 1-b.l.length=1 by omega];rfl)
  repeat first|refine W.capE tblOk rfl rfl rfl rfl ?_|(with_reducible first|refine za ?_|refine zb ?_|refine zc ?_)|refine ym zr ?_|refine yn 0 zr ?_|refine yn 1 zr ?_|refine yn 2 zr ?_|refine yn 3 zr ?_|(refine yo zr ?_;intro _)|(refine yp zr ?_;intro _)|refine yq zr ?_|refine ys zr ?_|refine yu zr ?_|refine yv zr ?_|(with_reducible first|refine zd ?_|refine ze ?_|refine zf ?_|refine zg ?_|refine zh ?_|refine zi ?_|refine zj ?_|refine zk ?_|refine zl ?_)|refine zz zr ?_|refine zw (by decide +kernel) ?_|refine zx zr zr zr ?_|refine zy zr zr ?_|refine W.condT zr ?_|refine W.condF zr ?_
  rw [e2]
  refine W.condP rfl (fun h=>absurd h (by omega)) (fun _=>?_)
  repeat first|refine W.cutS (m:=b.l.length+2) tblOk rfl (congrArg (fun z=>some (AV.int .i64 z)) e2) rfl rfl (by show b.l.length+2≤b.l.length+2;omega) rfl rfl ?_|refine W.callP rfl rfl rfl rfl hs ?_|(with_reducible first|refine za ?_|refine zb ?_|refine zc ?_)|refine ym zr ?_|refine yn 0 zr ?_|refine yn 1 zr ?_|refine yn 2 zr ?_|refine yn 3 zr ?_|(refine yo zr ?_;intro _)|(refine yp zr ?_;intro _)|refine yq zr ?_|refine ys zr ?_|refine yu zr ?_|refine yv zr ?_|(with_reducible first|refine zd ?_|refine ze ?_|refine zf ?_|refine zg ?_|refine zh ?_|refine zi ?_|refine zj ?_|refine zk ?_|refine zl ?_)|refine zz zr ?_|refine zw (by decide +kernel) ?_|refine zx zr zr zr ?_|refine zy zr zr ?_|refine W.condT zr ?_|refine W.condF zr ?_
  refine W.ia (i:=(b.l.length:Int)) tblOk rfl rfl rfl rfl rfl rfl rfl (by omega) (by omega) ?_
  repeat first|refine W.ldV tblOk rfl rfl rfl hV p1 ?_|(refine W.gs rfl rfl rfl rfl ?_ (fun h=>absurd rfl h);intro _)|(with_reducible first|refine za ?_|refine zb ?_|refine zc ?_)|refine ym zr ?_|refine yn 0 zr ?_|refine yn 1 zr ?_|refine yn 2 zr ?_|refine yn 3 zr ?_|(refine yo zr ?_;intro _)|(refine yp zr ?_;intro _)|refine yq zr ?_|refine ys zr ?_|refine yu zr ?_|refine yv zr ?_|(with_reducible first|refine zd ?_|refine ze ?_|refine zf ?_|refine zg ?_|refine zh ?_|refine zi ?_|refine zj ?_|refine zk ?_|refine zl ?_)|refine zz zr ?_|refine zw (by decide +kernel) ?_|refine zx zr zr zr ?_|refine zy zr zr ?_|refine W.condT zr ?_|refine W.condF zr ?_
  refine W.ia (i:=((b.l.length+1:Nat):Int)) tblOk rfl (congrArg (fun z=>some (AV.int .i64 z)) e1) rfl rfl rfl rfl rfl (by omega) (by omega) ?_
  repeat' first|refine W.ldV tblOk rfl rfl rfl hV p2 ?_|(refine W.gs rfl rfl rfl rfl ?_ (fun h=>absurd rfl h);intro _)|(with_reducible first|refine za ?_|refine zb ?_|refine zc ?_)|refine ym zr ?_|refine yn 0 zr ?_|refine yn 1 zr ?_|refine yn 2 zr ?_|refine yn 3 zr ?_|(refine yo zr ?_;intro _)|(refine yp zr ?_;intro _)|refine yq zr ?_|refine ys zr ?_|refine yu zr ?_|refine yv zr ?_|(with_reducible first|refine zd ?_|refine ze ?_|refine zf ?_|refine zg ?_|refine zh ?_|refine zi ?_|refine zj ?_|refine zk ?_|refine zl ?_)|refine zz zr ?_|refine zw (by decide +kernel) ?_|refine zx zr zr zr ?_|refine zy zr zr ?_|(refine W.condP zr ?_ ?_<;>intro _)|refine W.condT zr ?_|refine W.condF zr ?_|(refine W.cond zr ?_ ?_<;>intro _)|(refine W.gs zr zr zr zr ?_ ?_<;>intro _)|(refine W.gsB zr zr zr zr ?_ ?_<;>intro _)|refine W.done zr ?_|refine W.doneN zr ?_
  rfl
end Go.Proofs.YtoegffiapnnkiaaGreat.Abs
