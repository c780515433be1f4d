/- Parts of one proof. No condition but those that each theorem names. -/
import Derived.Test.YtoegffiapnnkiaaGreatPE07
import Derived.Test.YtoegffiapnnkiaaGreatPE10
import Derived.Test.YtoegffiapnnkiaaGreatPE11
namespace Go.Proofs.YtoegffiapnnkiaaGreat.Abs
open Go
set_option linter.unusedVariables false
set_option linter.unusedSimpArgs false
set_option maxRecDepth 100000
set_option maxHeartbeats 4000000
attribute [local irreducible] W Cl Bd
variable {g:Cg} {V:K→Option (List AV)}
def rowsAt (t:Table):Int→List Row→Int→Option Int
  | _,[],n=>some n
  | p,r::l,n=>if p<5 then (RowAt t r n).bind (rowsAt t r.k l) else none
def guardAt (t:Table) (x:Guard) (n:Int):Option Int:=if SpanAt x.when.f x.when.t n∧1≤x.rows.l.length∧x.rows.l.length≤8 then rowsAt t 0 x.rows.l x.when.t else none
def guardsAt (t:Table):List Guard→Int→Option Int
  | [],n=>some n
  | x::l,n=>(guardAt t x n).bind (guardsAt t l)
def statesAt (t:Table):List (Sl Guard)→Int→Option Int
  | [],n=>some n
  | x::l,n=>if x.l.length≤12 then (guardsAt t x.l n).bind (statesAt t l) else none
def Heads (t:Table):Prop:=NameS t.name=true∧t.regs.l.length≤12∧0≤t.slots∧t.slots≤4∧t.consts.l.length≤1024∧t.code.l.length≤4096∧1≤t.states.l.length∧t.states.l.length≤12
instance (t:Table):Decidable (Heads t):=by unfold Heads;exact inferInstance
def Formed (t:Table):Prop:=Heads t∧statesAt t t.states.l 0=some (t.code.l.length:Int)
instance (t:Table):Decidable (Formed t):=by unfold Formed;exact inferInstance
theorem Sl.In.get {α:Type} {ag:Bool} {sz:Nat} {enc:α→AV} {s:Sl α} (h:s.In V ag sz enc) {i:Nat} (hi:i<s.l.length):∃j o cs,s.a=some (j,o)∧V j=some cs∧partB cs (o+(i:Int).toNat * sz) (ag,sz)=some (enc s.l[i]):=h i s.l[i] (List.getElem?_eq_getElem hi)
def prevK (l:List Row):Nat→Int
  | 0=>0
  | j+1=>match l[j]? with
    | some r=>r.k
    | none=>0
theorem wN {n:Nat} (h:n≤281474976710656):IntKind.i64.wrap ((n:Nat)+1:Int)=((n+1:Nat):Int):=by rw [w64 (by omega) (by omega)];rfl
theorem formed_c (hp:Plain g 109=true) (hr:Plain g 144=true) (hm:Plain g 112=true) (hi:Plain g 178=true) (hs:Plain g 86=true) (hf:Plain g 143=true) {t:Table} (ht:t.Ok V)
    (hn:Cl Tryz.prog g V 142 [.str t.name] [] fun o _=>o=.ret (.bool (NameS t.name))) :
    Cl Tryz.prog g V 109 [t.v] [] fun o _=>o=if Formed t then .ret (.tup []) else .pan (pn 190):=by
  have hno:¬Heads t→RO.pan (pn 190)=if Formed t then .ret (.tup []) else .pan (pn 190):=fun h=>by rw [if_neg fun h'=>h h'.1]
  have hlen:=ht.states.1
  unfold Len at hlen
  refine Cl.enter hp Tryz.func109 rfl ?_
  repeat' first|refine W.callP rfl rfl rfl rfl hn ?_|(refine W.callM rfl rfl rfl rfl (must_c hm _ _) (by decide +kernel) ?_ ?_<;>intro hm_<;>(try simp only [decide_eq_true_eq,decide_eq_false_iff_not,Bool.true_eq_false,Bool.false_eq_true] at hm_))|(with_reducible first|refine za ?_|refine zb ?_|refine zc ?_)|refine ym zr ?_|refine yn 0 zr ?_|refine yn 1 zr ?_|(refine yo zr ?_;intro _)|with_reducible refine ze ?_|refine zx zr zr zr ?_|(refine W.gs zr zr zr zr ?_ ?_<;>intro _)|(refine W.gsB zr zr zr zr ?_ ?_<;>intro _)
  all_goals first
    | (refine hno fun h=>?_;obtain ⟨q1,q2,q3,q4,q5,q6,q7,q8⟩:=h;first|omega|(simp_all;done))
    | skip
  have hh:Heads t:=by unfold Heads;simp_all;omega
  have hpan:statesAt t t.states.l 0≠some (t.code.l.length:Int)→RO.pan (pn 190)=if Formed t then .ret (.tup []) else .pan (pn 190):=fun h=>by rw [if_neg fun h'=>h h'.2]
  have hret:statesAt t t.states.l 0=some (t.code.l.length:Int)→RO.ret (.tup [])=if Formed t then .ret (.tup []) else .pan (pn 190):=fun h=>by rw [if_pos ⟨hh,h⟩]
  generalize hR:statesAt t t.states.l 0=R at hpan hret
  clear hno
  refine W.loopR (α:={ p:Nat×Int // p.1≤t.states.l.length∧R=statesAt t (t.states.l.drop p.1) p.2 }) (fun p=>t.states.l.length-p.1.1) (fun p=>[(1,_),(2,_),(55,_),(56,_),(57,.int .i64 (p.1.1:Int))]) (fun p=>[fm _ p.1.2,_]) ⟨(0,0),by omega,by simp [hR]⟩ ⟨rfl,rfl,rfl,rfl,rfl⟩ (List.Sublist.refl _) ?_
  rintro ⟨⟨i,n⟩,hi1,hi2⟩ ih
  simp only at ih hi1 hi2 ⊢
  repeat first|(with_reducible first|refine za ?_|refine zb ?_|refine zc ?_)|refine ym zr ?_
  refine W.condP rfl ?_ ?_<;>intro hlt
  rotate_left
  · clear ih
    rw [List.drop_eq_nil_of_le (by omega)] at hi2
    repeat' first|(refine W.callM rfl rfl rfl rfl (must_c hm _ _) (by decide +kernel) ?_ ?_<;>intro hm_<;>(try simp only [decide_eq_true_eq,decide_eq_false_iff_not,Bool.true_eq_false,Bool.false_eq_true] at hm_))|with_reducible refine zc ?_|refine ym zr ?_|refine yn 0 zr ?_|refine yn 1 zr ?_|(with_reducible first|refine zg ?_|refine zh ?_|refine zi ?_)|refine zw (by decide +kernel) ?_|refine W.doneN zr ?_
    · exact hret (by rw [hi2,statesAt,hm_])
    · exact hpan (by rw [hi2,statesAt];intro h;injection h with h;exact hm_ h)
  have hlt:i<t.states.l.length:=by omega
  obtain ⟨jn,o,cs,ha,hV,hpt⟩:=Sl.In.get ht.states.2.1 hlt
  have hl:=ht.states.2.2 _ (List.getElem_mem hlt)
  rw [List.drop_eq_getElem_cons hlt] at hi2
  generalize t.states.l[i]=l at hpt hl hi2
  repeat' first|refine W.ia tblOk rfl rfl rfl rfl rfl rfl ha (by omega) (by omega) ?_|refine W.ldV tblOk rfl rfl rfl hV hpt ?_|(refine W.callM rfl rfl rfl rfl (must_c hm _ _) (by decide +kernel) ?_ ?_<;>intro hm_<;>(try simp only [decide_eq_true_eq,decide_eq_false_iff_not,Bool.true_eq_false,Bool.false_eq_true] at hm_))|(with_reducible first|refine za ?_|refine zb ?_|refine zc ?_)|refine ym zr ?_|(with_reducible first|refine zd ?_|refine ze ?_)
  rotate_left
  · refine hpan ?_
    rw [hi2,statesAt,if_neg (by omega)];simp
  have hl12:l.l.length≤12:=by omega
  rw [statesAt,if_pos hl12] at hi2
  refine W.loopR (α:={ p:Nat×Int // p.1≤l.l.length∧R=(guardsAt t (l.l.drop p.1) p.2).bind (statesAt t (t.states.l.drop (i+1))) }) (fun p=>l.l.length-p.1.1) (fun p=>[(1,_),(2,_),(55,_),(56,_),(57,.int .i64 (i:Int)),(65,_),(66,_),(67,.int .i64 (p.1.1:Int))]) (fun p=>[fm _ p.1.2,_]) ⟨(0,n),by omega,hi2⟩ ⟨rfl,rfl,rfl,rfl,rfl,rfl,rfl,rfl⟩ (List.Sublist.refl _) ?_
  clear hi2 n
  rintro ⟨⟨k,n⟩,hk1,hk2⟩ ih2
  simp only at ih2 hk1 hk2 ⊢
  repeat first|(with_reducible first|refine za ?_|refine zb ?_|refine zc ?_)|refine ym zr ?_
  refine W.condP rfl ?_ ?_<;>intro hlt2
  rotate_left
  · clear ih2
    rw [List.drop_eq_nil_of_le (by omega)] at hk2
    repeat first|(with_reducible first|refine zb ?_|refine zc ?_)|refine ym zr ?_|(with_reducible first|refine zf ?_|refine zg ?_|refine zh ?_|refine zi ?_)
    rw [wN (by omega)]
    have h9:=ih ⟨(i+1,n),by show i+1≤_;omega,by rw [hk2];rfl⟩ (by show t.states.l.length-(i+1)<t.states.l.length-i;omega)
    refine W.weak _ _ ?_ ?_ h9
    · exact ⟨rfl,rfl,rfl,rfl,rfl⟩
    · exact List.Sublist.refl _
  have hlt2:k<l.l.length:=by omega
  obtain ⟨jn2,o2,cs2,ha2,hV2,hpt2⟩:=Sl.In.get hl.2.1 hlt2
  have hg:=hl.2.2 _ (List.getElem_mem hlt2)
  rw [List.drop_eq_getElem_cons hlt2,guardsAt] at hk2
  generalize l.l[k]=x at hpt2 hg hk2
  have hx:=hg.2.2.2.1
  unfold Len at hx
  repeat' first|refine W.ia tblOk rfl rfl rfl rfl rfl rfl ha2 (by omega) (by omega) ?_|refine W.ldV tblOk rfl rfl rfl hV2 hpt2 ?_|(refine W.callM rfl rfl rfl rfl (must_c hm _ _) (by decide +kernel) ?_ ?_<;>intro hm_<;>(try simp only [decide_eq_true_eq,decide_eq_false_iff_not,Bool.true_eq_false,Bool.false_eq_true] at hm_))|(refine W.fr1 ?_;refine W.callF rfl rfl rfl rfl (fspan_c hf hm _ _ _ _) (by decide +kernel) ?_ ?_<;>intro hm_)|(with_reducible first|refine za ?_|refine zb ?_|refine zc ?_)|refine ym zr ?_|refine yn 0 zr ?_|refine yn 1 zr ?_|(refine yp zr ?_;intro _)|refine yq zr ?_|(with_reducible first|refine zd ?_|refine ze ?_)|refine zx zr zr zr ?_|(refine W.gs zr zr zr zr ?_ ?_<;>intro _)
  all_goals first
    | with_reducible refine W.id ?_
    | (refine hpan ?_
       rw [hk2,guardAt,if_neg (by rintro ⟨q1,q2,q3⟩;first|omega|exact hm_ q1)];simp;done)
  rw [guardAt,if_pos ⟨‹SpanAt _ _ _›,by omega,by omega⟩] at hk2
  have hx8:x.rows.l.length≤8:=by omega
  refine W.loopR (α:={ p:Nat×Int // p.1≤x.rows.l.length∧R=((rowsAt t (prevK x.rows.l p.1) (x.rows.l.drop p.1) p.2).bind (guardsAt t (l.l.drop (k+1)))).bind (statesAt t (t.states.l.drop (i+1))) }) (fun p=>x.rows.l.length-p.1.1) (fun p=>[(1,_),(2,_),(55,_),(56,_),(57,.int .i64 (i:Int)),(65,_),(66,_),(67,.int .i64 (k:Int)),(6,_),(87,_),(88,_),(89,.int .i64 (p.1.1:Int))]) (fun p=>[fm _ p.1.2,_,_]) ⟨(0,x.when.t),by omega,hk2⟩ ⟨rfl,rfl,rfl,rfl,rfl,rfl,rfl,rfl,rfl,rfl,rfl,rfl⟩ (List.Sublist.refl _) ?_
  clear hk2
  rintro ⟨⟨j,m⟩,hj1,hj2⟩ ih3
  simp only at ih3 hj1 hj2 ⊢
  repeat first|(with_reducible first|refine za ?_|refine zb ?_|refine zc ?_)|refine ym zr ?_
  refine W.condP rfl ?_ ?_<;>intro hlt3
  rotate_left
  · clear ih3
    rw [List.drop_eq_nil_of_le (by omega),rowsAt] at hj2
    repeat first|(with_reducible first|refine zb ?_|refine zc ?_)|refine ym zr ?_|(with_reducible first|refine zf ?_|refine zg ?_|refine zh ?_|refine zi ?_)
    rw [wN (by omega)]
    have h9:=ih2 ⟨(k+1,m),by show k+1≤_;omega,by rw [hj2];rfl⟩ (by show l.l.length-(k+1)<l.l.length-k;omega)
    refine W.weak _ _ ?_ ?_ h9
    · exact ⟨rfl,rfl,rfl,rfl,rfl,rfl,rfl,rfl⟩
    · exact .cons_cons _ (.cons _ (List.Sublist.refl _))
  have hlt3:j<x.rows.l.length:=by omega
  obtain ⟨jn3,o3,cs3,ha3,hV3,hpt3⟩:=Sl.In.get hg.2.2.2.2.1 hlt3
  rw [List.drop_eq_getElem_cons hlt3,rowsAt] at hj2
  have hpk:prevK x.rows.l (j+1)=x.rows.l[j].k:=by simp only [prevK,List.getElem?_eq_getElem hlt3]
  generalize x.rows.l[j]=r at hpt3 hj2 hpk
  repeat first|refine W.ia tblOk rfl rfl rfl rfl rfl rfl ha3 (by omega) (by omega) ?_|refine W.ldV tblOk rfl rfl rfl hV3 hpt3 ?_|(with_reducible first|refine za ?_|refine zb ?_|refine zc ?_)|refine ym zr ?_|(refine yp zr ?_;intro _)|refine yq zr ?_|(with_reducible first|refine zd ?_|refine ze ?_)
  have hnext:∀m',R=(((some m').bind (rowsAt t r.k (x.rows.l.drop (j+1)))).bind (guardsAt t (l.l.drop (k+1)))).bind (statesAt t (t.states.l.drop (i+1)))→R=((rowsAt t (prevK x.rows.l (j+1)) (x.rows.l.drop (j+1)) m').bind (guardsAt t (l.l.drop (k+1)))).bind (statesAt t (t.states.l.drop (i+1))):=fun m' h=>by rw [hpk];exact h
  have hlow:¬prevK x.rows.l j<5→R≠some (t.code.l.length:Int):=fun h=>by rw [hj2,if_neg h];simp
  have hbad:RowAt t r m=none→R≠some (t.code.l.length:Int):=fun h=>by rw [hj2];split<;>simp [h]
  cases j with
  | zero =>
    rw [show prevK x.rows.l 0=0 from rfl,if_pos (by omega)] at hj2
    repeat' first|(refine W.callM rfl rfl rfl rfl (must_c hm _ _) (by decide +kernel) ?_ ?_<;>intro hm_<;>(try simp only [decide_eq_true_eq,decide_eq_false_iff_not,Bool.true_eq_false,Bool.false_eq_true] at hm_))|(refine W.fr1 ?_;refine W.callF rfl rfl rfl rfl (frow_c hr hm hi hs hf _ _ ht r) (by decide +kernel) ?_ ?_<;>intro hm_)|(with_reducible first|refine zb ?_|refine zc ?_)|refine ym zr ?_|refine yn 0 zr ?_|refine yn 3 zr ?_|with_reducible refine zf ?_|refine zx zr zr zr ?_
    · obtain ⟨m',hm'⟩:=Option.isSome_iff_exists.1 hm_
      rw [hm',Option.getD_some,wN (by omega)]
      have h9:=ih3 ⟨(0+1,m'),by show 0+1≤_;omega,hnext m' (by rw [hj2,hm'])⟩ (by show x.rows.l.length-(0+1)<x.rows.l.length-0;omega)
      refine W.weak _ _ ?_ ?_ h9
      · exact ⟨rfl,rfl,rfl,rfl,rfl,rfl,rfl,rfl,rfl,rfl,rfl,rfl⟩
      · exact .cons_cons _ (.cons _ (List.Sublist.refl _))
    · exact hpan (hbad (Option.not_isSome_iff_eq_none.1 hm_))
  | succ j =>
    have hlt4:j<x.rows.l.length:=by omega
    obtain ⟨jn4,o4,cs4,ha4,hV4,hpt4⟩:=Sl.In.get hg.2.2.2.2.1 hlt4
    have hpk4:prevK x.rows.l (j+1)=x.rows.l[j].k:=by simp only [prevK,List.getElem?_eq_getElem hlt4]
    generalize x.rows.l[j]=r4 at hpt4 hpk4
    have e4:IntKind.i64.wrap (((j+1:Nat):Int)-1)=(j:Int):=by rw [w64 (by omega) (by omega)];omega
    rw [←e4] at hpt4
    have hK4:partG tbl 146 cs4 (o4+(IntKind.i64.wrap (((j+1:Nat):Int)-1)).toNat * 11+0)=some (.int .u8 r4.k):=cell_in (k:=0) hpt4 rfl
    rw [hpk4] at hj2 hlow
    repeat' first|(refine W.ia tblOk rfl rfl rfl rfl rfl rfl ha4 (by rw [e4];omega) (by rw [e4];omega) ?_)|refine W.ldV tblOk rfl rfl rfl hV4 hK4 ?_|(refine W.callM rfl rfl rfl rfl (must_c hm _ _) (by decide +kernel) ?_ ?_<;>intro hm_<;>(try simp only [decide_eq_true_eq,decide_eq_false_iff_not,Bool.true_eq_false,Bool.false_eq_true] at hm_))|(refine W.fr1 ?_;refine W.callF rfl rfl rfl rfl (frow_c hr hm hi hs hf _ _ ht r) (by decide +kernel) ?_ ?_<;>intro hm_)|(with_reducible first|refine zb ?_|refine zc ?_)|refine ym zr ?_|refine yn 0 zr ?_|refine yn 2 zr ?_|refine yn 3 zr ?_|with_reducible refine zf ?_
    · obtain ⟨m',hm'⟩:=Option.isSome_iff_exists.1 hm_
      rw [hm',Option.getD_some,wN (by omega)]
      have h9:=ih3 ⟨(j+1+1,m'),by show j+1+1≤_;omega,hnext m' (by rw [hj2,if_pos ‹r4.k<5›,hm'])⟩ (by show x.rows.l.length-(j+1+1)<x.rows.l.length-(j+1);omega)
      refine W.weak _ _ ?_ ?_ h9
      · exact ⟨rfl,rfl,rfl,rfl,rfl,rfl,rfl,rfl,rfl,rfl,rfl,rfl⟩
      · exact .cons_cons _ (.cons _ (List.Sublist.refl _))
    · exact hpan (hbad (Option.not_isSome_iff_eq_none.1 hm_))
    · exact hpan (hlow hm_)
end Go.Proofs.YtoegffiapnnkiaaGreat.Abs
