/- Parts of one proof. No condition but those that each theorem names. -/
import Derived.Test.YtoegffiapnnkiaaGreatPT10
import Derived.Test.YtoegffiapnnkiaaGreatPT23
import Derived.Test.YtoegffiapnnkiaaGreatPT24
import Derived.Test.YtoegffiapnnkiaaGreatPT27
import Derived.Test.YtoegffiapnnkiaaGreatPT34
import Derived.Test.YtoegffiapnnkiaaGreatPT40
import Derived.Test.YtoegffiapnnkiaaGreatPT42
import Derived.Test.YtoegffiapnnkiaaGreatPT44
import Derived.Test.YtoegffiapnnkiaaGreatPT48
namespace Go.Proofs.YtoegffiapnnkiaaGreat.Abs
open Go
set_option linter.unusedVariables false
set_option linter.unusedSimpArgs false
set_option maxRecDepth 100000
set_option maxHeartbeats 4000000
theorem repL_add {α:Type} (z:List α):∀m n:Nat,repL (m+n) z=repL m z++repL n z
  | 0,n=>by rw [Nat.zero_add];rfl
  | m+1,n=>by rw [Nat.succ_add];show z++repL (m+n) z=(z++repL m z)++repL n z;rw [repL_add z m n,List.append_assoc]
theorem iCs_len (l:List Int):(l.flatMap iC).length=l.length:=by
  induction l with
  | nil=>rfl
  | cons x l ih=>rw [List.flatMap_cons,List.length_append,ih];show 1+l.length=l.length+1;omega
attribute [local irreducible] W Cl Bd
variable {g:Cg} {V:K→Option (List AV)}
def lentB (i:K) (l:List Int):K×Bk:=(i,.cells (l.flatMap iC++[.int .i64 (-771),.int .i64 (-772)]) 2 1 true)
def lentV (i:K) (n:Nat):AV:=.slice (some (i,0)) n (.ex (n+2))
theorem lentLongs_c (hp:Plain g 20=true) {s:Sl Int} (hs:s.In V false 1 (AV.int .i64)) (hl:s.l.length≤1000000) :
    Cl Tryz.prog g V 20 [s.v] [] fun o Δ=>∃i,o=.ret (lentV i s.l.length)∧∃R,Δ=lentB i s.l::R:=by
  refine Cl.enter hp Tryz.func20 rfl ?_
  have e2:IntKind.i64.wrap ((s.l.length:Int)+2)=((s.l.length+2:Nat):Int):=by rw [w64 (by omega) (by omega)];omega
  have hz2:setLs (s.l.flatMap iC++(repL 2 [AV.int .i64 0]++[])) ((0+s.l.length) * 1) [.int .i64 (-771),.int .i64 (-772)]=some (s.l.flatMap iC++([.int .i64 (-771),.int .i64 (-772)]++[])):=by
    have h:=setLs_cat [AV.int .i64 (-771),.int .i64 (-772)] (repL 2 [AV.int .i64 0]) rfl [] (s.l.flatMap iC)
    rw [iCs_len] at h
    rw [Nat.mul_one,Nat.zero_add];exact h
  have hrep:repL (s.l.length+2) [AV.int .i64 0]=repL s.l.length [AV.int .i64 0]++(repL 2 [AV.int .i64 0]++[]):=by rw [repL_add,List.append_nil]
  have hz1:setLs (repL (s.l.length+2) [AV.int .i64 0]) (0 * 1) (s.l.flatMap iC)=some (s.l.flatMap iC++(repL 2 [AV.int .i64 0]++[])):=by
    rw [hrep,Nat.zero_mul]
    exact setLs_0 _ _ _ (by rw [repL_length,iCs_len];simp)
  have hsrc:=fun D:Dm=>srcI (V:=V) (Δ:=D) hs
  by_cases h0:s.l.length=0
  · have hs0:s.l=[]:=List.length_eq_zero_iff.1 h0
    have hno:=src_none (sz:=1) hs0
    obtain ⟨a,c,l⟩:=s
    simp only at hs0;subst hs0
    clear hsrc hz1 hrep
    repeat first|(refine W.mkE (len:=0) (cap:=2) tblOk rfl (congrArg (fun z=>some (AV.int .i64 z)) e2) rfl rfl rfl (by omega) (by omega) (by decide) rfl rfl ?_;intro i)|refine W.app0 tblOk rfl rfl rfl rfl rfl rfl rfl (by decide) (by omega) (fun h=>by cases h) hno rfl rfl ?_|(refine W.bsl tblOk rfl rfl rfl rfl (by decide) rfl rfl rfl ?_;intro j)|(with_reducible first|refine za ?_|refine zb ?_|refine zc ?_)|refine ym zr ?_
    refine W.perm [(i,_),(j,_)] (List.Perm.swap _ _ _) ?_
    refine W.appE (k:=2) (len:=0) (m:=2) tblOk rfl rfl rfl rfl rfl rfl rfl (by decide) (by omega) (by omega) (by omega) hz2 (src_own (p:=1) rfl rfl rfl) rfl rfl rfl ?_
    repeat' first|(refine W.cutS (m:=0) tblOk rfl rfl rfl rfl (by show 0≤2;omega) rfl rfl ?_)|(with_reducible first|refine za ?_|refine zb ?_|refine zc ?_)|refine ym zr ?_|with_reducible refine zj ?_|refine W.done zr ?_
    exact ⟨i,rfl,[_],rfl⟩
  · skip
    repeat first|(refine W.mkE (len:=0) (cap:=s.l.length+2) tblOk rfl (congrArg (fun z=>some (AV.int .i64 z)) e2) rfl rfl rfl (by omega) (by omega) (by decide) rfl rfl ?_;intro i)|refine W.appE (k:=s.l.length+2) (len:=0) (m:=s.l.length) tblOk rfl rfl rfl rfl rfl rfl rfl (by decide) (by omega) (by omega) (by omega) hz1 (hsrc _) (leaf_all _ leafI _) rfl rfl ?_|(refine W.bsl tblOk rfl rfl rfl rfl (by decide) rfl rfl rfl ?_;intro j)|(with_reducible first|refine za ?_|refine zb ?_|refine zc ?_)|refine ym zr ?_
    refine W.perm [(i,_),(j,_)] (List.Perm.swap _ _ _) ?_
    refine W.appE (k:=s.l.length+2) (len:=0+s.l.length) (m:=2) tblOk rfl rfl rfl rfl rfl rfl rfl (by decide) (by omega) (by omega) (by omega) hz2 (src_own (p:=1) rfl rfl rfl) rfl rfl rfl ?_
    repeat' first|(refine W.cutS (m:=s.l.length) tblOk rfl rfl rfl rfl (by show s.l.length≤s.l.length+2;omega) rfl rfl ?_)|(with_reducible first|refine za ?_|refine zb ?_|refine zc ?_)|refine ym zr ?_|with_reducible refine zj ?_|refine W.done zr ?_
    exact ⟨i,rfl,[_],rfl⟩
theorem sameLongs_c (hp:Plain g 79=true) {a b:Sl Int} (ha:a.In V false 1 (AV.int .i64)) (hb:b.In V false 1 (AV.int .i64)) (h:a.l=b.l) (hl:a.l.length≤10000000) :
    Cl Tryz.prog g V 79 [a.v,b.v] [] fun o _=>o=.ret (.bool true):=by
  refine Cl.enter hp Tryz.func79 rfl ?_
  have hlen:(a.l.length:Int)=(b.l.length:Int):=by rw [h]
  repeat first|(with_reducible first|refine za ?_|refine zb ?_|refine zc ?_)|refine ym zr ?_
  refine W.condP rfl (fun h=>absurd hlen h) (fun _=>?_)
  repeat first|(with_reducible first|refine za ?_|refine zb ?_|refine zc ?_)|refine ym zr ?_|(with_reducible first|refine zd ?_|refine ze ?_)
  refine W.loopR (α:={ i:Nat // i≤a.l.length }) (fun i=>a.l.length-i.1) (fun i=>[(0,a.v),(1,b.v),(5,.int .i64 (i.1:Int))]) (fun _=>[]) ⟨0,Nat.zero_le _⟩ ⟨rfl,rfl,rfl⟩ (List.Sublist.refl _) ?_
  rintro ⟨i,hi⟩ ih
  simp only at ih hi ⊢
  by_cases hlt:i<a.l.length
  · have hi0:(0:Int)≤(i:Int):=by omega
    have hi1:(i:Int)<(a.l.length:Int):=by omega
    have hi2:(i:Int)<(b.l.length:Int):=by omega
    obtain ⟨j1,o1,c1,ha1,hV1,hp1⟩:=num_in0 ha hi0 hi1
    obtain ⟨j2,o2,c2,ha2,hV2,hp2⟩:=num_in0 hb hi0 hi2
    rw [←h] at hp2
    have ew:IntKind.i64.wrap ((i:Int)+1)=((i+1:Nat):Int):=by rw [w64 (by omega) (by omega)];omega
    have hnext:=ih ⟨i+1,hlt⟩ (by show a.l.length-(i+1)<a.l.length-i;omega)
    clear ih
    repeat first|(with_reducible first|refine za ?_|refine zb ?_|refine zc ?_)|refine ym zr ?_
    refine W.condP rfl (fun _=>?_) (fun h=>absurd hi1 h)
    repeat first|refine W.ia tblOk rfl rfl rfl rfl rfl rfl ha1 hi0 hi1 ?_|refine W.ldV tblOk rfl rfl rfl hV1 hp1 ?_|refine W.ia tblOk rfl rfl rfl rfl rfl rfl ha2 hi0 hi2 ?_|refine W.ldV tblOk rfl rfl rfl hV2 hp2 ?_|(with_reducible first|refine za ?_|refine zc ?_)|refine ym zr ?_|(with_reducible first|refine zd ?_|refine ze ?_)|refine zw (by decide +kernel) ?_
    refine W.condP rfl (fun h=>absurd rfl h) (fun _=>?_)
    repeat first|(with_reducible first|refine zb ?_|refine zc ?_)|refine ym zr ?_|(with_reducible first|refine zd ?_|refine zf ?_)
    rw [ew]
    exact W.wk hnext ⟨rfl,rfl,rfl⟩ (List.Sublist.refl _)
  · clear ih
    repeat first|(with_reducible first|refine za ?_|refine zb ?_|refine zc ?_)|refine ym zr ?_
    refine W.condP rfl (fun h=>absurd h (by omega)) (fun _=>?_)
    repeat' first|(with_reducible first|refine za ?_|refine zb ?_|refine zc ?_)|refine ym zr ?_|(with_reducible first|refine zg ?_|refine zh ?_|refine zi ?_|refine zj ?_)|refine W.done zr ?_
    rfl
theorem lent_in {i:K} {l:List Int} (hV:V i=some (l.flatMap iC++[.int .i64 (-771),.int .i64 (-772)])):(⟨some (i,0),.ex (l.length+2),l⟩:Sl Int).In V false 1 (AV.int .i64):=fun k x hx=>by
  refine ⟨i,0,_,rfl,hV,?_⟩
  have hk:k<l.length:=(List.getElem?_eq_some_iff.1 hx).1
  have key:∀(l:List Int) (k:Nat),l[k]?=some x→(l.flatMap iC)[k]?=some (AV.int .i64 x):=fun l=>by
    induction l with
    | nil=>intro k h;simp at h
    | cons y l ih =>
      intro k h
      cases k with
      | zero=>simp at h;subst h;rfl
      | succ k=>exact ih k (by simpa using h)
  show getL _ _=_
  rw [getL_eq,Nat.zero_add,Nat.mul_one,List.getElem?_append_left (by rw [iCs_len];exact hk)]
  exact key l k hx
theorem wholeLongs_c (hp:Plain g 24=true) (h1:Plain g 79=true) {i:K} {b:Sl Int} (hV:V i=some (b.l.flatMap iC++[.int .i64 (-771),.int .i64 (-772)])) (hb:b.In V false 1 (AV.int .i64)) (hl:b.l.length≤1000000) :
    Cl Tryz.prog g V 24 [lentV i b.l.length,b.v] [] fun o _=>o=.ret (.bool true):=by
  refine Cl.enter hp Tryz.func24 rfl ?_
  have e2:IntKind.i64.wrap ((b.l.length:Int)+2)=((b.l.length+2:Nat):Int):=by rw [w64 (by omega) (by omega)];omega
  have e1:IntKind.i64.wrap ((b.l.length:Int)+1)=((b.l.length+1:Nat):Int):=by rw [w64 (by omega) (by omega)];omega
  have hs:=sameLongs_c (g:=g) h1 (lent_in hV) hb rfl (by show b.l.length≤_;omega)
  have p1:partG tbl 2 (b.l.flatMap iC++[AV.int .i64 (-771),AV.int .i64 (-772)]) (0+(b.l.length:Int).toNat * 1)=some (AV.int .i64 (-771)):=part_leaf rfl (by
    rw [List.getElem?_append_right (by rw [iCs_len];omega),iCs_len,show 0+(b.l.length:Int).toNat * 1-b.l.length=0 by omega];rfl)
  have p2:partG tbl 2 (b.l.flatMap iC++[AV.int .i64 (-771),AV.int .i64 (-772)]) (0+((b.l.length+1:Nat):Int).toNat * 1)=some (AV.int .i64 (-772)):=part_leaf rfl (by
    rw [List.getElem?_append_right (by rw [iCs_len];omega),iCs_len,show 0+((b.l.length+1:Nat):Int).toNat * 1-b.l.length=1 by omega];rfl)
  repeat first|refine W.capE tblOk rfl rfl rfl rfl ?_|(with_reducible first|refine za ?_|refine zb ?_|refine zc ?_)|refine ym zr ?_
  rw [e2]
  refine W.condP rfl (fun h=>absurd h (by omega)) (fun _=>?_)
  repeat first|(refine W.cutS (m:=b.l.length+2) tblOk rfl (congrArg (fun z=>some (AV.int .i64 z)) e2) rfl rfl (by show b.l.length+2≤b.l.length+2;omega) rfl rfl ?_)|refine W.callP rfl rfl rfl rfl hs ?_|(with_reducible first|refine za ?_|refine zb ?_|refine zc ?_)|refine ym zr ?_|with_reducible refine zd ?_
  refine W.ia (i:=(b.l.length:Int)) tblOk rfl rfl rfl rfl rfl rfl rfl (by omega) (by omega) ?_
  repeat first|refine W.ldV tblOk rfl rfl rfl hV p1 ?_|(refine W.gs rfl rfl rfl rfl ?_ (fun h=>absurd rfl h);intro _)|refine ym zr ?_
  refine W.ia (i:=((b.l.length+1:Nat):Int)) tblOk rfl (congrArg (fun z=>some (AV.int .i64 z)) e1) rfl rfl rfl rfl rfl (by omega) (by omega) ?_
  repeat' first|refine W.ldV tblOk rfl rfl rfl hV p2 ?_|with_reducible refine zc ?_|refine ym zr ?_|with_reducible refine zj ?_|refine W.done zr ?_
  rfl
end Go.Proofs.YtoegffiapnnkiaaGreat.Abs
namespace Go.Proofs.YtoegffiapnnkiaaGreat.Abs
open Go
set_option linter.unusedVariables false
set_option linter.unusedSimpArgs false
set_option maxRecDepth 100000
structure Mode where
  s:Int
  regs:Sl Int
def Mode.v (m:Mode):AV:=.agg [.int .i64 m.s,m.regs.v]
theorem op_mode:Op Tryz.prog (fun m:Mode=>[.int .i64 m.s,m.regs.v]) 2 (fun V m=>In64 m.s∧m.regs.In V false 1 (AV.int .i64)∧∀n∈m.regs.l,In64 n) 30 :=
  (op_struct tblOk (t:=30) rfl (opF_cons (t:=3) (op_int tblOk (k:=.i64) rfl) (opF_one (t:=22) (op_slice tblOk (ag:=false) (one:=AV.int .i64) rfl (e:=2) rfl (by decide) (fun _=>rfl) (op_int tblOk (k:=.i64) rfl))) rfl)).map (fun p=>⟨p.1,p.2⟩) (fun _ _ _ h k=>⟨k.1,In_mono h k.2.1,k.2.2⟩) (fun _=>rfl)
    (fun _ p h=>⟨h.1,h.2.2.1,h.2.2.2⟩)
theorem op_snap:Op Tryz.prog (fun w:Snap=>[.int .i64 w.bid,.int .i64 w.ask,.int .i64 w.last,.int .i64 w.volume,.int .i64 w.now,.int .i64 w.open_]) 6 (fun _ w=>w.Ok) 55 :=
  (op_struct tblOk (t:=55) rfl (opF_cons (t:=2) (op_int tblOk (k:=.i64) rfl) (opF_cons (t:=2) (op_int tblOk (k:=.i64) rfl) (opF_cons (t:=2) (op_int tblOk (k:=.i64) rfl) (opF_cons (t:=2) (op_int tblOk (k:=.i64) rfl) (opF_cons (t:=2) (op_int tblOk (k:=.i64) rfl) (opF_one (t:=2) (op_int tblOk (k:=.i64) rfl)) rfl) rfl) rfl) rfl) rfl)).map (fun p=>⟨p.1,p.2.1,p.2.2.1,p.2.2.2.1,p.2.2.2.2.1,p.2.2.2.2.2⟩) (fun _ _ _ _ h=>h) (fun _=>rfl)
    (fun _ p h=>⟨h.1,h.2.1,h.2.2.1,h.2.2.2.1,h.2.2.2.2.1,h.2.2.2.2.2⟩)
end Go.Proofs.YtoegffiapnnkiaaGreat.Abs
namespace Go.Proofs.YtoegffiapnnkiaaGreat.Abs
open Go
set_option linter.unusedVariables false
set_option linter.unusedSimpArgs false
def Guard.er (g:Guard):Guard:=⟨g.when,g.fields,g.regs,⟨none,.ex 0,g.rows.l⟩⟩
def erG (s:Sl Guard):Sl Guard:=⟨none,.ex 0,s.l.map Guard.er⟩
def Table.er (t:Table):Table:=⟨t.name,⟨none,.ex 0,t.regs.l⟩,t.slots,⟨none,.ex 0,t.consts.l⟩,⟨none,.ex 0,t.code.l⟩,⟨none,.ex 0,t.states.l.map erG⟩⟩
theorem SameG.er {x y:Guard} (h:SameG x y):x.er=y.er:=by
  obtain ⟨h1,h2,h3,h4⟩:=h
  unfold Guard.er
  rw [h1,h2,h3,h4]
theorem SameT.er {x y:Table} (h:SameT x y):x.er=y.er:=by
  have hs:x.states.l.map erG=y.states.l.map erG:=by
    refine List.ext_getElem (by simp [h.slen]) fun i h1 h2=>?_
    simp only [List.length_map] at h1 h2
    obtain ⟨q1,q2⟩:=h.states i h1 h2
    simp only [List.getElem_map]
    unfold erG
    congr 1
    refine List.ext_getElem (by simp [q1]) fun k h3 h4=>?_
    simp only [List.length_map] at h3 h4
    simp only [List.getElem_map]
    exact (q2 k h3 h4).er
  unfold Table.er
  rw [h.name,h.slots,h.regs,h.consts,h.code,hs]
variable (t:Table)
theorem Index_er (r:Row):Index t.er r=Index t r:=by
  unfold Index Table.er
  simp only [List.length_map]
theorem RowAt_er (r:Row) (n:Int):RowAt t.er r n=RowAt t r n:=by
  unfold RowAt
  rw [Index_er]
theorem rowsAt_er:∀(l:List Row) (p n:Int),rowsAt t.er p l n=rowsAt t p l n
  | [],_,_=>rfl
  | r::l,p,n=>by
    simp only [rowsAt,RowAt_er]
    congr 1
    exact congrArg _ (funext fun m=>rowsAt_er l _ _)
theorem guardAt_er (g:Guard) (n:Int):guardAt t.er g.er n=guardAt t g n:=by
  unfold guardAt
  rw [rowsAt_er];rfl
theorem guardsAt_er:∀(l:List Guard) (n:Int),guardsAt t.er (l.map Guard.er) n=guardsAt t l n
  | [],_=>rfl
  | g::l,n=>by
    simp only [List.map_cons,guardsAt,guardAt_er]
    exact congrArg _ (funext fun m=>guardsAt_er l _)
theorem statesAt_er:∀(l:List (Sl Guard)) (n:Int),statesAt t.er (l.map erG) n=statesAt t l n
  | [],_=>rfl
  | g::l,n=>by
    simp only [List.map_cons,statesAt]
    have e:(erG g).l=g.l.map Guard.er:=rfl
    rw [e,List.length_map,guardsAt_er]
    congr 1
    exact congrArg _ (funext fun m=>statesAt_er l _)
theorem Formed_er:Formed t.er↔Formed t:=by
  unfold Formed
  have e1:statesAt t.er t.er.states.l 0=statesAt t t.states.l 0:=statesAt_er t _ _
  have e2:Heads t.er↔Heads t:=by unfold Heads Table.er;simp only [List.length_map]
  rw [e1,e2]
  exact Iff.rfl
theorem standAll_er (z:Int):∀(m:Nat) (i:Int),standAll t.er z m i=standAll t z m i
  | 0,_=>rfl
  | m+1,i=>by
    simp only [standAll,standAll_er z m]
    rfl
theorem runS_er:∀(m:Nat) (i:Int) (H:List Int),runS t.er m i H=runS t m i H
  | 0,_,_=>rfl
  | m+1,i,H=>by
    simp only [runS]
    have e:goS H (codeAt t.er i) i=goS H (codeAt t i) i:=rfl
    rw [e]
    exact congrArg _ (funext fun G=>runS_er m _ G)
theorem spanS_er (f z:Int):spanS t.er f z=spanS t f z:=by
  unfold spanS
  rw [standAll_er]
  have:(comeS H0 f 0).bind (runS t.er (z-f).toNat f)=(comeS H0 f 0).bind (runS t (z-f).toNat f):=congrArg _ (funext fun G=>runS_er t _ _ G)
  rw [this]
theorem spansErr_er:∀(l:List Span),spansErr t.er l=spansErr t l
  | []=>rfl
  | x::l=>by simp only [spansErr,spanS_er,spansErr_er l]
theorem rowsErr_er:∀(l:List Row),rowsErr t.er l=rowsErr t l
  | []=>rfl
  | x::l=>by simp only [rowsErr,spansErr_er,rowsErr_er l]
theorem guardErr_er (g:Guard):guardErr t.er g.er=guardErr t g:=by
  unfold guardErr
  have e1:maskErr t.er g.er=maskErr t g:=rfl
  have e2:rowsErr t.er g.er.rows.l=rowsErr t g.rows.l:=rowsErr_er t _
  rw [spanS_er,e1,e2];rfl
theorem guardsErr_er:∀(l:List Guard),guardsErr t.er (l.map Guard.er)=guardsErr t l
  | []=>rfl
  | x::l=>by simp only [List.map_cons,guardsErr,guardErr_er,guardsErr_er l]
theorem statesErr_er:∀(l:List (Sl Guard)),statesErr t.er (l.map erG)=statesErr t l
  | []=>rfl
  | x::l=>by
    have e:(erG x).l=x.l.map Guard.er:=rfl
    simp only [List.map_cons,statesErr,statesErr_er l]
    rw [e,guardsErr_er]
theorem checkS_er:checkS t.er=checkS t:=by
  unfold checkS
  have e:statesErr t.er t.er.states.l=statesErr t t.states.l:=statesErr_er t _
  rw [e]
  by_cases h:Formed t
  · rw [if_pos h,if_pos ((Formed_er t).2 h)]
  · rw [if_neg h,if_neg (fun k=>h ((Formed_er t).1 k))]
end Go.Proofs.YtoegffiapnnkiaaGreat.Abs
namespace Go.Proofs.YtoegffiapnnkiaaGreat.Abs
open Go
set_option linter.unusedVariables false
set_option linter.unusedSimpArgs false
set_option maxRecDepth 100000
set_option maxHeartbeats 4000000
theorem insF_er (t:Table) (regs:List Int) (w:Snap) (a:Int) (S:List Int):insF t.er regs w a S=insF t regs w a S:=rfl
theorem runF_er (t:Table) (regs:List Int) (w:Snap) (z:Int):∀(m:Nat) (a:Int) (S:List Int) (n:Int),runF t.er regs w z m a S n=runF t regs w z m a S n
  | 0,_,_,_=>rfl
  | m+1,a,S,n=>by
    simp only [runF,insF_er]
    split
    · rfl
    · split<;>first|rfl|exact runF_er t regs w z m _ _ _
theorem askE_er (t:Table) (s:Int) (n:Nat) (w:Snap):askE t.er s n w=askE t s n w:=by
  have hm:ModeOk t.er s n↔ModeOk t s n:=by
    unfold ModeOk
    show (0≤s∧s<((t.states.l.map erG).length:Int)∧n=t.regs.l.length)↔_
    rw [List.length_map]
  unfold askE
  rw [checkS_er]
  by_cases h:ModeOk t s n
  · rw [if_pos h,if_pos (hm.2 h)]
  · rw [if_neg h,if_neg (fun k=>h (hm.1 k))]
theorem run20:RunG G20:=⟨rfl,rfl,rfl,rfl,rfl,rfl,rfl⟩
attribute [local irreducible] W Cl Bd
variable {V:K→Option (List AV)} {t:Table}
end Go.Proofs.YtoegffiapnnkiaaGreat.Abs
