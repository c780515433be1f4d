/- Parts of one proof. No condition but those that each theorem names. -/
import Derived.Test.YtoegffiapnnkiaaGreatPT50
namespace Go.Proofs.YtoegffiapnnkiaaGreat.Abs
open Go
set_option linter.unusedVariables false
set_option linter.unusedSimpArgs false
set_option maxRecDepth 100000
set_option maxHeartbeats 4000000
theorem bod20:BodG G20:=⟨opr20,stk20,rfl,rfl,rfl,rfl,rfl⟩
theorem bodR20:BodRG G20:=⟨opr20,run20,calls20,rfl,rfl,rfl,rfl,rfl⟩
theorem book20:Book2G G20:=⟨bookG20,rfl⟩
def arow (i:K) (l:List Act):OR:=match l with
  | []=>.nil
  | _::_=>.blk i false true (l.flatMap Act.cs) l.length 0
theorem arow_v (i:K) (l:List Act):(arow i l).v=(gS i l).v:=by cases l<;>rfl
theorem arow_b (i:K) (l:List Act):bbAc (arow i l)=gD Act.cs 127 6 i l:=by cases l<;>rfl
theorem actCs_len (l:List Act):(l.flatMap Act.cs).length=l.length * 6:=by
  induction l with
  | nil=>rfl
  | cons x l ih=>rw [List.flatMap_cons,List.length_append,ih,List.length_cons,Nat.succ_mul];show 6+_=_;omega
theorem arow_ok (i:K) {l:List Act} (h:l.length≤1000000):(arow i l).Oks 6:=by
  cases l with
  | nil=>trivial
  | cons x l=>exact ⟨by rw [actCs_len];omega,h,.inl rfl,fun _=>⟨rfl,rfl⟩⟩
theorem orow_oks (i:K) {l:List Int} (h:l.length≤1000000):(orow i l).Oks 1:=by
  cases l with
  | nil=>trivial
  | cons x l=>exact ⟨by rw [iC_len];omega,h,.inl rfl,fun _=>⟨rfl,rfl⟩⟩
def lrow (i:K) (l:List Int):OR:=.blk i true false (l.flatMap iC++[.int .i64 (-771),.int .i64 (-772)]) l.length 2
theorem lrow_ok (i:K) {l:List Int} (h:l.length≤1000000):(lrow i l).Oks 1:=⟨by rw [List.length_append,iC_len];show l.length+2=_;omega,h,.inr rfl,fun h=>by cases h⟩
attribute [local irreducible] W Cl Bd
variable {V:K→Option (List AV)} {t:Table}
theorem machineTurns_c (ht:t.Ok V) (hr:t.Room) (s:Int) {regs:Sl Int} (hg:regs.In V false 1 (AV.int .i64)) (hgn:∀n∈regs.l,In64 n) {w:Snap} (hw:w.Ok) (cf:Bool) :
    Cl Tryz.prog G20 V 5 [t.v,.agg [.int .i64 s,regs.v],w.v,.bool cf] [] fun o _=>o=.ret (.bool true):=by
  refine Cl.enter rfl Tryz.func5 rfl ?_
  repeat first|refine W.callP rfl rfl rfl rfl awakeC ?_|(refine W.callV rfl rfl rfl rfl (far20_c ht hr s) ?_;rintro _ ⟨b_,rfl,hb_⟩)|(with_reducible first|refine za ?_|refine zb ?_|refine zc ?_)|refine ym zr ?_|refine yn 1 zr ?_|refine yn 2 zr ?_|(refine yo zr ?_;intro _)
  cases b_ with
  | true =>
    repeat' first|(with_reducible first|refine za ?_|refine zb ?_|refine zc ?_)|refine ym zr ?_|(with_reducible first|refine zj ?_|refine zk ?_)|refine W.condT zr ?_|refine W.done zr ?_
    rfl
  | false =>
  have hlen:=(hb_ rfl).2
  have hdoc:=(turnR_c (V:=V) ask20 bodR20 rfl ht (checkRC ht hr) hg hgn hw s cf).mono (Q':=fun o Δ=>∃p:K×K,o=RO.ret ((turnF t w s regs.l cf).1.v p.1 p.2 (turnF t w s regs.l cf).2)∧∃R,Δ=R++(gD iC 2 1 p.1 (turnF t w s regs.l cf).1.regs++gD Act.cs 127 6 p.2 (turnF t w s regs.l cf).1.acts)) fun o Δ h=>by obtain ⟨jr,ja,R,h1,h2⟩:=h;exact ⟨(jr,ja),h1,R,h2⟩
  repeat first|(refine W.callN rfl rfl rfl rfl (copyR_c rfl ht hr) ?_;intro c Δ' hcp)|(refine W.callN (val:=fun i=>lentV i regs.l.length) rfl rfl rfl rfl (lentLongs_c rfl hg (by omega)) ?_;rintro i _ ⟨R,rfl⟩)|(with_reducible first|refine za ?_|refine zb ?_|refine zc ?_)|refine ym zr ?_|refine yn 2 zr ?_|(refine yo zr ?_;intro _)|(refine yp zr ?_;intro _)|refine yq zr ?_|with_reducible refine zd ?_|refine W.condF zr ?_
  obtain ⟨hcp,-⟩:=hcp
  rename_i it im iw ic ib
  refine W.dropE ((ib,_)::(ic,_)::(iw,_)::(im,_)::(it,_)::(Δ'++lentB i regs.l::[])) (.cons_cons _ (.cons_cons _ (.cons_cons _ (.cons_cons _ (.cons_cons _ ((List.Sublist.refl Δ').append (.cons_cons _ (List.nil_sublist R)))))))) ?_
  have hturn:∀D:Dm,(∀z∈Δ',z∈D)→lentB i regs.l∈D→(names D).Nodup→Cl Tryz.prog G20 (withV V D) 26 [c.v,.agg [.int .i64 s,lentV i regs.l.length],w.v,.bool cf] [] fun o Δ=>∃jr ja R,o=.ret ((turnF t w s regs.l cf).1.v jr ja (turnF t w s regs.l cf).2)∧Δ=R++(gD iC 2 1 jr (turnF t w s regs.l cf).1.regs++gD Act.cs 127 6 ja (turnF t w s regs.l cf).1.acts):=fun D h1 h2 hn=>by
    have hx:=CpT.ok (CpT.mono hcp h1) ht hn
    have h:=turn_c (V:=withV V D) ask20 bod20 rfl hx (checkC hx (hcp.room hr)) (lent_in (withV_at hn h2)) hgn hw s cf
    rw [hcp.same.turn] at h
    exact h
  have hTl:(turnF t w s regs.l cf).1.regs.length≤1000000∧(turnF t w s regs.l cf).1.acts.length≤1000000:=by
    obtain ⟨h1,h2⟩:=turnF_size (t:=t) (s:=s) ht.consts.2.2 hw hgn cf
    exact ⟨by omega,by omega⟩
  generalize turnF t w s regs.l cf=T at hdoc hturn hTl
  obtain ⟨T,te⟩:=T
  simp only at hdoc hturn hTl
  repeat first|(refine W.callN (val:=fun p:K×K=>T.v p.1 p.2 te) rfl rfl rfl rfl hdoc ?_;rintro p0 _ ⟨R0,rfl⟩)|refine yn 4 zr ?_|(with_reducible first|refine za ?_|refine zb ?_|refine zc ?_)|refine ym zr ?_|refine yn 2 zr ?_|refine yn 3 zr ?_|(refine yp zr ?_;intro _)|refine ys zr ?_|with_reducible refine ze ?_
  rename_i i14 i15
  generalize hXe:Δ'++(lentB i regs.l::(gD iC 2 1 p0.1 T.regs++gD Act.cs 127 6 p0.2 T.acts))=X
  have x1:∀z∈Δ',z∈X:=fun z hz=>by rw [←hXe];exact List.mem_append_left _ hz
  have x2:lentB i regs.l∈X:=by rw [←hXe];exact List.mem_append_right _ (.head _)
  have x3:∀z∈gD iC 2 1 p0.1 T.regs,z∈X:=fun z hz=>by rw [←hXe];exact List.mem_append_right _ (.tail _ (List.mem_append_left _ hz))
  have x4:∀z∈gD Act.cs 127 6 p0.2 T.acts,z∈X:=fun z hz=>by rw [←hXe];exact List.mem_append_right _ (.tail _ (List.mem_append_right _ hz))
  refine W.dropE ((i15,.cells [.int .i64 T.s,(gS p0.1 T.regs).v] 30 2 true)::(i14,.cells [.int .i64 T.g,.bool T.dry,(gS p0.2 T.acts).v,.int .u8 T.st,.int .i64 T.err,.int .i64 T.steps] 65 6 true)::bookB ib (hdL .z 0) (hdL .z 0)::(ic,.cells [.str c.name,c.regs.v,.int .i64 c.slots,c.consts.v,c.code.v,c.states.v] 26 6 true)::(iw,.cells [.int .i64 w.bid,.int .i64 w.ask,.int .i64 w.last,.int .i64 w.volume,.int .i64 w.now,.int .i64 w.open_] 55 6 true)::(im,.cells [.int .i64 s,regs.v] 30 2 true)::(it,.cells [.str t.name,t.regs.v,.int .i64 t.slots,t.consts.v,t.code.v,t.states.v] 26 6 true)::((Δ'++(lentB i regs.l::[]))++(gD iC 2 1 p0.1 T.regs++gD Act.cs 127 6 p0.2 T.acts))) (.cons_cons _ (.cons_cons _ (.cons_cons _ (.cons_cons _ (.cons_cons _ (.cons_cons _ (.cons_cons _ ((List.Sublist.refl _).append (List.sublist_append_right R0 _))))))))) ?_
  refine W.perm (bookB ib (hdL .z 0) (hdL .z 0)::(i15,.cells [.int .i64 T.s,(gS p0.1 T.regs).v] 30 2 true)::(i14,.cells [.int .i64 T.g,.bool T.dry,(gS p0.2 T.acts).v,.int .u8 T.st,.int .i64 T.err,.int .i64 T.steps] 65 6 true)::(ic,.cells [.str c.name,c.regs.v,.int .i64 c.slots,c.consts.v,c.code.v,c.states.v] 26 6 true)::(iw,.cells [.int .i64 w.bid,.int .i64 w.ask,.int .i64 w.last,.int .i64 w.volume,.int .i64 w.now,.int .i64 w.open_] 55 6 true)::(im,.cells [.int .i64 s,regs.v] 30 2 true)::(it,.cells [.str t.name,t.regs.v,.int .i64 t.slots,t.consts.v,t.code.v,t.states.v] 26 6 true)::(X++[])) ?_ ?_
  · rw [←hXe]
    refine permC fun _ a=>by simp only [consS,List.count_append,List.count_nil,List.append_assoc];omega
  refine W.loopR (α:={ q:Nat×(List K×List K)×((K×Bk×Nat)×(K×Bk×Nat)) // q.1≤2∧q.2.1.1.length=q.1∧q.2.1.2.length=q.1∧(0<q.1→Grown q.2.2.1.2.1 (q.2.1.1.map fun k=>(gS k T.regs).v) 22 1 q.2.2.1.2.2∧q.2.2.1.2.2≤q.1)∧(0<q.1→Grown q.2.2.2.2.1 (q.2.1.2.map fun k=>(gS k T.acts).v) 62 1 q.2.2.2.2.2∧q.2.2.2.2.2≤q.1) }) (fun q=>2-q.1.1)
    (fun q=>[(3,.bool cf),(4,.ptr (some (it,0))),(5,.ptr (some (im,0))),(6,.ptr (some (iw,0))),(11,.ptr (some (ic,0))),(12,lentV i regs.l.length),(13,.ptr (some (ib,0))),(14,.ptr (some (i14,0))),(15,.ptr (some (i15,0))),(16,.int .i64 te),(17,.int .i64 (q.1.1:Int))])
    (fun q=>bookB ib (hdL q.1.2.2.1.1 q.1.1) (hdL q.1.2.2.2.1 q.1.1)::(i15,.cells [.int .i64 T.s,(gS p0.1 T.regs).v] 30 2 true)::(i14,.cells [.int .i64 T.g,.bool T.dry,(gS p0.2 T.acts).v,.int .u8 T.st,.int .i64 T.err,.int .i64 T.steps] 65 6 true)::(ic,.cells [.str c.name,c.regs.v,.int .i64 c.slots,c.consts.v,c.code.v,c.states.v] 26 6 true)::(iw,.cells [.int .i64 w.bid,.int .i64 w.ask,.int .i64 w.last,.int .i64 w.volume,.int .i64 w.now,.int .i64 w.open_] 55 6 true)::(im,.cells [.int .i64 s,regs.v] 30 2 true)::(it,.cells [.str t.name,t.regs.v,.int .i64 t.slots,t.consts.v,t.code.v,t.states.v] 26 6 true)::(X++(blL q.1.2.2.1.1 q.1.2.2.1.2.1 q.1.1++(blL q.1.2.2.2.1 q.1.2.2.2.2.1 q.1.1++(q.1.2.1.1.flatMap (fun k=>gD iC 2 1 k T.regs)++q.1.2.1.2.flatMap (fun k=>gD Act.cs 127 6 k T.acts)))))) ⟨(0,([],[]),((.z,.view [],0),(.z,.view [],0))),Nat.zero_le _,rfl,rfl,fun h=>absurd h (Nat.lt_irrefl _),fun h=>absurd h (Nat.lt_irrefl _)⟩ ⟨rfl,rfl,rfl,rfl,rfl,rfl,rfl,rfl,rfl,rfl,rfl⟩ (List.Sublist.refl _) ?_
  rintro ⟨⟨m,⟨jrs,jas⟩,⟨⟨jl,bkl,ql⟩,⟨jm,bkm,qm⟩⟩⟩,hm,hj1,hj2,hg1,hg2⟩ ih
  simp only at ih hm hj1 hj2 hg1 hg2 ⊢
  generalize hY:(blL jl bkl m++(blL jm bkm m++(jrs.flatMap (fun k=>gD iC 2 1 k T.regs)++jas.flatMap (fun k=>gD Act.cs 127 6 k T.acts))))=Y
  by_cases hm2:m<2
  · have hm3:(m:Int)<2:=by omega
    repeat first|(with_reducible first|refine za ?_|refine zb ?_|refine zc ?_)|refine ym zr ?_
    refine W.condP rfl (fun _=>?_) (fun h=>absurd hm3 h)
    repeat first|refine yn 4 zr ?_|refine yn 5 zr ?_|(with_reducible first|refine za ?_|refine zb ?_)|refine ym zr ?_|refine yn 3 zr ?_|(with_reducible first|refine zd ?_|refine ze ?_)
    refine W.know fun hva hnd=>?_
    refine W.callL rfl rfl rfl rfl (hturn _ (fun z hz=>by have:=x1 z hz;simp [this]) (by simp [x2]) hnd) (by rintro v Δ' ⟨_,_,_,h1,-⟩;cases h1) ?_
    clear hva hnd
    rintro v_ Δ_ ⟨jr1,ja1,R1,h1_,rfl⟩
    injection h1_ with h1_;subst h1_
    refine W.perm ((_::_::_::_::_::_::_::(X++Y))++(R1++(gD iC 2 1 jr1 T.regs++gD Act.cs 127 6 ja1 T.acts))) List.perm_append_comm ?_
    refine W.dropE (_::_::_::_::_::_::_::((X++Y)++(gD iC 2 1 jr1 T.regs++gD Act.cs 127 6 ja1 T.acts))) (.cons_cons _ (.cons_cons _ (.cons_cons _ (.cons_cons _ (.cons_cons _ (.cons_cons _ (.cons_cons _ ((List.Sublist.refl _).append (List.sublist_append_right R1 _))))))))) ?_
    repeat first|refine yn 4 zr ?_|(with_reducible first|refine za ?_|refine zb ?_|refine zc ?_)|refine ym zr ?_|refine yn 1 zr ?_|(refine yp zr ?_;intro _)|refine ys zr ?_
    rename_i i18 i19
    refine W.know fun hva hnd=>?_
    have in1:=(gS_in (enc:=Act.cs) (el:=127) (sz:=6) (i:=ja1) (l:=T.acts) (fun z hz=>by simp [hz])).in (V:=V) (one:=Act.v) (ag:=true) hnd (fun _=>rfl) (fun _=>rfl)
    have in2:=(gS_in (enc:=Act.cs) (el:=127) (sz:=6) (i:=p0.2) (l:=T.acts) (fun z hz=>by have:=x4 z hz;simp [this])).in (V:=V) (one:=Act.v) (ag:=true) hnd (fun _=>rfl) (fun _=>rfl)
    have in3:=(gS_in (enc:=iC) (el:=2) (sz:=1) (i:=jr1) (l:=T.regs) (fun z hz=>by simp [hz])).in (V:=V) (one:=AV.int .i64) (ag:=false) hnd (fun _=>rfl) (fun _=>rfl)
    have in4:=(gS_in (enc:=iC) (el:=2) (sz:=1) (i:=p0.1) (l:=T.regs) (fun z hz=>by have:=x3 z hz;simp [this])).in (V:=V) (one:=AV.int .i64) (ag:=false) hnd (fun _=>rfl) (fun _=>rfl)
    have e12:(gS ja1 T.acts).l=(gS p0.2 T.acts).l:=by rw [gS_l,gS_l]
    have e34:(gS jr1 T.regs).l=(gS p0.1 T.regs).l:=by rw [gS_l,gS_l]
    have hs1:=sameFiring_c (g:=G20) rfl in1 in2 e12 (by rw [gS_l];omega) T true
    have hs2:=sameMode_c (g:=G20) rfl in3 in4 e34 (by rw [gS_l];omega) T.s
    repeat first|refine W.callLP rfl rfl rfl rfl hs1 ?_|refine W.callLP rfl rfl rfl rfl hs2 ?_|(with_reducible first|refine za ?_|refine zb ?_|refine zc ?_)|refine ym zr ?_|refine yn 0 zr ?_|refine yn 3 zr ?_
    clear in1 in2 in3 in4 hs1 hs2 hva hnd e12 e34
    refine W.condP rfl (fun h=>absurd rfl h) (fun _=>?_)
    repeat first|(with_reducible first|refine za ?_|refine zb ?_)|refine ym zr ?_|refine yn 1 zr ?_|with_reducible refine zd ?_
    refine W.dropE ((i19,.cells [.int .i64 T.s,(gS jr1 T.regs).v] 30 2 true)::(i18,.cells [.int .i64 T.g,.bool T.dry,(gS ja1 T.acts).v,.int .u8 T.st,.int .i64 T.err,.int .i64 T.steps] 65 6 true)::bookB ib (hdL jl m) (hdL jm m)::(i15,.cells [.int .i64 T.s,(gS p0.1 T.regs).v] 30 2 true)::(i14,.cells [.int .i64 T.g,.bool T.dry,(gS p0.2 T.acts).v,.int .u8 T.st,.int .i64 T.err,.int .i64 T.steps] 65 6 true)::(ic,.cells [.str c.name,c.regs.v,.int .i64 c.slots,c.consts.v,c.code.v,c.states.v] 26 6 true)::(iw,.cells [.int .i64 w.bid,.int .i64 w.ask,.int .i64 w.last,.int .i64 w.volume,.int .i64 w.now,.int .i64 w.open_] 55 6 true)::(im,.cells [.int .i64 s,regs.v] 30 2 true)::(it,.cells [.str t.name,t.regs.v,.int .i64 t.slots,t.consts.v,t.code.v,t.states.v] 26 6 true)::((X++Y)++(gD iC 2 1 jr1 T.regs++gD Act.cs 127 6 ja1 T.acts))) (List.Sublist.refl _) ?_
    subst hY
    have la:=acts_c (V:=V) book20 ib (hdL jl m) jm bkm (jas.map fun k=>(gS k T.acts).v) qm (by rw [List.length_map,hj2];exact hg2) (by rw [List.length_map];omega) (gS ja1 T.acts).a (gS ja1 T.acts).l.length (gS ja1 T.acts).c
    rw [List.length_map,hj2] at la
    refine W.perm ((bookB ib (hdL jl m) (hdL jm m)::blL jm bkm m)++((i19,.cells [.int .i64 T.s,(gS jr1 T.regs).v] 30 2 true)::(i18,.cells [.int .i64 T.g,.bool T.dry,(gS ja1 T.acts).v,.int .u8 T.st,.int .i64 T.err,.int .i64 T.steps] 65 6 true)::(i15,.cells [.int .i64 T.s,(gS p0.1 T.regs).v] 30 2 true)::(i14,.cells [.int .i64 T.g,.bool T.dry,(gS p0.2 T.acts).v,.int .u8 T.st,.int .i64 T.err,.int .i64 T.steps] 65 6 true)::(ic,.cells [.str c.name,c.regs.v,.int .i64 c.slots,c.consts.v,c.code.v,c.states.v] 26 6 true)::(iw,.cells [.int .i64 w.bid,.int .i64 w.ask,.int .i64 w.last,.int .i64 w.volume,.int .i64 w.now,.int .i64 w.open_] 55 6 true)::(im,.cells [.int .i64 s,regs.v] 30 2 true)::(it,.cells [.str t.name,t.regs.v,.int .i64 t.slots,t.consts.v,t.code.v,t.states.v] 26 6 true)::(X++(blL jl bkl m++((jrs.flatMap (fun k=>gD iC 2 1 k T.regs)++jas.flatMap (fun k=>gD Act.cs 127 6 k T.acts))++(gD iC 2 1 jr1 T.regs++gD Act.cs 127 6 ja1 T.acts)))))) ?_ ?_
    · refine permC fun _ a=>by simp only [consS,List.count_append,List.count_nil,List.append_assoc,List.flatMap_append,List.flatMap_cons,List.flatMap_nil];omega
    refine W.callR rfl rfl rfl rfl la (by rintro v Δ' ⟨h1,-⟩;cases h1) ?_
    rintro v_ Δ_ ⟨h1_,jm',bkm',qm',rfl,hg2',hq2'⟩
    injection h1_ with h1_;subst h1_
    clear la
    repeat first|(with_reducible first|refine zb ?_|refine zc ?_)|refine ym zr ?_|refine yn 2 zr ?_
    have ll:=longs_c (V:=V) bookG20 ib (hdL jm' (m+1)) jl bkl (jrs.map fun k=>(gS k T.regs).v) ql (by rw [List.length_map,hj1];exact hg1) (by rw [List.length_map];omega) (gS jr1 T.regs).a (gS jr1 T.regs).l.length (gS jr1 T.regs).c
    rw [List.length_map,hj1] at ll
    refine W.perm ((bookB ib (hdL jl m) (hdL jm' (m+1))::blL jl bkl m)++((jm',bkm')::(i19,.cells [.int .i64 T.s,(gS jr1 T.regs).v] 30 2 true)::(i18,.cells [.int .i64 T.g,.bool T.dry,(gS ja1 T.acts).v,.int .u8 T.st,.int .i64 T.err,.int .i64 T.steps] 65 6 true)::(i15,.cells [.int .i64 T.s,(gS p0.1 T.regs).v] 30 2 true)::(i14,.cells [.int .i64 T.g,.bool T.dry,(gS p0.2 T.acts).v,.int .u8 T.st,.int .i64 T.err,.int .i64 T.steps] 65 6 true)::(ic,.cells [.str c.name,c.regs.v,.int .i64 c.slots,c.consts.v,c.code.v,c.states.v] 26 6 true)::(iw,.cells [.int .i64 w.bid,.int .i64 w.ask,.int .i64 w.last,.int .i64 w.volume,.int .i64 w.now,.int .i64 w.open_] 55 6 true)::(im,.cells [.int .i64 s,regs.v] 30 2 true)::(it,.cells [.str t.name,t.regs.v,.int .i64 t.slots,t.consts.v,t.code.v,t.states.v] 26 6 true)::(X++((jrs.flatMap (fun k=>gD iC 2 1 k T.regs)++jas.flatMap (fun k=>gD Act.cs 127 6 k T.acts))++(gD iC 2 1 jr1 T.regs++gD Act.cs 127 6 ja1 T.acts))))) ?_ ?_
    · refine permC fun _ a=>by simp only [consS,List.count_append,List.count_nil,List.append_assoc,List.flatMap_append,List.flatMap_cons,List.flatMap_nil];omega
    refine W.callR rfl rfl rfl rfl ll (by rintro v Δ' ⟨h1,-⟩;cases h1) ?_
    rintro v_ Δ_ ⟨h1_,jl',bkl',ql',rfl,hg1',hq1'⟩
    injection h1_ with h1_;subst h1_
    clear ll
    repeat first|(with_reducible first|refine zb ?_|refine zc ?_)|refine ym zr ?_|with_reducible refine zf ?_
    have ewm:IntKind.i64.wrap ((m:Int)+1)=((m+1:Nat):Int):=by rw [w64 (by omega) (by omega)];omega
    have hnext:=ih ⟨(m+1,(jrs++[jr1],jas++[ja1]),((jl',bkl',ql'),(jm',bkm',qm'))),hm2,by simp [hj1],by simp [hj2],fun _=>⟨by rw [List.map_append];exact hg1',hq1'⟩,fun _=>⟨by rw [List.map_append];exact hg2',hq2'⟩⟩ (by show 2-(m+1)<2-m;omega)
    simp only at hnext
    clear ih
    rw [blL_pos (Nat.succ_pos m),blL_pos (Nat.succ_pos m)] at hnext
    refine W.dropE (bookB ib (hdL jl' (m+1)) (hdL jm' (m+1))::(jl',bkl')::(jm',bkm')::(i15,.cells [.int .i64 T.s,(gS p0.1 T.regs).v] 30 2 true)::(i14,.cells [.int .i64 T.g,.bool T.dry,(gS p0.2 T.acts).v,.int .u8 T.st,.int .i64 T.err,.int .i64 T.steps] 65 6 true)::(ic,.cells [.str c.name,c.regs.v,.int .i64 c.slots,c.consts.v,c.code.v,c.states.v] 26 6 true)::(iw,.cells [.int .i64 w.bid,.int .i64 w.ask,.int .i64 w.last,.int .i64 w.volume,.int .i64 w.now,.int .i64 w.open_] 55 6 true)::(im,.cells [.int .i64 s,regs.v] 30 2 true)::(it,.cells [.str t.name,t.regs.v,.int .i64 t.slots,t.consts.v,t.code.v,t.states.v] 26 6 true)::(X++((jrs.flatMap (fun k=>gD iC 2 1 k T.regs)++jas.flatMap (fun k=>gD Act.cs 127 6 k T.acts))++(gD iC 2 1 jr1 T.regs++gD Act.cs 127 6 ja1 T.acts)))) (.cons_cons _ (.cons_cons _ (.cons_cons _ (.cons _ (.cons _ (List.Sublist.refl _)))))) ?_
    refine W.perm _ ?_ (W.weak _ _ ?_ (List.Sublist.refl _) hnext)
    · refine permC fun _ a=>by simp only [consS,List.count_append,List.count_nil,List.append_assoc,List.flatMap_append,List.flatMap_cons,List.flatMap_nil];omega
    · exact ⟨rfl,rfl,rfl,rfl,rfl,rfl,rfl,rfl,rfl,rfl,congrArg (fun z=>some (AV.int .i64 z)) ewm⟩
  · obtain rfl:m=2:=by omega
    clear ih
    refine W.know fun hva hnd=>?_
    have ht':=Table.okM (withV_le hva) ht
    have hx:=CpT.ok (CpT.mono hcp (fun z hz=>by have:=x1 z hz;simp [this])) ht hnd
    have hVi:=withV_at (V:=V) hnd (show lentB i regs.l∈_ by simp [x2])
    have h3:=sameT_c (g:=G20) rfl rfl hx ht' hcp.same
    have h4:=wholeLongs_c (g:=G20) rfl rfl hVi (In_mono (withV_le hva) hg) (by omega)
    repeat first|refine W.callLP rfl rfl rfl rfl h3 ?_|refine W.callLP rfl rfl rfl rfl h4 ?_|refine yn 5 zr ?_|refine yn 6 zr ?_|(with_reducible first|refine za ?_|refine zb ?_|refine zc ?_)|refine ym zr ?_|refine yn 3 zr ?_|(with_reducible first|refine zg ?_|refine zh ?_|refine zi ?_)|refine W.condF zr ?_
    clear h3 h4 hVi hx ht' hva hnd
    subst hY
    subst hXe
    have ll:=longs_c (V:=V) bookG20 ib (hdL jm 2) jl bkl (jrs.map fun k=>(gS k T.regs).v) ql (by rw [List.length_map,hj1];exact hg1) (by rw [List.length_map];omega) (some (i,0)) regs.l.length (.ex (regs.l.length+2))
    rw [List.length_map,hj1] at ll
    refine W.dropE (bookB ib (hdL jl 2) (hdL jm 2)::((Δ'++(lentB i regs.l::(gD iC 2 1 p0.1 T.regs++gD Act.cs 127 6 p0.2 T.acts)))++(blL jl bkl 2++(blL jm bkm 2++(jrs.flatMap (fun k=>gD iC 2 1 k T.regs)++jas.flatMap (fun k=>gD Act.cs 127 6 k T.acts)))))) (.cons_cons _ (.cons _ (.cons _ (.cons _ (.cons _ (.cons _ (.cons _ (List.Sublist.refl _)))))))) ?_
    refine W.perm ((bookB ib (hdL jl 2) (hdL jm 2)::blL jl bkl 2)++(lentB i regs.l::(blL jm bkm 2++((jrs.flatMap (fun k=>gD iC 2 1 k T.regs)++jas.flatMap (fun k=>gD Act.cs 127 6 k T.acts))++(Δ'++(gD iC 2 1 p0.1 T.regs++gD Act.cs 127 6 p0.2 T.acts)))))) ?_ ?_
    · refine permC fun _ a=>by simp only [consS,List.count_append,List.count_nil,List.append_assoc,List.flatMap_append,List.flatMap_cons,List.flatMap_nil];omega
    refine W.callR rfl rfl rfl rfl ll (by rintro v Δ' ⟨h1,-⟩;cases h1) ?_
    rintro v_ Δ_ ⟨h1_,jl',bkl',ql',rfl,hg1',hq1'⟩
    injection h1_ with h1_;subst h1_
    clear ll
    have hr3:(jrs.map (fun k=>orow k T.regs)++[lrow i regs.l]).length=3:=by simp [hj1]
    have ha2:(jas.map (fun k=>arow k T.acts)).length=2:=by simp [hj2]
    have hmr:(jrs.map (fun k=>orow k T.regs)++[lrow i regs.l]).map OR.v=(jrs.map fun k=>(gS k T.regs).v)++[.slice (some (i,0)) regs.l.length (.ex (regs.l.length+2))]:=by
      rw [List.map_append,List.map_map]
      congr 1
      exact List.map_congr_left fun k _=>orow_v k T.regs
    have hma:(jas.map (fun k=>arow k T.acts)).map OR.v=(jas.map fun k=>(gS k T.acts).v):=by
      rw [List.map_map]
      exact List.map_congr_left fun k _=>arow_v k T.acts
    have hbr:(jrs.map (fun k=>orow k T.regs)++[lrow i regs.l]).flatMap bbLo=jrs.flatMap (fun k=>gD iC 2 1 k T.regs)++lentB i regs.l::[]:=by
      rw [List.flatMap_append,List.flatMap_map]
      congr 1
      exact congrArg (fun f=>jrs.flatMap f) (funext fun k=>orow_b k T.regs)
    have hba:(jas.map (fun k=>arow k T.acts)).flatMap bbAc=jas.flatMap (fun k=>gD Act.cs 127 6 k T.acts):=by
      rw [List.flatMap_map]
      exact congrArg (fun f=>jas.flatMap f) (funext fun k=>arow_b k T.acts)
    have ho:=bookOwn2_c (V:=V) book20 ib (jrs.map (fun k=>orow k T.regs)++[lrow i regs.l]) jl' bkl' (by rw [hg1'.rdl,hmr]) (fun r hr=>by
      rcases List.mem_append.1 hr with hr|hr
      · obtain ⟨k,-,rfl⟩:=List.mem_map.1 hr
        exact orow_oks k (by omega)
      · rw [List.mem_singleton.1 hr]
        exact lrow_ok i (by omega)) (by rw [hr3];decide) (jas.map (fun k=>arow k T.acts)) jm bkm (by rw [(hg2 (by decide)).1.rdl,hma]) (fun r hr=>by
      obtain ⟨k,-,rfl⟩:=List.mem_map.1 hr
      exact arow_ok k hTl.2) (by rw [ha2];decide)
    rw [hr3,ha2,hbr,hba,blL_pos (by decide)] at ho
    repeat first|(with_reducible first|refine za ?_|refine zb ?_|refine zc ?_)|refine ym zr ?_
    refine W.perm ((bookB ib (hdL jl' (2+1)) (hdL jm 2)::(([(jl',bkl')]++(jrs.flatMap (fun k=>gD iC 2 1 k T.regs)++lentB i regs.l::[]))++(blL jm bkm 2++jas.flatMap (fun k=>gD Act.cs 127 6 k T.acts))))++(Δ'++(gD iC 2 1 p0.1 T.regs++gD Act.cs 127 6 p0.2 T.acts))) ?_ ?_
    · refine permC fun _ a=>by simp only [consS,List.count_append,List.count_nil,List.append_assoc,List.flatMap_append,List.flatMap_cons,List.flatMap_nil];omega
    refine W.callR rfl rfl rfl rfl ho (by rintro v Δ' h1;cases h1) ?_
    rintro v_ Δ_ h1_
    injection h1_ with h1_;subst h1_
    repeat' first|(with_reducible first|refine za ?_|refine zb ?_|refine zc ?_)|refine ym zr ?_|with_reducible refine zj ?_|refine W.done zr ?_
    rfl
end Go.Proofs.YtoegffiapnnkiaaGreat.Abs
