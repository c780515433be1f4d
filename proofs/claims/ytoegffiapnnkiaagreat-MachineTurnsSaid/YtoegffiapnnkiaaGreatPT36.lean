/- Parts of one proof. No condition but those that each theorem names. -/
import Derived.Test.YtoegffiapnnkiaaGreatPT32
import Derived.Test.YtoegffiapnnkiaaGreatPT34
import Derived.Test.YtoegffiapnnkiaaGreatPT35
namespace Go.Proofs.YtoegffiapnnkiaaGreat.Abs
open Go
set_option linter.unusedVariables false
set_option linter.unusedSimpArgs false
set_option maxRecDepth 100000
set_option maxHeartbeats 4000000
attribute [local irreducible] W Cl Bd
variable {g:Cg} {V:K→Option (List AV)}
def bodR (k:K) (t:Table) (w:Snap) (jr ja:K) (b:Bod):K×Bk:=(k,.cells [.str t.name,t.regs.v,.int .i64 t.slots,t.consts.v,t.code.v,t.states.v,.int .i64 w.bid,.int .i64 w.ask,.int .i64 w.last,.int .i64 w.volume,.int .i64 w.now,.int .i64 w.open_,.int .i64 b.s,(gS jr b.regs).v,.int .u8 b.st,(gS ja b.acts).v,.int .i64 b.steps,.int .i64 b.err] 294 18 true)
structure BodRG (g:Cg):Prop where
  O:OprG g
  R:RunG g
  C:∀k,CallS Tryz.prog (callA Tryz.prog g (exec Tryz.prog g k))
  part:Plain g 186=true
  row:Plain g 159=true
  copied:Plain g 61=true
  fire:Plain g 123=true
  go:Plain g 80=true
theorem partR_c (B:BodRG g) {t:Table} (ht:t.Ok V) (hck:checkS t=none) {w:Snap} (hw:w.Ok) (k jr ja:K) (b:Bod)
    (hr:(gS jr b.regs).In V false 1 (AV.int .i64)) (hrn:∀n∈b.regs,In64 n) (hrl:b.regs.length=t.regs.l.length) (hst:0≤b.steps∧b.steps≤1000000000) (x:Span) (hx:x.t=0∨SpanRuns t x) :
    Cl Tryz.prog g V 186 [.ptr (some (k,0)),x.v] [bodR k t w jr ja b] fun o Δ=>o=.ret (.int .i64 (partF t w b x).1)∧Δ=[bodR k t w jr ja (partF t w b x).2]:=by
  refine Cl.enter B.part Tryz.func186 rfl ?_
  unfold partF
  obtain ⟨s,regs,acts,st,steps,err⟩:=b
  obtain ⟨f,z⟩:=x
  simp only at hr hrn hrl hst hx ⊢
  unfold bodR
  simp only
  by_cases he:err=0
  rotate_left
  · rw [if_neg he]
    repeat first|(refine W.gs rfl rfl rfl rfl ?_ (fun h=>absurd he h);intro _)|(with_reducible first|refine za ?_|refine zb ?_|refine zc ?_)|refine ym zr ?_|refine yn 1 zr ?_|(refine yo zr ?_;intro _)|(with_reducible first|refine zj ?_|refine zk ?_)|refine zx zr zr zr ?_|refine W.condT zr ?_
    refine W.dropE [_] (.cons _ (List.Sublist.refl _)) ?_
    repeat' first|refine W.done zr ?_
    exact ⟨rfl,rfl⟩
  subst he
  rw [if_pos rfl]
  by_cases hz:z=0
  · subst hz
    rw [if_pos rfl]
    repeat first|(refine W.gs rfl rfl rfl rfl (fun h=>absurd rfl h) ?_;intro _)|(with_reducible first|refine za ?_|refine zb ?_|refine zc ?_)|refine ym zr ?_|refine yn 0 zr ?_|refine yn 1 zr ?_|(refine yo zr ?_;intro _)|(with_reducible first|refine zj ?_|refine zk ?_)|refine W.condT zr ?_
    refine W.dropE [_] (.cons _ (List.Sublist.refl _)) ?_
    repeat' first|refine W.done zr ?_
    exact ⟨rfl,rfl⟩
  rw [if_neg hz]
  have hx:=hx.resolve_left hz
  obtain ⟨H,q,hs,hq,hq1,hq2⟩:=runs_to hck hx regs w
  have hcode:=(check_code hck).1
  have hrun:=spanRun_c (m:=5000) B.O B.R B.C ht hr (by rw [gS_l];exact hrn) (by rw [gS_l];exact hrl) hw hx.1 hx.2.1 hx.2.2.1 hcode hs (by have:=hx.1;have:=hx.2.2.1;omega) (by rw [gS_l];exact hq)
  rw [hq]
  have ew:IntKind.i64.wrap (steps+q.2.1)=steps+q.2.1:=w64 (by have:=hx.2.2.1;have:=hx.1;simp only at *;omega) (by have:=hx.2.2.1;have:=hx.1;simp only at *;omega)
  repeat first|(refine W.gs rfl rfl rfl rfl (fun h=>absurd rfl h) ?_;intro _)|(with_reducible first|refine za ?_|refine zb ?_|refine zc ?_)|refine ym zr ?_|refine yn 0 zr ?_|refine yn 1 zr ?_|(refine yo zr ?_;intro _)
  refine W.condP rfl (fun h=>absurd h hz) (fun _=>?_)
  repeat first|refine W.callP rfl rfl rfl rfl hrun ?_|(with_reducible first|refine za ?_|refine zb ?_|refine zc ?_)|refine ym zr ?_|refine yn 0 zr ?_|refine yn 1 zr ?_|refine yq zr ?_|refine ys zr ?_|(with_reducible first|refine zd ?_|refine zj ?_)|refine zw (by decide +kernel) ?_
  simp only [ew]
  refine W.dropE [_] (.cons_cons _ (List.nil_sublist _)) ?_
  repeat' first|refine W.done zr ?_
  exact ⟨rfl,rfl⟩
def bodRD (k:K) (t:Table) (w:Snap) (jr ja:K) (b:Bod):Dm:=bodR k t w jr ja b::(gD iC 2 1 jr b.regs++gD Act.cs 127 6 ja b.acts)
theorem partRL_c (B:BodRG g) {t:Table} (ht:t.Ok V) (hck:checkS t=none) {w:Snap} (hw:w.Ok) (k jr ja:K) (b:Bod)
    (hb:BodOk t b) (hst:0≤b.steps∧b.steps≤1000000000) (x:Span) (hx:x.t=0∨SpanRuns t x) (R:Dm) (hR:∀z∈gD iC 2 1 jr b.regs,z∈R) (hva:∀i∈names R,V i=none) (hnd:(names R).Nodup) :
    Cl Tryz.prog g (withV V R) 186 [.ptr (some (k,0)),x.v] [bodR k t w jr ja b] fun o Δ=>o=.ret (.int .i64 (partF t w b x).1)∧Δ=[bodR k t w jr ja (partF t w b x).2] :=
  partR_c B (Table.okM (withV_le hva) ht) hck hw k jr ja b ((gS_in (enc:=iC) (el:=2) (sz:=1) (i:=jr) (l:=b.regs) hR).in (V:=V) (one:=AV.int .i64) (ag:=false) hnd (fun _=>rfl) (fun _=>rfl)) hb.in_ hb.len hst x hx
theorem sideD_is (t:Table) (w:Snap) (b:Bod) (r:Row):∃e',(sideD t w b r).2=⟨b.s,b.regs,b.acts,b.st,(partF t w b r.side).2.steps,e'⟩:=by
  obtain ⟨a1,a2,a3,a4⟩:=partF_same t w b r.side
  unfold sideD
  simp only
  generalize partF t w b r.side=q at a1 a2 a3 a4 ⊢
  obtain ⟨v,s',regs',acts',st',steps',err'⟩:=q
  simp only at a1 a2 a3 a4 ⊢
  subst a1;subst a2;subst a3;subst a4
  split
  · exact ⟨_,rfl⟩
  · exact ⟨_,rfl⟩
theorem rowR0_c (B:BodRG g) {t:Table} (ht:t.Ok V) (hck:checkS t=none) {w:Snap} (hw:w.Ok) (k jr ja:K) (b:Bod)
    (hb:BodOk t b) (hst:0≤b.steps∧b.steps≤990000000) (hal:b.acts.length≤1000000) {r:Row} (hr:RowOk t r) :
    Cl Tryz.prog g V 159 [.ptr (some (k,0)),r.v] (bodRD k t w jr ja b) fun o Δ=>o=.ret (.tup [])∧∃ja',Δ=bodRD k t w jr ja' (rowD t w b r):=by
  refine Cl.enter B.row Tryz.func159 rfl ?_
  have hs:=partRL_c B ht hck hw k jr ja b hb ⟨hst.1,by omega⟩ r.side (hr.span (.inl rfl))
  have ss0:=part_steps hck w b (hr.span (.inl rfl))
  have sl0:=lenT_le hck (hr.span (.inl rfl))
  obtain ⟨e',he'⟩:=sideD_is t w b r
  have hside:(sideD t w b r).1=(partF t w b r.side).1:=rfl
  have herr:e'=if r.k=1∧(partF t w b r.side).2.err=0∧(partF t w b r.side).1≠1∧(partF t w b r.side).1≠2 then 201 else (partF t w b r.side).2.err:=by
    have:e'=(sideD t w b r).2.err:=by rw [he']
    rw [this]
    unfold sideD
    simp only
    split<;>rfl
  have hb1:BodOk t (sideD t w b r).2:=by rw [he'];exact ⟨hb.len,hb.in_,hb.s⟩
  have hq:=partRL_c B ht hck hw k jr ja (sideD t w b r).2 hb1 (by rw [he'];exact ⟨by show 0≤(partF t w b r.side).2.steps;omega,by show (partF t w b r.side).2.steps≤_;omega⟩) r.qty (hr.span (.inr (.inl rfl)))
  have ss1:=part_steps hck w (sideD t w b r).2 (hr.span (.inr (.inl rfl)))
  have sl1:=lenT_le hck (hr.span (.inr (.inl rfl)))
  have hst1:(sideD t w b r).2.steps=(partF t w b r.side).2.steps:=by rw [he']
  have hp:=partRL_c B ht hck hw k jr ja (partF t w (sideD t w b r).2 r.qty).2 (part_ok hb1 r.qty) ⟨by omega,by omega⟩ r.price (hr.span (.inr (.inr (.inl rfl))))
  have ss2:=part_steps hck w (partF t w (sideD t w b r).2 r.qty).2 (hr.span (.inr (.inr (.inl rfl))))
  have sl2:=lenT_le hck (hr.span (.inr (.inr (.inl rfl))))
  have hv:=partRL_c B ht hck hw k jr ja (partF t w (partF t w (sideD t w b r).2 r.qty).2 r.price).2 (part_ok (part_ok hb1 r.qty) r.price) ⟨by omega,by omega⟩ r.value (hr.span (.inr (.inr (.inr rfl))))
  clear ss0 sl0 ss1 sl1 ss2 sl2 hb1 hst1
  obtain ⟨c1,c2,c3,c4⟩:=partF_same t w b r.side
  obtain ⟨a1,a2,a3,a4⟩:=partF_same t w (sideD t w b r).2 r.qty
  obtain ⟨b1,b2,b3,b4⟩:=partF_same t w (partF t w (sideD t w b r).2 r.qty).2 r.price
  obtain ⟨d1,d2,d3,d4⟩:=partF_same t w (partF t w (partF t w (sideD t w b r).2 r.qty).2 r.price).2 r.value
  unfold rowD
  rw [hside]
  generalize partF t w (partF t w (partF t w (sideD t w b r).2 r.qty).2 r.price).2 r.value=q3 at hv d1 d2 d3 d4 ⊢
  generalize partF t w (partF t w (sideD t w b r).2 r.qty).2 r.price=q2 at hp hv b1 b2 b3 b4 d1 d2 d3 d4 ⊢
  generalize partF t w (sideD t w b r).2 r.qty=q1 at hq hp a1 a2 a3 a4 b1 b2 b3 b4 ⊢
  rw [he'] at hq a1 a2 a3 a4
  clear he' hside
  generalize partF t w b r.side=q0 at hs hq herr c1 c2 c3 c4 a1 a2 a3 a4 ⊢
  obtain ⟨v0,s0,regs0,acts0,st0,steps0,err0⟩:=q0
  obtain ⟨v1,s1,regs1,acts1,st1,steps1,err1⟩:=q1
  obtain ⟨v2,s2,regs2,acts2,st2,steps2,err2⟩:=q2
  obtain ⟨v3,s3,regs3,acts3,st3,steps3,err3⟩:=q3
  simp only at hs hq hp hv herr a1 a2 a3 a4 b1 b2 b3 b4 c1 c2 c3 c4 d1 d2 d3 d4 ⊢
  subst c1;subst c2;subst c3;subst c4
  subst a1;subst a2;subst a3;subst a4
  subst b1;subst b2;subst b3;subst b4
  subst d1;subst d2;subst d3;subst d4
  have hk:=hr.k
  have hidx:=hr.index
  have hbl:=hb.len
  clear hr
  obtain ⟨rk,ro,ri,rs,rq,rp,rv⟩:=r
  simp only at hk hs hq hp hv herr hidx ⊢
  unfold bodRD
  have hX:∀z∈gD iC 2 1 jr b.regs,z∈(gD iC 2 1 jr b.regs++gD Act.cs 127 6 ja b.acts):=fun z hz=>List.mem_append_left _ hz
  generalize hXe:(gD iC 2 1 jr b.regs++gD Act.cs 127 6 ja b.acts)=X at hX
  repeat first|(with_reducible first|refine za ?_|refine zb ?_|refine zc ?_)|refine ym zr ?_|refine yn 0 zr ?_|refine yn 1 zr ?_|(refine yo zr ?_;intro _)|(refine yp zr ?_;intro _)|refine yq zr ?_
  refine W.fr2 ?_
  refine W.know fun hva hnd=>?_
  have hs:=hs (_::_::X) (fun z hz=>.tail _ (.tail _ (hX z hz))) (fun i hi=>hva i (List.mem_cons_of_mem _ hi)) (List.nodup_cons.1 hnd).2
  clear hva hnd
  refine W.callHe (Δ:=[_]) (R:=_::_::X) rfl rfl rfl rfl hs (by rintro v Δ' ⟨h,-⟩;cases h) ?_
  rintro v_ Δ_ ⟨h1_,rfl⟩
  injection h1_ with h1_;subst h1_
  clear hs
  rename_i ir ia
  iterate 3 first|(with_reducible first|refine za ?_|refine zc ?_)|refine ym zr ?_
  refine W.cut (fun Γ' Δ'=>Γ'=[(0,.ptr (some (k,0))),(3,.ptr (some (ir,0))),(4,.ptr (some (ia,0))),(5,.int .i64 v0)]∧Δ'=bodR k t w jr ja ⟨b.s,b.regs,b.acts,b.st,steps0,e'⟩::(ia,.cells [.int .u8 0,.int .u8 ro,.int .u8 0,.int .i64 0,.int .i64 0,.int .i64 ri] 127 6 true)::(ir,.cells [.int .u8 rk,.int .u8 ro,.int .i64 ri,.int .i64 rs.f,.int .i64 rs.t,.int .i64 rq.f,.int .i64 rq.t,.int .i64 rp.f,.int .i64 rp.t,.int .i64 rv.f,.int .i64 rv.t] 148 11 true)::X) ?_ ?_
  rotate_left
  · intro hA
    have hA:=hA _ _ ⟨rfl,rfl⟩
    by_cases h1:rk=1
    · subst h1
      by_cases h2:err0=0
      · subst h2
        by_cases h3:v0=1
        · subst h3
          rw [if_neg (fun h=>h.2.2.1 rfl)] at herr
          subst herr
          repeat first|exact W.wk hA ⟨rfl,rfl,rfl,rfl⟩ (List.Sublist.refl _)|(refine W.gs rfl rfl rfl rfl ?_ (fun h=>absurd rfl h);intro _)|(refine W.gs rfl rfl rfl rfl (fun h=>absurd rfl h) ?_;intro _)|(with_reducible first|refine za ?_|refine zb ?_|refine zc ?_)|refine ym zr ?_|refine yn 0 zr ?_|refine yn 2 zr ?_|with_reducible refine zd ?_|refine zx zr zr zr ?_|refine W.condF zr ?_
        by_cases h4:v0=2
        · subst h4
          rw [if_neg (fun h=>h.2.2.2 rfl)] at herr
          subst herr
          repeat first|exact W.wk hA ⟨rfl,rfl,rfl,rfl⟩ (List.Sublist.refl _)|(refine W.gs rfl rfl rfl rfl ?_ (fun h=>absurd rfl h);intro _)|refine W.condP rfl (fun h=>absurd rfl h) (fun _=>?_)|(with_reducible first|refine za ?_|refine zb ?_|refine zc ?_)|refine ym zr ?_|refine yn 0 zr ?_|refine yn 2 zr ?_|with_reducible refine zd ?_
        rw [if_pos ⟨rfl,rfl,h3,h4⟩] at herr
        subst herr
        repeat first|exact W.wk hA ⟨rfl,rfl,rfl,rfl⟩ (List.Sublist.refl _)|(refine W.gs rfl rfl rfl rfl ?_ (fun h=>absurd rfl h);intro _)|(refine W.gs rfl rfl rfl rfl ?_ (fun h=>absurd h3 h);intro _)|refine W.condP rfl (fun _=>?_) (fun h=>absurd h4 h)|(with_reducible first|refine za ?_|refine zb ?_|refine zc ?_)|refine ym zr ?_|refine yn 0 zr ?_|refine yn 2 zr ?_|refine yq zr ?_
      · rw [if_neg (fun h=>h2 h.2.1)] at herr
        subst herr
        repeat first|exact W.wk hA ⟨rfl,rfl,rfl,rfl⟩ (List.Sublist.refl _)|(refine W.gs rfl rfl rfl rfl ?_ (fun h=>absurd rfl h);intro _)|(refine W.gs rfl rfl rfl rfl (fun h=>absurd h h2) ?_;intro _)|(with_reducible first|refine za ?_|refine zb ?_|refine zc ?_)|refine ym zr ?_|refine yn 0 zr ?_|refine yn 2 zr ?_|with_reducible refine zd ?_|refine zx zr zr zr ?_|refine W.condF zr ?_
    · rw [if_neg (fun h=>h1 h.1)] at herr
      subst herr
      repeat first|exact W.wk hA ⟨rfl,rfl,rfl,rfl⟩ (List.Sublist.refl _)|(refine W.gs rfl rfl rfl rfl (fun h=>absurd h h1) ?_;intro _)|(with_reducible first|refine za ?_|refine zb ?_|refine zc ?_)|refine ym zr ?_|refine yn 2 zr ?_|with_reducible refine zd ?_|refine zx zr zr zr ?_|refine W.condF zr ?_
  rintro _ _ ⟨rfl,rfl⟩
  clear herr
  repeat first|(with_reducible first|refine za ?_|refine zb ?_)|refine ym zr ?_|refine yn 2 zr ?_
  refine W.know fun hva hnd=>?_
  have hq:=hq (_::_::X) (fun z hz=>.tail _ (.tail _ (hX z hz))) (fun i hi=>hva i (List.mem_cons_of_mem _ hi)) (List.nodup_cons.1 hnd).2
  clear hva hnd
  refine W.callHe (Δ:=[_]) (R:=_::_::X) rfl rfl rfl rfl hq (by rintro v Δ' ⟨h,-⟩;cases h) ?_
  rintro v_ Δ_ ⟨h1_,rfl⟩
  injection h1_ with h1_;subst h1_
  clear hq
  repeat first|(with_reducible first|refine za ?_|refine zb ?_|refine zc ?_)|refine ym zr ?_|refine yn 2 zr ?_|refine ys zr ?_
  refine W.fr1 ?_
  refine W.know fun hva hnd=>?_
  have hp:=hp (_::_::X) (fun z hz=>.tail _ (.tail _ (hX z hz))) (fun i hi=>hva i (List.mem_cons_of_mem _ hi)) (List.nodup_cons.1 hnd).2
  clear hva hnd
  refine W.callHe (Δ:=[_]) (R:=_::_::X) rfl rfl rfl rfl hp (by rintro v Δ' ⟨h,-⟩;cases h) ?_
  rintro v_ Δ_ ⟨h1_,rfl⟩
  injection h1_ with h1_;subst h1_
  clear hp
  repeat first|(with_reducible first|refine za ?_|refine zb ?_|refine zc ?_)|refine ym zr ?_|refine yn 2 zr ?_|refine ys zr ?_
  refine W.fr1 ?_
  refine W.know fun hva hnd=>?_
  have hv:=hv (_::_::X) (fun z hz=>.tail _ (.tail _ (hX z hz))) (fun i hi=>hva i (List.mem_cons_of_mem _ hi)) (List.nodup_cons.1 hnd).2
  clear hva hnd
  refine W.callHe (Δ:=[_]) (R:=_::_::X) rfl rfl rfl rfl hv (by rintro v Δ' ⟨h,-⟩;cases h) ?_
  rintro v_ Δ_ ⟨h1_,rfl⟩
  injection h1_ with h1_;subst h1_
  clear hv
  unfold bodR
  unfold actD
  simp only
  by_cases he:err3=0
  rotate_left
  · rw [if_neg he]
    repeat first|(with_reducible first|refine za ?_|refine zb ?_|refine zc ?_)|refine ym zr ?_|refine yn 0 zr ?_
    refine W.condP rfl (fun _=>?_) (fun h=>absurd he h)
    repeat first|(with_reducible first|refine zj ?_|refine zk ?_)
    refine W.dropE (_::X) (.cons_cons _ (.cons _ (.cons _ (List.Sublist.refl _)))) ?_
    repeat' first|refine W.done zr ?_
    exact ⟨rfl,ja,by rw [←hXe]⟩
  subst he
  rw [if_pos rfl]
  rcases (by omega:rk=1∨rk=2∨rk=3∨rk=4∨rk=5∨rk=6) with rfl|rfl|rfl|rfl|rfl|rfl
  all_goals simp only [if_true,Int.reduceEq,if_false]
  · skip
    repeat first|(with_reducible first|refine za ?_|refine zb ?_|refine zc ?_)|refine ym zr ?_|refine yn 0 zr ?_|refine yn 2 zr ?_|refine yq zr ?_|refine ys zr ?_|(with_reducible first|refine zd ?_|refine ze ?_)|refine W.condT zr ?_|refine W.condF zr ?_
    refine W.drawG _ [(4,6,7)] 0 (by decide +kernel) tbl tblOk ⟨⟨_,_,_,k,15,(gS ja b.acts).v,rfl,rfl,slv_same' _ _,?_,?_⟩,trivial⟩ (.inl rfl) ?_
    · show W _ _ _ _ _ [.o false _ [_,_,_,_]] _ _ _ _
      repeat' first|with_reducible refine zc ?_|refine ym zr ?_|refine W.doneN zr ?_
      exact ⟨rfl,_,_,.tail _ (.head _),rfl,rfl⟩
    · intro j hj1 hj2
      obtain rfl|rfl:j=6∨j=7:=by have h1:6≤j:=hj1;have h2:j≤7:=hj2;omega
      · show W _ _ _ _ _ [.o false _ [_,_,_,_,_,_]] _ _ _ _
        repeat' first|with_reducible refine zc ?_|refine ym zr ?_|refine yn 0 zr ?_|refine yn 1 zr ?_|refine W.doneN zr ?_
        exact ⟨_,_,.tail _ (.head _),rfl,rfl⟩
      · show W _ _ _ _ _ [.o false _ [_,_,_,_,_,_,_]] _ _ _ _
        repeat' first|(refine W.bsl tblOk rfl rfl rfl rfl (by decide) rfl rfl rfl ?_;intro is)|with_reducible refine zc ?_|refine ym zr ?_|refine yn 0 zr ?_|refine yn 1 zr ?_|refine W.doneN zr ?_
        exact ⟨_,_,.tail _ (.tail _ (.head _)),rfl,rfl⟩
    repeat first|(refine W.bsl tblOk rfl rfl rfl rfl (by decide) rfl rfl rfl ?_;intro is)|refine ym zr ?_|refine yn 0 zr ?_|refine yn 1 zr ?_
    subst hXe
    refine W.perm ((_::_::_::_::gD iC 2 1 jr b.regs)++(gD Act.cs 127 6 ja b.acts++[])) (by rw [List.append_nil];exact List.Perm.refl _) ?_
    refine W.appG (i:=ja) (l:=b.acts) (m:=[(⟨1,ro,IntKind.u8.wrap v0,v2,v1,ri⟩:Act)]) (enc:=Act.cs) (_::_::_::_::gD iC 2 1 jr b.regs) tblOk rfl rfl rfl rfl rfl rfl rfl (by decide) (by simp only [List.length_singleton];omega) (fun _=>rfl) (src_own (p:=0) rfl rfl rfl) (fun h=>by cases h) rfl rfl rfl fun ja'=>?_
    repeat first|with_reducible refine zc ?_|refine ym zr ?_|refine yu zr ?_|with_reducible refine zf ?_
    refine W.dropE (_::(gD iC 2 1 jr b.regs++(gD Act.cs 127 6 ja' (b.acts++[(⟨1,ro,IntKind.u8.wrap v0,v2,v1,ri⟩:Act)])++[]))) (.cons_cons _ (.cons _ (.cons _ (.cons _ (List.Sublist.refl _))))) ?_
    repeat' first|refine W.doneN zr ?_
    exact ⟨rfl,ja',by rw [List.append_nil]⟩
  · skip
    repeat first|(with_reducible first|refine za ?_|refine zb ?_|refine zc ?_)|refine ym zr ?_|refine yn 0 zr ?_|refine yn 2 zr ?_|refine ys zr ?_|(with_reducible first|refine zd ?_|refine ze ?_)|refine W.condT zr ?_|refine W.condF zr ?_
    refine W.drawG _ [(4,6,7)] 0 (by decide +kernel) tbl tblOk ⟨⟨_,_,_,k,15,(gS ja b.acts).v,rfl,rfl,slv_same' _ _,?_,?_⟩,trivial⟩ (.inl rfl) ?_
    · show W _ _ _ _ _ [.o false _ [_,_,_,_]] _ _ _ _
      repeat' first|with_reducible refine zc ?_|refine ym zr ?_|refine W.doneN zr ?_
      exact ⟨rfl,_,_,.tail _ (.head _),rfl,rfl⟩
    · intro j hj1 hj2
      obtain rfl|rfl:j=6∨j=7:=by have h1:6≤j:=hj1;have h2:j≤7:=hj2;omega
      · show W _ _ _ _ _ [.o false _ [_,_,_,_,_,_]] _ _ _ _
        repeat' first|with_reducible refine zc ?_|refine ym zr ?_|refine yn 0 zr ?_|refine yn 1 zr ?_|refine W.doneN zr ?_
        exact ⟨_,_,.tail _ (.head _),rfl,rfl⟩
      · show W _ _ _ _ _ [.o false _ [_,_,_,_,_,_,_]] _ _ _ _
        repeat' first|(refine W.bsl tblOk rfl rfl rfl rfl (by decide) rfl rfl rfl ?_;intro is)|with_reducible refine zc ?_|refine ym zr ?_|refine yn 0 zr ?_|refine yn 1 zr ?_|refine W.doneN zr ?_
        exact ⟨_,_,.tail _ (.tail _ (.head _)),rfl,rfl⟩
    repeat first|(refine W.bsl tblOk rfl rfl rfl rfl (by decide) rfl rfl rfl ?_;intro is)|refine ym zr ?_|refine yn 0 zr ?_|refine yn 1 zr ?_
    subst hXe
    refine W.perm ((_::_::_::_::gD iC 2 1 jr b.regs)++(gD Act.cs 127 6 ja b.acts++[])) (by rw [List.append_nil];exact List.Perm.refl _) ?_
    refine W.appG (i:=ja) (l:=b.acts) (m:=[(⟨2,ro,0,v2,v1,ri⟩:Act)]) (enc:=Act.cs) (_::_::_::_::gD iC 2 1 jr b.regs) tblOk rfl rfl rfl rfl rfl rfl rfl (by decide) (by simp only [List.length_singleton];omega) (fun _=>rfl) (src_own (p:=0) rfl rfl rfl) (fun h=>by cases h) rfl rfl rfl fun ja'=>?_
    repeat first|with_reducible refine zc ?_|refine ym zr ?_|refine yu zr ?_|with_reducible refine zf ?_
    refine W.dropE (_::(gD iC 2 1 jr b.regs++(gD Act.cs 127 6 ja' (b.acts++[(⟨2,ro,0,v2,v1,ri⟩:Act)])++[]))) (.cons_cons _ (.cons _ (.cons _ (.cons _ (List.Sublist.refl _))))) ?_
    repeat' first|refine W.doneN zr ?_
    exact ⟨rfl,ja',by rw [List.append_nil]⟩
  · skip
    repeat first|(with_reducible first|refine za ?_|refine zb ?_|refine zc ?_)|refine ym zr ?_|refine yn 0 zr ?_|refine yn 2 zr ?_|refine ys zr ?_|(with_reducible first|refine zd ?_|refine ze ?_)|refine W.condT zr ?_|refine W.condF zr ?_
    refine W.drawG _ [(4,6,7)] 0 (by decide +kernel) tbl tblOk ⟨⟨_,_,_,k,15,(gS ja b.acts).v,rfl,rfl,slv_same' _ _,?_,?_⟩,trivial⟩ (.inl rfl) ?_
    · show W _ _ _ _ _ [.o false _ [_,_,_,_]] _ _ _ _
      repeat' first|with_reducible refine zc ?_|refine ym zr ?_|refine W.doneN zr ?_
      exact ⟨rfl,_,_,.tail _ (.head _),rfl,rfl⟩
    · intro j hj1 hj2
      obtain rfl|rfl:j=6∨j=7:=by have h1:6≤j:=hj1;have h2:j≤7:=hj2;omega
      · show W _ _ _ _ _ [.o false _ [_,_,_,_,_,_]] _ _ _ _
        repeat' first|with_reducible refine zc ?_|refine ym zr ?_|refine yn 0 zr ?_|refine yn 1 zr ?_|refine W.doneN zr ?_
        exact ⟨_,_,.tail _ (.head _),rfl,rfl⟩
      · show W _ _ _ _ _ [.o false _ [_,_,_,_,_,_,_]] _ _ _ _
        repeat' first|(refine W.bsl tblOk rfl rfl rfl rfl (by decide) rfl rfl rfl ?_;intro is)|with_reducible refine zc ?_|refine ym zr ?_|refine yn 0 zr ?_|refine yn 1 zr ?_|refine W.doneN zr ?_
        exact ⟨_,_,.tail _ (.tail _ (.head _)),rfl,rfl⟩
    repeat first|(refine W.bsl tblOk rfl rfl rfl rfl (by decide) rfl rfl rfl ?_;intro is)|refine ym zr ?_|refine yn 0 zr ?_|refine yn 1 zr ?_
    subst hXe
    refine W.perm ((_::_::_::_::gD iC 2 1 jr b.regs)++(gD Act.cs 127 6 ja b.acts++[])) (by rw [List.append_nil];exact List.Perm.refl _) ?_
    refine W.appG (i:=ja) (l:=b.acts) (m:=[(⟨3,ro,0,v2,v1,ri⟩:Act)]) (enc:=Act.cs) (_::_::_::_::gD iC 2 1 jr b.regs) tblOk rfl rfl rfl rfl rfl rfl rfl (by decide) (by simp only [List.length_singleton];omega) (fun _=>rfl) (src_own (p:=0) rfl rfl rfl) (fun h=>by cases h) rfl rfl rfl fun ja'=>?_
    repeat first|with_reducible refine zc ?_|refine ym zr ?_|refine yu zr ?_|with_reducible refine zf ?_
    refine W.dropE (_::(gD iC 2 1 jr b.regs++(gD Act.cs 127 6 ja' (b.acts++[(⟨3,ro,0,v2,v1,ri⟩:Act)])++[]))) (.cons_cons _ (.cons _ (.cons _ (.cons _ (List.Sublist.refl _))))) ?_
    repeat' first|refine W.doneN zr ?_
    exact ⟨rfl,ja',by rw [List.append_nil]⟩
  · have hidx:0≤ri∧ri<t.regs.l.length:=of_decide_eq_true hidx
    have hi0:(0:Int)≤ri:=hidx.1
    have hi1:ri<((gS jr b.regs).l.length:Int):=by rw [gS_l,hbl];exact hidx.2
    have hpos:0<b.regs.length:=by omega
    have hset:=set_iC (l:=b.regs) (n:=0+ri.toNat * 1) (by omega) v3
    rw [gD_pos hpos] at hXe
    subst hXe
    repeat first|refine W.ia tblOk rfl rfl rfl rfl rfl rfl (gS_pos hpos) hi0 hi1 ?_|(refine W.fr3 ?_;refine W.stF tblOk rfl rfl rfl rfl rfl rfl rfl hset ?_)|(with_reducible first|refine za ?_|refine zb ?_|refine zc ?_)|refine ym zr ?_|refine yn 0 zr ?_|refine yn 2 zr ?_|(with_reducible first|refine zd ?_|refine ze ?_|refine zf ?_)|refine zw (by decide +kernel) ?_|refine W.condT zr ?_|refine W.condF zr ?_
    refine W.dropE (_::_::gD Act.cs 127 6 ja b.acts) (.cons_cons _ (.cons_cons _ (.cons _ (.cons _ (List.Sublist.refl _))))) ?_
    refine W.fr1 ?_
    repeat' first|refine W.doneN zr ?_
    refine ⟨rfl,ja,?_⟩
    rw [show 0+ri.toNat * 1=ri.toNat by omega,gD_pos (l:=b.regs.set ri.toNat v3) (by rw [List.length_set];exact hpos)]
    simp only [gS_set]
    rfl
  · skip
    repeat first|(with_reducible first|refine za ?_|refine zb ?_|refine zc ?_)|refine ym zr ?_|refine yn 0 zr ?_|refine yn 2 zr ?_|refine yq zr ?_|(with_reducible first|refine zd ?_|refine ze ?_|refine zf ?_)|refine W.condT zr ?_|refine W.condF zr ?_
    refine W.dropE (_::X) (.cons_cons _ (.cons _ (.cons _ (List.Sublist.refl _)))) ?_
    repeat' first|refine W.doneN zr ?_
    exact ⟨rfl,ja,by rw [←hXe]⟩
  · skip
    repeat first|(with_reducible first|refine za ?_|refine zb ?_|refine zc ?_)|refine ym zr ?_|refine yn 0 zr ?_|refine yn 2 zr ?_|refine yq zr ?_|(with_reducible first|refine zd ?_|refine ze ?_|refine zf ?_)|refine W.condT zr ?_|refine W.condF zr ?_
    refine W.dropE (_::X) (.cons_cons _ (.cons _ (.cons _ (List.Sublist.refl _)))) ?_
    repeat' first|refine W.doneN zr ?_
    exact ⟨rfl,ja,by rw [←hXe]⟩
end Go.Proofs.YtoegffiapnnkiaaGreat.Abs
