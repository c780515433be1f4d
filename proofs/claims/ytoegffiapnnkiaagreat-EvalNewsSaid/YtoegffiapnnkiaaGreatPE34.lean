/- Parts of one proof. No condition but those that each theorem names. -/
import Derived.Test.YtoegffiapnnkiaaGreatPE12
namespace Go.Proofs.YtoegffiapnnkiaaGreat.Abs
open Go
set_option linter.unusedVariables false
set_option linter.unusedSimpArgs false
set_option maxRecDepth 100000
set_option maxHeartbeats 4000000
attribute [local irreducible] W Cl Bd
variable {g:Cg} {V:K→Option (List AV)}
theorem ieqb_self (a:Int):ieqb a a=true:=by rw [ieqb_eq];simp
theorem eqSpan_self (a b:Int):eqStr Tryz.prog 53 (.agg [.int .i64 a,.int .i64 b]) (.agg [.int .i64 a,.int .i64 b])=some true:=by rw [eqSpan,ieqb_self,ieqb_self];rfl
theorem eqRow_self (x:Row):eqStr Tryz.prog 148 (.agg [.int .u8 x.k,.int .u8 x.o,.int .i64 x.i,.int .i64 x.side.f,.int .i64 x.side.t,.int .i64 x.qty.f,.int .i64 x.qty.t,.int .i64 x.price.f,.int .i64 x.price.t,.int .i64 x.value.f,.int .i64 x.value.t]) (.agg [.int .u8 x.k,.int .u8 x.o,.int .i64 x.i,.int .i64 x.side.f,.int .i64 x.side.t,.int .i64 x.qty.f,.int .i64 x.qty.t,.int .i64 x.price.f,.int .i64 x.price.t,.int .i64 x.value.f,.int .i64 x.value.t])=some true:=by
  rw [eqRow];simp only [ieqb_self];rfl
def SameG (x y:Guard):Prop:=x.when=y.when∧x.fields=y.fields∧x.regs=y.regs∧x.rows.l=y.rows.l
theorem sameG_c (hp:Plain g 78=true) {x y:Guard} (hx:x.Ok V) (hy:y.Ok V) (h:SameG x y) :
    Cl Tryz.prog g V 78 [x.v,y.v] [] fun o _=>o=.ret (.bool true):=by
  refine Cl.enter hp Tryz.func78 rfl ?_
  obtain ⟨xw,xf,xr,xs⟩:=x
  obtain ⟨yw,yf,yr,ys⟩:=y
  obtain ⟨h1,h2,h3,h4⟩:=h
  simp only at h1 h2 h3 h4
  subst h1;subst h2;subst h3
  have hl:xs.l.length=ys.l.length:=by rw [h4]
  have hlen:=hx.2.2.2.1
  unfold Len at hlen
  simp only at hlen
  have hl':((xs.l.length:Nat):Int)=((ys.l.length:Nat):Int):=by rw [hl]
  repeat first|refine W.neS tblOk rfl rfl rfl rfl rfl (eqSpan_self ..) ?_|(refine W.gs rfl rfl rfl rfl (fun h=>absurd rfl h) ?_;intro _)|(refine W.condP rfl (fun h=>absurd hl' h) ?_;intro _)|(with_reducible first|refine za ?_|refine zb ?_|refine zc ?_)|refine ym zr ?_|refine yn 0 zr ?_|refine yn 1 zr ?_|(refine yo zr ?_;intro _)|(with_reducible first|refine zd ?_|refine ze ?_)
  refine W.loopR (α:={ i:Nat // i≤xs.l.length }) (fun i=>xs.l.length-i.1) (fun i=>[(2,_),(3,_),(5,.int .i64 (i.1:Int))]) (fun _=>_) ⟨0,by omega⟩ ⟨rfl,rfl,rfl⟩ (List.Sublist.refl _) ?_
  rintro ⟨i,hi⟩ ih
  simp only at ih ⊢
  repeat first|(with_reducible first|refine za ?_|refine zb ?_|refine zc ?_)|refine ym zr ?_|refine yn 1 zr ?_
  refine W.condP rfl ?_ ?_<;>intro hlt
  · have hlt:i<xs.l.length:=by have:=hlt;omega
    have hlt2:i<ys.l.length:=by omega
    have hx5:=hx.2.2.2.2.1
    have hy5:=hy.2.2.2.2.1
    dsimp only at hx5 hy5
    obtain ⟨jn,o,cs,ha,hV,hpt⟩:=Sl.In.get hx5 hlt
    obtain ⟨jn2,o2,cs2,ha2,hV2,hpt2⟩:=Sl.In.get hy5 hlt2
    have he:ys.l[i]=xs.l[i]:=by simp only [h4]
    rw [he] at hpt2
    generalize xs.l[i]=r at hpt hpt2
    repeat first|(refine W.ia tblOk rfl rfl rfl rfl rfl rfl ha (by omega) (by show (i:Int)<(xs.l.length:Nat);omega) ?_)|refine W.ldV tblOk rfl rfl rfl hV hpt ?_|(refine W.ia tblOk rfl rfl rfl rfl rfl rfl ha2 (by omega) (by show (i:Int)<(ys.l.length:Nat);omega) ?_)|refine W.ldV tblOk rfl rfl rfl hV2 hpt2 ?_|refine W.neS tblOk rfl rfl rfl rfl rfl (eqRow_self r) ?_|(with_reducible first|refine za ?_|refine zb ?_|refine zc ?_)|refine ym zr ?_|refine yn 0 zr ?_|refine yn 1 zr ?_|(with_reducible first|refine zd ?_|refine ze ?_|refine zf ?_)|refine zw (by decide +kernel) ?_|refine W.condF zr ?_
    rw [wN (by omega)]
    have h9:=ih ⟨i+1,by omega⟩ (by show xs.l.length-(i+1)<xs.l.length-i;omega)
    refine W.weak _ _ ?_ ?_ h9
    · exact ⟨rfl,rfl,rfl⟩
    · exact List.Sublist.refl _
  · skip
    repeat' first|(with_reducible first|refine za ?_|refine zb ?_|refine zc ?_)|refine ym zr ?_|(with_reducible first|refine zg ?_|refine zh ?_|refine zi ?_|refine zj ?_)|refine W.done zr ?_
    rfl
theorem eqN_self:∀l:List Nat,eqN l l=true
  | []=>rfl
  | x::l=>by
    show (@Bool.rec (fun _=>Bool) false (eqN l l) ((x%256).beq (x%256)):Bool)=true
    rw [Nat.beq_refl];exact eqN_self l
theorem eqInstr_self (x:Instr):eqStr Tryz.prog 86 (.agg [.int .u8 x.k,.int .i64 x.a]) (.agg [.int .u8 x.k,.int .i64 x.a])=some true:=by
  rw [eqInstr];simp only [ieqb_self];rfl
structure SameT (x y:Table):Prop where
  name:x.name=y.name
  slots:x.slots=y.slots
  regs:x.regs.l=y.regs.l
  consts:x.consts.l=y.consts.l
  code:x.code.l=y.code.l
  slen:x.states.l.length=y.states.l.length
  states:∀i (h1:i<x.states.l.length) (h2:i<y.states.l.length),x.states.l[i].l.length=y.states.l[i].l.length∧∀k (h3:k<x.states.l[i].l.length) (h4:k<y.states.l[i].l.length),SameG x.states.l[i].l[k] y.states.l[i].l[k]
theorem sameT_c (hp:Plain g 23=true) (hg:Plain g 78=true) {x y:Table} (hx:x.Ok V) (hy:y.Ok V) (h:SameT x y) :
    Cl Tryz.prog g V 23 [x.v,y.v] [] fun o _=>o=.ret (.bool true):=by
  refine Cl.enter hp Tryz.func23 rfl ?_
  obtain ⟨h_name,h_slots,h_regs,h_consts,h_code,h_slen,h_states⟩:=h
  have l1:=hx.regs.1
  have l2:=hx.consts.1
  have l3:=hx.code.1
  have l4:=hx.states.1
  unfold Len at l1 l2 l3 l4
  have e1:((x.regs.l.length:Nat):Int)=((y.regs.l.length:Nat):Int):=by rw [h_regs]
  have e2:((x.consts.l.length:Nat):Int)=((y.consts.l.length:Nat):Int):=by rw [h_consts]
  have e3:((x.code.l.length:Nat):Int)=((y.code.l.length:Nat):Int):=by rw [h_code]
  have e4:((x.states.l.length:Nat):Int)=((y.states.l.length:Nat):Int):=by rw [h_slen]
  have e5:¬(!eqN x.name y.name)=true:=by rw [h_name,eqN_self];simp
  repeat first|(refine W.gsB rfl rfl rfl rfl (fun h=>absurd h e5) ?_;intro _)|(refine W.gs rfl rfl rfl rfl (fun h=>absurd h_slots h) ?_;intro _)|(refine W.gs rfl rfl rfl rfl (fun h=>absurd e1 h) ?_;intro _)|(refine W.gs rfl rfl rfl rfl (fun h=>absurd e2 h) ?_;intro _)|(refine W.gs rfl rfl rfl rfl (fun h=>absurd e3 h) ?_;intro _)|(refine W.condP rfl (fun h=>absurd e4 h) ?_;intro _)|(with_reducible first|refine za ?_|refine zb ?_|refine zc ?_)|refine ym zr ?_|refine yn 0 zr ?_|refine yn 1 zr ?_|(refine yo zr ?_;intro _)|(with_reducible first|refine zd ?_|refine ze ?_)
  refine W.loopR (α:={ i:Nat // i≤x.regs.l.length }) (fun i=>x.regs.l.length-i.1) (fun i=>[(2,_),(3,_),(5,.int .i64 (i.1:Int))]) (fun _=>_) ⟨0,by omega⟩ ⟨rfl,rfl,rfl⟩ (List.Sublist.refl _) ?_
  rintro ⟨i,hi⟩ ih
  simp only at ih ⊢
  repeat first|(with_reducible first|refine za ?_|refine zb ?_|refine zc ?_)|refine ym zr ?_|refine yn 1 zr ?_
  refine W.condP rfl ?_ ?_<;>intro hlt
  · have hlt:i<x.regs.l.length:=by omega
    have hlt2:i<y.regs.l.length:=by omega
    obtain ⟨jn,o,cs,ha,hV,hpt⟩:=Sl.In.get hx.regs.2.1 hlt
    obtain ⟨jn2,o2,cs2,ha2,hV2,hpt2⟩:=Sl.In.get hy.regs.2.1 hlt2
    have he:y.regs.l[i]=x.regs.l[i]:=by simp only [h_regs]
    rw [he] at hpt2
    generalize x.regs.l[i]=r at hpt hpt2
    repeat first|refine W.ia tblOk rfl rfl rfl rfl rfl rfl ha (by omega) (by omega) ?_|refine W.ldV tblOk rfl rfl rfl hV hpt ?_|refine W.ia tblOk rfl rfl rfl rfl rfl rfl ha2 (by omega) (by omega) ?_|refine W.ldV tblOk rfl rfl rfl hV2 hpt2 ?_|(refine W.condP rfl (fun h=>absurd rfl h) ?_;intro _)|(with_reducible first|refine za ?_|refine zb ?_|refine zc ?_)|refine ym zr ?_|refine yn 0 zr ?_|refine yn 1 zr ?_|(with_reducible first|refine zd ?_|refine ze ?_|refine zf ?_)|refine zw (by decide +kernel) ?_
    rw [wN (by omega)]
    have h9:=ih ⟨i+1,by omega⟩ (by show x.regs.l.length-(i+1)<x.regs.l.length-i;omega)
    refine W.weak _ _ ?_ ?_ h9
    · exact ⟨rfl,rfl,rfl⟩
    · exact List.Sublist.refl _
  clear ih
  repeat first|(with_reducible first|refine za ?_|refine zb ?_|refine zc ?_)|refine ym zr ?_|(with_reducible first|refine ze ?_|refine zg ?_|refine zh ?_|refine zi ?_)
  refine W.loopR (α:={ i:Nat // i≤x.consts.l.length }) (fun i=>x.consts.l.length-i.1) (fun i=>[(2,_),(3,_),(6,.int .i64 (i.1:Int))]) (fun _=>_) ⟨0,by omega⟩ ⟨rfl,rfl,rfl⟩ (List.Sublist.refl _) ?_
  rintro ⟨i,hi⟩ ih
  simp only at ih ⊢
  repeat first|(with_reducible first|refine za ?_|refine zb ?_|refine zc ?_)|refine ym zr ?_|refine yn 1 zr ?_
  refine W.condP rfl ?_ ?_<;>intro hlt
  · have hlt:i<x.consts.l.length:=by omega
    have hlt2:i<y.consts.l.length:=by omega
    obtain ⟨jn,o,cs,ha,hV,hpt⟩:=Sl.In.get hx.consts.2.1 hlt
    obtain ⟨jn2,o2,cs2,ha2,hV2,hpt2⟩:=Sl.In.get hy.consts.2.1 hlt2
    have he:y.consts.l[i]=x.consts.l[i]:=by simp only [h_consts]
    rw [he] at hpt2
    generalize x.consts.l[i]=r at hpt hpt2
    repeat first|refine W.ia tblOk rfl rfl rfl rfl rfl rfl ha (by omega) (by omega) ?_|refine W.ldV tblOk rfl rfl rfl hV hpt ?_|refine W.ia tblOk rfl rfl rfl rfl rfl rfl ha2 (by omega) (by omega) ?_|refine W.ldV tblOk rfl rfl rfl hV2 hpt2 ?_|(refine W.condP rfl (fun h=>absurd rfl h) ?_;intro _)|(with_reducible first|refine za ?_|refine zb ?_|refine zc ?_)|refine ym zr ?_|refine yn 0 zr ?_|refine yn 1 zr ?_|(with_reducible first|refine zd ?_|refine ze ?_|refine zf ?_)|refine zw (by decide +kernel) ?_
    rw [wN (by omega)]
    have h9:=ih ⟨i+1,by omega⟩ (by show x.consts.l.length-(i+1)<x.consts.l.length-i;omega)
    refine W.weak _ _ ?_ ?_ h9
    · exact ⟨rfl,rfl,rfl⟩
    · exact List.Sublist.refl _
  clear ih
  repeat first|(with_reducible first|refine za ?_|refine zb ?_|refine zc ?_)|refine ym zr ?_|(with_reducible first|refine ze ?_|refine zg ?_|refine zh ?_|refine zi ?_)
  refine W.loopR (α:={ i:Nat // i≤x.code.l.length }) (fun i=>x.code.l.length-i.1) (fun i=>[(2,_),(3,_),(7,.int .i64 (i.1:Int))]) (fun _=>_) ⟨0,by omega⟩ ⟨rfl,rfl,rfl⟩ (List.Sublist.refl _) ?_
  rintro ⟨i,hi⟩ ih
  simp only at ih ⊢
  repeat first|(with_reducible first|refine za ?_|refine zb ?_|refine zc ?_)|refine ym zr ?_|refine yn 1 zr ?_
  refine W.condP rfl ?_ ?_<;>intro hlt
  · have hlt:i<x.code.l.length:=by omega
    have hlt2:i<y.code.l.length:=by omega
    obtain ⟨jn,o,cs,ha,hV,hpt⟩:=Sl.In.get hx.code.2.1 hlt
    obtain ⟨jn2,o2,cs2,ha2,hV2,hpt2⟩:=Sl.In.get hy.code.2.1 hlt2
    have he:y.code.l[i]=x.code.l[i]:=by simp only [h_code]
    rw [he] at hpt2
    generalize x.code.l[i]=r at hpt hpt2
    repeat first|refine W.ia tblOk rfl rfl rfl rfl rfl rfl ha (by omega) (by omega) ?_|refine W.ldV tblOk rfl rfl rfl hV hpt ?_|refine W.ia tblOk rfl rfl rfl rfl rfl rfl ha2 (by omega) (by omega) ?_|refine W.ldV tblOk rfl rfl rfl hV2 hpt2 ?_|refine W.neS tblOk rfl rfl rfl rfl rfl (eqInstr_self r) ?_|(with_reducible first|refine za ?_|refine zb ?_|refine zc ?_)|refine ym zr ?_|refine yn 0 zr ?_|refine yn 1 zr ?_|(with_reducible first|refine zd ?_|refine ze ?_|refine zf ?_)|refine zw (by decide +kernel) ?_|refine W.condF zr ?_
    rw [wN (by omega)]
    have h9:=ih ⟨i+1,by omega⟩ (by show x.code.l.length-(i+1)<x.code.l.length-i;omega)
    refine W.weak _ _ ?_ ?_ h9
    · exact ⟨rfl,rfl,rfl⟩
    · exact List.Sublist.refl _
  clear ih
  repeat first|(with_reducible first|refine za ?_|refine zb ?_|refine zc ?_)|refine ym zr ?_|(with_reducible first|refine ze ?_|refine zg ?_|refine zh ?_|refine zi ?_)
  refine W.loopR (α:={ i:Nat // i≤x.states.l.length }) (fun i=>x.states.l.length-i.1) (fun i=>[(2,_),(3,_),(8,.int .i64 (i.1:Int))]) (fun _=>_) ⟨0,by omega⟩ ⟨rfl,rfl,rfl⟩ (List.Sublist.refl _) ?_
  rintro ⟨i,hi⟩ ih
  simp only at ih ⊢
  repeat first|(with_reducible first|refine za ?_|refine zb ?_|refine zc ?_)|refine ym zr ?_|refine yn 1 zr ?_
  refine W.condP rfl ?_ ?_<;>intro hlt
  rotate_left
  · clear ih
    repeat' first|(with_reducible first|refine za ?_|refine zb ?_|refine zc ?_)|refine ym zr ?_|(with_reducible first|refine zg ?_|refine zh ?_|refine zi ?_|refine zj ?_)|refine W.done zr ?_
    rfl
  have hlt:i<x.states.l.length:=by omega
  have hlt2:i<y.states.l.length:=by omega
  obtain ⟨jn,o,cs,ha,hV,hpt⟩:=Sl.In.get hx.states.2.1 hlt
  obtain ⟨jn2,o2,cs2,ha2,hV2,hpt2⟩:=Sl.In.get hy.states.2.1 hlt2
  have hsx:=hx.states.2.2 _ (List.getElem_mem hlt)
  have hsy:=hy.states.2.2 _ (List.getElem_mem hlt2)
  obtain ⟨hsl,hsg⟩:=h_states i hlt hlt2
  generalize x.states.l[i]=r at hpt hsx hsl hsg
  generalize y.states.l[i]=r2 at hpt2 hsy hsl hsg
  have hrl:=hsx.1
  unfold Len at hrl
  have e6:((r.l.length:Nat):Int)=((r2.l.length:Nat):Int):=by rw [hsl]
  repeat first|refine W.ia tblOk rfl rfl rfl rfl rfl rfl ha (by omega) (by omega) ?_|refine W.ldV tblOk rfl rfl rfl hV hpt ?_|refine W.ia tblOk rfl rfl rfl rfl rfl rfl ha2 (by omega) (by omega) ?_|refine W.ldV tblOk rfl rfl rfl hV2 hpt2 ?_|(refine W.condP rfl (fun h=>absurd e6 h) ?_;intro _)|(with_reducible first|refine za ?_|refine zb ?_|refine zc ?_)|refine ym zr ?_|refine yn 0 zr ?_|refine yn 1 zr ?_|(with_reducible first|refine zd ?_|refine ze ?_)|refine zw (by decide +kernel) ?_
  refine W.loopR (α:={ k:Nat // k≤r.l.length }) (fun k=>r.l.length-k.1) (fun k=>[(2,_),(3,_),(8,.int .i64 (i:Int)),(9,.int .i64 (k.1:Int))]) (fun _=>_) ⟨0,by omega⟩ ⟨rfl,rfl,rfl,rfl⟩ (List.Sublist.refl _) ?_
  rintro ⟨k,hk⟩ ih2
  simp only at ih2 ⊢
  repeat first|refine W.ia tblOk rfl rfl rfl rfl rfl rfl ha (by omega) (by omega) ?_|refine W.ldV tblOk rfl rfl rfl hV hpt ?_|(with_reducible first|refine za ?_|refine zb ?_|refine zc ?_)|refine ym zr ?_|refine yn 1 zr ?_
  refine W.condP rfl ?_ ?_<;>intro hlt3
  rotate_left
  · clear ih2
    repeat first|(with_reducible first|refine zb ?_|refine zc ?_)|refine ym zr ?_|(with_reducible first|refine zf ?_|refine zg ?_|refine zh ?_|refine zi ?_)
    rw [wN (by omega)]
    have h9:=ih ⟨i+1,by omega⟩ (by show x.states.l.length-(i+1)<x.states.l.length-i;omega)
    refine W.weak _ _ ?_ ?_ h9
    · exact ⟨rfl,rfl,rfl⟩
    · exact List.Sublist.refl _
  have hlt3:k<r.l.length:=by omega
  have hlt4:k<r2.l.length:=by omega
  obtain ⟨jn3,o3,cs3,ha3,hV3,hpt3⟩:=Sl.In.get hsx.2.1 hlt3
  obtain ⟨jn4,o4,cs4,ha4,hV4,hpt4⟩:=Sl.In.get hsy.2.1 hlt4
  have hc:=sameG_c hg (hsx.2.2 _ (List.getElem_mem hlt3)) (hsy.2.2 _ (List.getElem_mem hlt4)) (hsg k hlt3 hlt4)
  generalize r.l[k]=u at hpt3 hc
  generalize r2.l[k]=u2 at hpt4 hc
  clear ih
  repeat first|refine W.ia tblOk rfl rfl rfl rfl rfl rfl ha (by omega) (by omega) ?_|refine W.ldV tblOk rfl rfl rfl hV hpt ?_|refine W.ia tblOk rfl rfl rfl rfl rfl rfl ha2 (by omega) (by omega) ?_|refine W.ldV tblOk rfl rfl rfl hV2 hpt2 ?_|refine W.ia tblOk rfl rfl rfl rfl rfl rfl ha3 (by omega) (by omega) ?_|refine W.ldV tblOk rfl rfl rfl hV3 hpt3 ?_|refine W.ia tblOk rfl rfl rfl rfl rfl rfl ha4 (by omega) (by omega) ?_|refine W.ldV tblOk rfl rfl rfl hV4 hpt4 ?_|refine W.callP rfl rfl rfl rfl hc ?_|(with_reducible first|refine za ?_|refine zb ?_|refine zc ?_)|refine ym zr ?_|refine yn 0 zr ?_|refine yn 1 zr ?_|(with_reducible first|refine zd ?_|refine ze ?_|refine zf ?_)|refine zw (by decide +kernel) ?_|refine W.condF zr ?_
  rw [wN (by omega)]
  have h9:=ih2 ⟨k+1,by omega⟩ (by show r.l.length-(k+1)<r.l.length-k;omega)
  refine W.weak _ _ ?_ ?_ h9
  · exact ⟨rfl,rfl,rfl,rfl⟩
  · exact List.Sublist.refl _
end Go.Proofs.YtoegffiapnnkiaaGreat.Abs
