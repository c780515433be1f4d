/- Parts of one proof. No condition but those that each theorem names. -/
import Derived.Test.YtoegffiapnnkiaaGreatPT05
import Derived.Test.YtoegffiapnnkiaaGreatPT25
import Derived.Test.YtoegffiapnnkiaaGreatPT27
namespace Go.Proofs.YtoegffiapnnkiaaGreat.Abs
open Go
set_option linter.unusedVariables false
set_option linter.unusedSimpArgs false
set_option maxRecDepth 100000
set_option maxHeartbeats 4000000
section
variable {P:Program} {g:Cg} {n:Nat} {V:K→Option (List AV)} {rs:List ResultVar} {st:List Fr} {Γ:Gm} {Δ:Dm} {Q:RO→Dm→Prop} {b:Bool} {all rest:List Oper} {ty:TypeId} {pos:String} {after:Array Edge} {gd:Option (Nat×Bool)}
theorem W.callHe {dst:Option Nat} {fx:Operand} {xs:Array Operand} {tys:Array TypeId} {f:Nat} {first caps vs:List AV} {R:Dm} {Q1:RO→Dm→Prop} (hf:eg Γ fx=some (.func f first caps)) (ha:egs Γ xs.toList=some vs)
    (hd:dstOk n dst=true) (hw:wantG all Γ ⟨dst,.call ⟨.value fx,xs,tys⟩,ty,pos,after,gd⟩=some true)
    (hc:Cl P g (withV V R) f (first++vs++caps) Δ Q1)
    (hp:∀v Δ',Q1 (.pan v) Δ'→panOk P b all ⟨dst,.call ⟨.value fx,xs,tys⟩,ty,pos,after,gd⟩ rest=true∧Q (.pan v) (Δ'++R))
    (h:∀v Δ',Q1 (.ret v) Δ'→W P g n V rs (.o b all rest::st) .nrm (dstG dst v Γ) (Δ'++R) Q):W P g n V rs (.o b all (⟨dst,.call ⟨.value fx,xs,tys⟩,ty,pos,after,gd⟩::rest)::st) .nrm Γ (Δ++R) Q :=
  W.opX hw hd fun F s tm hM hG=>by
    obtain ⟨o,Δ1,s',h1,h2,k0,h3⟩:=hc _ s hM.lend
    have hj:=h2.unlend hM.nodupR (fun x hx=>hM.ownB x (by simp [hx])) (fun i hi=>hM.apart i (by simp only [names,List.map_append,List.mem_append];exact .inr hi)) (fun i hi=>hM.vapart i (by simp only [names,List.map_append,List.mem_append];exact .inr hi))
    have hop:∀k,k0≤k→opA (.call ⟨.value fx,xs,tys⟩) P (callA P g (exec P g k)) tm s=o.cr s':=fun k hk=>by
      show opCall P _ _ tm s=_
      unfold opCall
      simp only [hG.egs ha,hG.eg hf]
      exact h3 k hk
    cases o with
    | ret v=>exact .inl ⟨v,s',Δ1++R,⟨k0,hop⟩,hj,h v Δ1 h1⟩
    | pan v=>exact .inr ⟨v,s',Δ1++R,⟨k0,hop⟩,hj,hp v Δ1 h1⟩
end
attribute [local irreducible] W Cl Bd
variable {g:Cg} {V:K→Option (List AV)}
def bodB (k kt:K) (w:Snap) (jr ja:K) (b:Bod):K×Bk:=(k,.cells [.ptr (some (kt,0)),.int .i64 w.bid,.int .i64 w.ask,.int .i64 w.last,.int .i64 w.volume,.int .i64 w.now,.int .i64 w.open_,.int .i64 b.s,(gS jr b.regs).v,(gS ja b.acts).v,.int .u8 b.st,.int .i64 b.steps,.int .i64 b.err] 159 13 true)
structure BodG (g:Cg):Prop where
  O:OprG g
  K1:StkG g
  run:Plain g 74=true
  part:Plain g 160=true
  row:Plain g 124=true
  do_:Plain g 81=true
  copied:Plain g 60=true
theorem part_c (B:BodG g) {t:Table} (ht:t.Ok V) (hck:checkS t=none) {kt:K} {rest:List AV} (hkt:V kt=some (.str t.name::t.regs.v::.int .i64 t.slots::t.consts.v::t.code.v::t.states.v::rest)) {w:Snap} (hw:w.Ok) (k jr ja:K) (b:Bod)
    (hr:(gS jr b.regs).In V false 1 (AV.int .i64)) (hrn:∀n∈b.regs,In64 n) (hrl:b.regs.length=t.regs.l.length) (hst:0≤b.steps∧b.steps≤1000000000) (x:Span) (hx:x.t=0∨SpanRuns t x) :
    Cl Tryz.prog g V 160 [.ptr (some (k,0)),x.v] [bodB k kt w jr ja b] fun o Δ=>o=.ret (.int .i64 (partF t w b x).1)∧Δ=[bodB k kt w jr ja (partF t w b x).2]:=by
  refine Cl.enter B.part Tryz.func160 rfl ?_
  unfold partF
  obtain ⟨s,regs,acts,st,steps,err⟩:=b
  obtain ⟨f,z⟩:=x
  simp only at hr hrn hrl hst hx ⊢
  unfold bodB
  simp only
  by_cases he:err=0
  rotate_left
  · rw [if_neg he]
    repeat first|(refine W.gs rfl rfl rfl rfl ?_ (fun h=>absurd he h);intro _)|(with_reducible first|refine za ?_|refine zb ?_|refine zc ?_)|refine ym zr ?_|refine yn 1 zr ?_|(refine yo zr ?_;intro _)|(with_reducible first|refine zj ?_|refine zk ?_)|refine zx zr zr zr ?_|refine W.condT zr ?_
    refine W.dropE [_] (.cons _ (List.Sublist.refl _)) ?_
    repeat' first|refine W.done zr ?_
    exact ⟨rfl,rfl⟩
  subst he
  rw [if_pos rfl]
  by_cases hz:z=0
  · subst hz
    rw [if_pos rfl]
    repeat first|(refine W.gs rfl rfl rfl rfl (fun h=>absurd rfl h) ?_;intro _)|(with_reducible first|refine za ?_|refine zb ?_|refine zc ?_)|refine ym zr ?_|refine yn 0 zr ?_|refine yn 1 zr ?_|(refine yo zr ?_;intro _)|(with_reducible first|refine zj ?_|refine zk ?_)|refine W.condT zr ?_
    refine W.dropE [_] (.cons _ (List.Sublist.refl _)) ?_
    repeat' first|refine W.done zr ?_
    exact ⟨rfl,rfl⟩
  rw [if_neg hz]
  have hx:=hx.resolve_left hz
  obtain ⟨H,q,hs,hq,hq1,hq2⟩:=runs_to hck hx regs w
  have hcode:=(check_code hck).1
  have hrun:=run_c (m:=5000) B.O B.K1 B.run ht hkt hr (by rw [gS_l];exact hrn) (by rw [gS_l];exact hrl) hw hx.1 hx.2.1 hx.2.2.1 hcode hs (by have:=hx.1;have:=hx.2.2.1;omega) (by rw [gS_l];exact hq)
  rw [hq]
  have ew:IntKind.i64.wrap (steps+q.2.1)=steps+q.2.1:=w64 (by have:=hx.2.2.1;have:=hx.1;simp only at *;omega) (by have:=hx.2.2.1;have:=hx.1;simp only at *;omega)
  repeat first|(refine W.gs rfl rfl rfl rfl (fun h=>absurd rfl h) ?_;intro _)|(with_reducible first|refine za ?_|refine zb ?_|refine zc ?_)|refine ym zr ?_|refine yn 0 zr ?_|refine yn 1 zr ?_|(refine yo zr ?_;intro _)
  refine W.condP rfl (fun h=>absurd h hz) (fun _=>?_)
  repeat first|refine W.callP rfl rfl rfl rfl hrun ?_|(with_reducible first|refine za ?_|refine zb ?_|refine zc ?_)|refine ym zr ?_|refine yn 0 zr ?_|refine yn 1 zr ?_|refine yq zr ?_|refine ys zr ?_|(with_reducible first|refine zd ?_|refine zj ?_)|refine zw (by decide +kernel) ?_
  simp only [ew]
  refine W.dropE [_] (.cons_cons _ (List.nil_sublist _)) ?_
  repeat' first|refine W.done zr ?_
  exact ⟨rfl,rfl⟩
end Go.Proofs.YtoegffiapnnkiaaGreat.Abs
namespace Go.Proofs.YtoegffiapnnkiaaGreat.Abs
open Go
set_option linter.unusedVariables false
set_option linter.unusedSimpArgs false
set_option maxRecDepth 100000
set_option maxHeartbeats 4000000
def iC (x:Int):List AV:=[.int .i64 x]
theorem leaf_all {α:Type} (enc:α→List AV) (h:∀a,∀v∈enc a,v.leaf=true) (l:List α):allLeaf (l.flatMap enc)=true:=by
  have key:∀L:List AV,(∀v∈L,v.leaf=true)→allLeaf L=true:=fun L=>by
    induction L with
    | nil=>intro _;rfl
    | cons v L ih =>
      intro h
      show @Bool.rec (fun _=>Bool) false (allLeaf L) v.leaf=true
      rw [h v (by simp)]
      exact ih fun u hu=>h u (by simp [hu])
  refine key _ fun v hv=>?_
  obtain ⟨a,-,ha⟩:=List.mem_flatMap.1 hv
  exact h a v ha
theorem leafI (a:Int):∀v∈iC a,v.leaf=true:=by simp [iC,AV.leaf]
attribute [local irreducible] W Cl Bd
variable {g:Cg} {V:K→Option (List AV)}
theorem srcI {Δ:Dm} {s:Sl Int} (h:s.In V false 1 (AV.int .i64)):∀F st,Mem V F Δ st→srcCells 1 s.l.length s.v st.hp=some (s.l.flatMap iC):=src_in (enc:=iC) (fun _=>rfl) (fun _=>rfl) h
end Go.Proofs.YtoegffiapnnkiaaGreat.Abs
