/- Parts of one proof. No condition but those that each theorem names. -/
import Derived.Test.YtoegffiapnnkiaaGreatPE04
import Derived.ChangeArms
import Derived.DataReads
import Derived.Carry
import Derived.WideShapes
namespace Go.Proofs.YtoegffiapnnkiaaGreat.Abs
open Go
set_option linter.unusedVariables false
set_option linter.unusedSimpArgs false
structure Sl (α:Type) where
  a:Option (K×Nat)
  c:Cp
  l:List α
def Sl.v {α:Type} (s:Sl α):AV:=.slice s.a s.l.length s.c
structure Instr where
  k:Int
  a:Int
structure Span where
  f:Int
  t:Int
structure Row where
  k:Int
  o:Int
  i:Int
  side:Span
  qty:Span
  price:Span
  value:Span
structure Guard where
  when:Span
  fields:Int
  regs:Int
  rows:Sl Row
structure Table where
  name:List Nat
  regs:Sl Int
  slots:Int
  consts:Sl Int
  code:Sl Instr
  states:Sl (Sl Guard)
def Instr.v (x:Instr):AV:=.agg [.int .u8 x.k,.int .i64 x.a]
def Row.v (x:Row):AV:=.agg [.int .u8 x.k,.int .u8 x.o,.int .i64 x.i,.int .i64 x.side.f,.int .i64 x.side.t,.int .i64 x.qty.f,.int .i64 x.qty.t,.int .i64 x.price.f,.int .i64 x.price.t,.int .i64 x.value.f,.int .i64 x.value.t]
def Guard.v (x:Guard):AV:=.agg [.int .i64 x.when.f,.int .i64 x.when.t,.int .u16 x.fields,.int .u16 x.regs,x.rows.v]
def Table.v (x:Table):AV:=.agg [.str x.name,x.regs.v,.int .i64 x.slots,x.consts.v,x.code.v,x.states.v]
def Sl.In {α:Type} (V:K→Option (List AV)) (ag:Bool) (sz:Nat) (enc:α→AV) (s:Sl α):Prop:=∀i x,s.l[i]?=some x→∃j o cs,s.a=some (j,o)∧V j=some cs∧partB cs (o+i * sz) (ag,sz)=some (enc x)
def In64 (n:Int):Prop:=-9223372036854775808≤n∧n≤9223372036854775807
def In8 (n:Int):Prop:=0≤n∧n≤255
def In16 (n:Int):Prop:=0≤n∧n≤65535
def Span.Ok (x:Span):Prop:=In64 x.f∧In64 x.t
def Row.Ok (x:Row):Prop:=In8 x.k∧In8 x.o∧In64 x.i∧x.side.Ok∧x.qty.Ok∧x.price.Ok∧x.value.Ok
def Len (n:Nat):Prop:=n≤281474976710656
def Guard.Ok (V:K→Option (List AV)) (x:Guard):Prop:=x.when.Ok∧In16 x.fields∧In16 x.regs∧Len x.rows.l.length∧x.rows.In V true 11 Row.v∧∀r∈x.rows.l,r.Ok
structure Table.Ok (V:K→Option (List AV)) (t:Table):Prop where
  regs:Len t.regs.l.length∧t.regs.In V false 1 (AV.int .i64)∧∀n∈t.regs.l,In64 n
  slots:In64 t.slots
  consts:Len t.consts.l.length∧t.consts.In V false 1 (AV.int .i64)∧∀n∈t.consts.l,In64 n
  code:Len t.code.l.length∧t.code.In V true 2 Instr.v∧∀x∈t.code.l,In8 x.k∧In64 x.a
  states:Len t.states.l.length∧t.states.In V false 1 Sl.v∧∀l∈t.states.l,Len l.l.length∧l.In V true 5 Guard.v∧∀g∈l.l,g.Ok V
theorem w64 {n:Int} (h0:-9223372036854775808≤n) (h1:n≤9223372036854775807):IntKind.i64.wrap n=n:=wrap_in .i64 n (by simp only [isSig,lim,if_true];omega) (by simp only [lim];omega)
end Go.Proofs.YtoegffiapnnkiaaGreat.Abs
namespace Go.Proofs.YtoegffiapnnkiaaGreat.Abs
open Go
set_option linter.unusedVariables false
set_option linter.unusedSimpArgs false
variable {P:Program} {g:Cg} {n:Nat} {V:K→Option (List AV)} {rs:List ResultVar} {st:List Fr} {e:Ex} {Γ Γ':Gm} {Δ Δ' R:Dm} {Q Q':RO→Dm→Prop} {tb:T TI} {b:Bool} {all rest:List Oper}
variable {ty:TypeId} {pos:String} {after:Array Edge} {gd:Option (Nat×Bool)} {d:Nat} {x y:Operand}
theorem W.keep {P:Program} {g:Cg} {n:Nat} {V:K→Option (List AV)} {rs:List ResultVar} {st:List Fr} {e:Ex} {Γ:Gm} {Δ R:Dm} {Q:RO→Dm→Prop} (x:K×Bk) (hx:x∈Δ) (h:W P g n V rs st e Γ (x::R) Q):W P g n V rs st e Γ (Δ++R) Q :=
  fun F s tm hM hT=>h F s tm (hM.drop ((List.singleton_sublist.2 hx).append (List.Sublist.refl R))) hT
theorem Mem.keep2 {F:K→Option Bk} {s:St} {x y:K×Bk} (h:Mem V F (Δ++R) s) (hx:x∈Δ) (hy:y∈Δ) (hne:x.2≠y.2):Mem V F (x::y::R) s:=by
  have hn:x.1≠y.1:=fun e=>by
    have h1:=h.own x (by simp [hx])
    have h2:=h.own y (by simp [hy])
    rw [e,h2] at h1
    exact hne (by injection h1 with h1;exact h1.symm)
  have hnd:=h.nodup
  simp only [names,List.map_append] at hnd
  have hd:=List.nodup_append.1 hnd
  have hx':x.1∈Δ.map (·.1):=List.mem_map.2 ⟨x,hx,rfl⟩
  have hy':y.1∈Δ.map (·.1):=List.mem_map.2 ⟨y,hy,rfl⟩
  have hmem:∀i∈names (x::y::R),i∈names (Δ++R):=fun i hi=>by
    simp only [names,List.map_cons,List.mem_cons] at hi
    simp only [names,List.map_append,List.mem_append]
    rcases hi with rfl|rfl|hi
    · exact .inl hx'
    · exact .inl hy'
    · exact .inr hi
  have hin:∀z∈x::y::R,z∈Δ++R:=fun z hz=>by
    rcases List.mem_cons.1 hz with rfl|hz
    · simp [hx]
    · rcases List.mem_cons.1 hz with rfl|hz
      · simp [hy]
      · simp [hz]
  refine ⟨h.view,fun i hi=>h.vapart i (hmem i hi),h.frame,fun z hz=>h.own z (hin z hz),fun z hz=>h.ownB z (hin z hz),fun i hi=>h.apart i (hmem i hi),?_,h.dom⟩
  simp only [names,List.map_cons,List.nodup_cons,List.mem_cons,not_or]
  exact ⟨⟨hn,fun hr=>hd.2.2 _ hx' _ hr rfl⟩,fun hr=>hd.2.2 _ hy' _ hr rfl,hd.2.1⟩
theorem W.keep2 (x y:K×Bk) (hx:x∈Δ) (hy:y∈Δ) (hne:x.2≠y.2) (h:W P g n V rs st e Γ (x::y::R) Q):W P g n V rs st e Γ (Δ++R) Q :=
  fun F s tm hM hT=>h F s tm (hM.keep2 hx hy hne) hT
theorem src_own {sz m o p:Nat} {j:K} {c:Cp} {len:Nat} {bk:Bk} {cs news:List AV} (hΔ:getL Δ p=some (j,bk)) (hr:rdl bk=some cs) (hs:subL cs o (m * sz)=some news):∀F s,Mem V F Δ s→srcCells sz m (.slice (some (j,o)) len c) s.hp=some news:=fun F s hM=>by
  have h1:=hM.own _ (getL_mem hΔ)
  have key:(match cellsAt s.hp j with|some l=>subL l o (m * sz)|none=>none)=some news:=by
    simp only [cellsAt,h1,optK]
    rw [hr];exact hs
  show (if m=0 then some [] else match cellsAt s.hp j with|some l=>subL l o (m * sz)|none=>none)=some news
  split
  · rename_i h0;subst h0;rw [Nat.zero_mul] at hs;rw [(subL_eq hs).1];simp
  · exact key
theorem src_view {sz m o:Nat} {j:K} {c:Cp} {len:Nat} {cs news:List AV} (hV:V j=some cs) (hs:subL cs o (m * sz)=some news):∀F s,Mem V F Δ s→srcCells sz m (.slice (some (j,o)) len c) s.hp=some news:=fun F s hM=>by
  obtain ⟨bk,h1,h2⟩:=hM.view _ _ hV
  have key:(match cellsAt s.hp j with|some l=>subL l o (m * sz)|none=>none)=some news:=by
    simp only [cellsAt,h1,optK]
    rw [h2];exact hs
  show (if m=0 then some [] else match cellsAt s.hp j with|some l=>subL l o (m * sz)|none=>none)=some news
  split
  · rename_i h0;subst h0;rw [Nat.zero_mul] at hs;rw [(subL_eq hs).1];simp
  · exact key
theorem opQ_app {t u:TypeId} {a c:AV} {r:AV×St} {call:Nat→List AV→St→CR} {tm:Tm} {s:St} (ha:evs tm [x,y]=some [a,c]) (h1:keepPos pos=false→opAppend P [t,u] a c s=some r) (h2:keepPos pos=true→opAppendK P [t,u] a c s=some r) :
    opQ ⟨some d,.call ⟨.builtin .append,#[x,y],#[t,u]⟩,ty,pos,after,gd⟩ P call tm s=.ret r.1 r.2:=by
  show @Bool.rec (fun _=>CR) (opA (.call ⟨.builtin .append,#[x,y],#[t,u]⟩) P call tm s) (opAK P (.call ⟨.builtin .append,#[x,y],#[t,u]⟩) tm s) (keepPos pos)=_
  cases hk:keepPos pos with
  | false =>
    show opCall P call _ tm s=_
    unfold opCall
    show (match Callee.builtin .append,evs tm [x,y] with|.value f,some vs=>_|.builtin b,some vs=>opBuiltin P b [t,u] vs s|_,_=>CR.no)=_
    rw [ha]
    show ofP (opAppend P [t,u] a c s)=_
    rw [h1 hk];rfl
  | true =>
    show (match evs tm [x,y] with|some [x,y]=>ofP (opAppendK P [t,u] x y s)|_=>CR.no)=_
    rw [ha]
    show ofP (opAppendK P [t,u] a c s)=_
    rw [h2 hk];rfl
section
variable {t u el eu sz by_ m len:Nat} {z w:AV} {zl news:List AV} {td:TD} {z1 z1' z5:Bool} {z2 z3 z2' z6:Nat} {z4 z4':Option AV}
theorem W.appN (hT:TabOk P tb) (hx:eg Γ x=some (.slice none 0 (.ex 0))) (hy:eg Γ y=some w) (hm:lenA w=some m) (ht:ti tb t=some ⟨.sl el,z1,z2,z3,z4⟩) (hu:ti tb u=some ⟨.sl eu,z1',z2',z6,z4'⟩) (he:ti tb el=some ⟨td,z5,sz,by_,some z⟩) (hz:partsO z=some zl)
    (hc:zl.length=sz∧0<sz∧0<by_) (hm0:0<m) (hb:m * by_≤140737488355328) (hsrc:∀F s,Mem V F Δ s→srcCells sz m w s.hp=some news) (hlf:allLeaf news=true)
    (hn:Nat.ble (d+1) n=true) (hw:wantG all Γ ⟨some d,.call ⟨.builtin .append,#[x,y],#[t,u]⟩,ty,pos,after,gd⟩=some true)
    (h:∀i,W P g n V rs (.o b all rest::st) .nrm ((d,.slice (some (i,0)) m (.own 0))::Γ) ((i,.cells news el sz false)::Δ) Q):W P g n V rs (.o b all (⟨some d,.call ⟨.builtin .append,#[x,y],#[t,u]⟩,ty,pos,after,gd⟩::rest)::st) .nrm Γ Δ Q :=
  W.op hw hn fun F s tm hM hG=>⟨.slice (some (s.nx,0)) m (.own 0),newB s (.cells news el sz false),(s.nx,.cells news el sz false)::Δ,⟨0,fun k _=>by
    obtain ⟨inf,i1,i2,i3⟩:=(hT.get he).info
    have hgt:m≤9223372036854775807:=Nat.le_trans (Nat.le_mul_of_pos_right m hc.2.2) (by omega)
    have key:opAppend P [t,u] (.slice none 0 (.ex 0)) w s=some (.slice (some (s.nx,0)) m (.own 0),newB s (.cells news el sz false)):=by
      have hz':=partsO_eq hz
      have hif:(z.parts.length=inf.size∧0<inf.size∧0<inf.bytes∧0+m≤9223372036854775807∧(0+m) * inf.bytes≤140737488355328):=by
        rw [hz',i2,i3,Nat.zero_add];exact ⟨hc.1,hc.2.1,hc.2.2,hgt,hb⟩
      simp only [opAppend,hT.sl ht,hT.sl hu,notInt,hm,i1,(hT.get he).zero z rfl,if_pos hif]
      rw [i2,hsrc F s hM]
      simp only [hlf,if_neg (Nat.pos_iff_ne_zero.1 hm0),if_true]
    have ha:evs tm [x,y]=some [.slice none 0 (.ex 0),w]:=by
      show cons2 (ev tm x) (cons2 (ev tm y) (some []))=_
      rw [hG.eg hx,hG.eg hy];rfl
    exact opQ_app ha (fun _=>key) (fun _=>key)⟩,hM.alloc trivial,h s.nx⟩
theorem W.appO (hT:TabOk P tb) {i:K} {l old:List AV} (hx:eg Γ x=some (.slice (some (i,0)) len (.own 0))) (hy:eg Γ y=some w) (hm:lenA w=some m) (ht:ti tb t=some ⟨.sl el,z1,z2,z3,z4⟩) (hu:ti tb u=some ⟨.sl eu,z1',z2',z6,z4'⟩) (he:ti tb el=some ⟨td,z5,sz,by_,some z⟩) (hz:partsO z=some zl)
    (hc:zl.length=sz∧0<sz∧0<by_) (hm0:0<m) (hb:(len+m) * by_≤140737488355328) (hold:takeL (len * sz) l=some old) (hsrc:∀F s,Mem V F ((i,.cells l el sz false)::Δ) s→srcCells sz m w s.hp=some news) (hlf:allLeaf news=true)
    (hn:Nat.ble (d+1) n=true) (hw:wantG all Γ ⟨some d,.call ⟨.builtin .append,#[x,y],#[t,u]⟩,ty,pos,after,gd⟩=some true)
    (h:∀i',W P g n V rs (.o b all rest::st) .nrm ((d,.slice (some (i',0)) (len+m) (.own 0))::Γ) ((i',.cells (old++news) el sz false)::Δ) Q) (hkp:keepPos pos=false:=by rfl):W P g n V rs (.o b all (⟨some d,.call ⟨.builtin .append,#[x,y],#[t,u]⟩,ty,pos,after,gd⟩::rest)::st) .nrm Γ ((i,.cells l el sz false)::Δ) Q :=
  W.op hw hn fun F s tm hM hG=>⟨.slice (some (s.nx,0)) (len+m) (.own 0),newB ⟨T.del s.hp i,s.nx⟩ (.cells (old++news) el sz false),(s.nx,.cells (old++news) el sz false)::Δ,⟨0,fun k _=>by
    obtain ⟨inf,i1,i2,i3⟩:=(hT.get he).info
    have hgt:len+m≤9223372036854775807:=Nat.le_trans (Nat.le_mul_of_pos_right (len+m) hc.2.2) (by omega)
    have hi:=hM.own (i,.cells l el sz false) (by simp)
    have key:opAppend P [t,u] (.slice (some (i,0)) len (.own 0)) w s=some (.slice (some (s.nx,0)) (len+m) (.own 0),newB ⟨T.del s.hp i,s.nx⟩ (.cells (old++news) el sz false)):=by
      have hz':=partsO_eq hz
      have hif:(z.parts.length=inf.size∧0<inf.size∧0<inf.bytes∧len+m≤9223372036854775807∧(len+m) * inf.bytes≤140737488355328):=by
        rw [hz',i2,i3];exact ⟨hc.1,hc.2.1,hc.2.2,hgt,hb⟩
      simp only [opAppend,hT.sl ht,hT.sl hu,notInt,hm,i1,(hT.get he).zero z rfl,if_pos hif]
      rw [i2,hsrc F s hM]
      simp only [hlf,if_neg (Nat.pos_iff_ne_zero.1 hm0),hi,and_self,if_true,hold]
      rfl
    have ha:evs tm [x,y]=some [.slice (some (i,0)) len (.own 0),w]:=by
      show cons2 (ev tm x) (cons2 (ev tm y) (some []))=_
      rw [hG.eg hx,hG.eg hy];rfl
    exact opQ_app ha (fun _=>key) (fun hk=>by rw [hkp] at hk;cases hk)⟩,hM.del.alloc trivial,h s.nx⟩
end
end Go.Proofs.YtoegffiapnnkiaaGreat.Abs
namespace Go.Proofs.YtoegffiapnnkiaaGreat.Abs
open Go
set_option linter.unusedVariables false
set_option linter.unusedSimpArgs false
variable {P:Program} {g:Cg} {n:Nat} {V:K→Option (List AV)} {rs:List ResultVar} {st:List Fr} {e:Ex} {Γ Γ':Gm} {Δ Δ' R:Dm} {Q Q':RO→Dm→Prop} {tb:T TI} {b:Bool} {all rest:List Oper}
variable {ty:TypeId} {pos:String} {after:Array Edge} {gd:Option (Nat×Bool)} {d:Nat} {x y:Operand}
inductive ResOk (tb:T TI) (Γ:Gm) (Δ:Dm):List ResultVar→List AV→Prop
  | nil:ResOk tb Γ Δ [] []
  | tmp {t:Nat} {v:AV} {rs:List ResultVar} {vs:List AV} (h:lk Γ t=some v) (k:ResOk tb Γ Δ rs vs):ResOk tb Γ Δ (.tmp t::rs) (v::vs)
  | cell {a t:Nat} {i:K} {q:Nat} {bk:Bk} {cs:List AV} {v:AV} {rs:List ResultVar} {vs:List AV} (p:Nat) (h:lk Γ a=some (.ptr (some (i,q)))) (hΔ:getL Δ p=some (i,bk)) (hr:rdl bk=some cs) (hp:partG tb t cs q=some v) (k:ResOk tb Γ Δ rs vs):ResOk tb Γ Δ (.cell a t::rs) (v::vs)
theorem ResOk.run (hT:TabOk P tb) {F:K→Option Bk} {s:St} {tm:Tm} (hM:Mem V F Δ s) (hG:TmG Γ tm) {rs:List ResultVar} {vs:List AV} (h:ResOk tb Γ Δ rs vs):resA P tm s rs=some vs:=by
  induction h with
  | nil=>rfl
  | @tmp t v rs vs h k ih =>
    show (match T.get tm (K.of t),resA P tm s rs with|some v,some vs=>some (v::vs)|_,_=>none)=_
    rw [hG _ _ h,ih]
  | @cell a t i q bk cs v rs vs p h hΔ hr hp k ih =>
    have h1:opLoad P t (some (.ptr (some (i,q)))) s=some v:=by
      show optK (fun l=>partA P t l q) (cellsAt s.hp i)=_
      have:cellsAt s.hp i=some cs:=by unfold cellsAt;rw [hM.own _ (getL_mem hΔ)];exact hr
      rw [this]
      exact partG_ok hT hp
    show (match opLoad P t (T.get tm (K.of a)) s,resA P tm s rs with|some v,some vs=>some (v::vs)|_,_=>none)=_
    rw [hG _ _ h,h1,ih]
theorem W.doneC (hT:TabOk P tb) {vs:List AV} (hr:ResOk tb Γ Δ rs vs) (hq:Q (.ret (oneOr vs)) Δ):W P g n V rs [] .ret Γ Δ Q:=fun F s tm hM hG =>
  ⟨.ret (oneOr vs),Δ,s,hq,hM,_,rfl,by show (match resA P tm s rs with|some vs=>CR.ret (oneOr vs) s|none=>.no)=_;rw [hr.run hT hM hG];rfl⟩
theorem W.know (h:(∀i∈names Δ,V i=none)→(names Δ).Nodup→W P g n V rs st e Γ Δ Q):W P g n V rs st e Γ Δ Q:=fun F s tm hM hT=>h hM.vapart hM.nodup F s tm hM hT
section
variable {t u el eu sz by_ len:Nat} {z w sv:AV} {zl:List AV} {td:TD} {z1 z1' z5:Bool} {z2 z3 z2' z6:Nat} {z4 z4':Option AV}
theorem src_none {α:Type} {w:Sl α} (hw:w.l=[]) (h:T Bk):srcCells sz 0 w.v h=some []:=by
  obtain ⟨a,c,l⟩:=w
  cases a<;>rfl
theorem W.app0 (hT:TabOk P tb) {a:Option (K×Nat)} {c:Cp} (hx:eg Γ x=some (.slice a len c)) (hy:eg Γ y=some w) (hm:lenA w=some 0) (ht:ti tb t=some ⟨.sl el,z1,z2,z3,z4⟩) (hu:ti tb u=some ⟨.sl eu,z1',z2',z6,z4'⟩) (he:ti tb el=some ⟨td,z5,sz,by_,some z⟩) (hz:partsO z=some zl)
    (hc:zl.length=sz∧0<sz∧0<by_) (hb:len * by_≤140737488355328) (ha:a=none→len=0) (hsrc:∀h,srcCells sz 0 w h=some [])
    (hn:Nat.ble (d+1) n=true) (hw:wantG all Γ ⟨some d,.call ⟨.builtin .append,#[x,y],#[t,u]⟩,ty,pos,after,gd⟩=some true)
    (h:W P g n V rs (.o b all rest::st) .nrm ((d,.slice a len c)::Γ) Δ Q):W P g n V rs (.o b all (⟨some d,.call ⟨.builtin .append,#[x,y],#[t,u]⟩,ty,pos,after,gd⟩::rest)::st) .nrm Γ Δ Q :=
  W.op hw hn fun F s tm hM hG=>⟨.slice a len c,s,Δ,⟨0,fun k _=>by
    obtain ⟨inf,i1,i2,i3⟩:=(hT.get he).info
    have hgt:len≤9223372036854775807:=Nat.le_trans (Nat.le_mul_of_pos_right len hc.2.2) (by omega)
    have key:opAppend P [t,u] (.slice a len c) w s=some (.slice a len c,s):=by
      have hz':=partsO_eq hz
      have hif:(z.parts.length=inf.size∧0<inf.size∧0<inf.bytes∧len+0≤9223372036854775807∧(len+0) * inf.bytes≤140737488355328):=by
        rw [hz',i2,i3];exact ⟨hc.1,hc.2.1,hc.2.2,hgt,hb⟩
      simp only [opAppend,hT.sl ht,hT.sl hu,notInt,hm,i1,(hT.get he).zero z rfl,if_pos hif]
      rw [i2,hsrc s.hp]
      have hl:allLeaf []=true:=rfl
      simp only [hl,if_true]
      cases a with
      | none=>rw [if_pos (ha rfl)]
      | some p=>rfl
    have hq:evs tm [x,y]=some [.slice a len c,w]:=by
      show cons2 (ev tm x) (cons2 (ev tm y) (some []))=_
      rw [hG.eg hx,hG.eg hy];rfl
    refine opQ_app hq (fun _=>key) (fun _=>?_)
    unfold opAppendK
    split
    · rename_i t' u' i' len' e1 e2
      injection e1 with e3 e1;injection e1 with e4 e1;subst e3;subst e4
      injection e2 with e5 e6 e7;subst e5;subst e6;subst e7
      have hz':=partsO_eq hz
      have hif:(z.parts.length=inf.size∧0<inf.size∧0<inf.bytes∧len+0≤9223372036854775807∧(len+0) * inf.bytes≤140737488355328):=by
        rw [hz',i2,i3];exact ⟨hc.1,hc.2.1,hc.2.2,hgt,hb⟩
      simp only [hT.sl ht,hT.sl hu,notInt,hm,i1,(hT.get he).zero z rfl,if_pos hif]
      rw [i2,hsrc s.hp]
      have hl:allLeaf []=true:=rfl
      simp only [hl,if_true]
    · exact key⟩,hM,h⟩
end
end Go.Proofs.YtoegffiapnnkiaaGreat.Abs
namespace Go.Proofs.YtoegffiapnnkiaaGreat.Abs
open Go
set_option linter.unusedVariables false
set_option linter.unusedSimpArgs false
def VLe (V V':K→Option (List AV)):Prop:=∀i cs,V i=some cs→V' i=some cs
theorem VLe.refl (V:K→Option (List AV)):VLe V V:=fun _ _ h=>h
theorem VLe.trans {V V' V'':K→Option (List AV)} (h:VLe V V') (k:VLe V' V''):VLe V V'':=fun i cs e=>k i cs (h i cs e)
structure Vw (w:World) where
  hp:T Bk
  nx:K
  μ:K→Option Loc
  rel:Rel w.heap.size μ (T.get hp) w
  views:∀i b,T.get hp i=some b→∃cs,b=.view cs
  dom:∀i b,T.get hp i=some b→i.val<nx.val
  fresh:∀i:K,nx.val≤i.val→μ i=none
noncomputable def Vw.V {w:World} (σ:Vw w):K→Option (List AV):=fun i=>(T.get σ.hp i).bind rdl
structure Vw.Le {w:World} (σ σ':Vw w):Prop where
  mu:MLe σ.μ σ'.μ
  view:VLe σ.V σ'.V
theorem Vw.Le.refl {w:World} (σ:Vw w):σ.Le σ:=⟨fun _ _ h=>h,VLe.refl _⟩
theorem Vw.Le.trans {w:World} {σ σ' σ'':Vw w} (h:σ.Le σ') (k:σ'.Le σ''):σ.Le σ'':=⟨h.mu.trans k.mu,h.view.trans k.view⟩
def Vw.none (w:World):Vw w:=⟨.e,.z,fun _=>Option.none,⟨fun i b h=>by (rw [T.get_e] at h;cases h),fun i b l h=>by (rw [T.get_e] at h;cases h),fun i cs l h=>by (rw [T.get_e] at h;cases h),fun i j b c l m h=>by (rw [T.get_e] at h;cases h),Nat.le_refl _⟩,fun i b h=>by (rw [T.get_e] at h;cases h),fun i b h=>by (rw [T.get_e] at h;cases h),fun _ _=>rfl⟩
theorem Vw.put {w:World} (σ:Vw w) (l:Loc) (o:Option (List AV)) (ho:∀cs,o=some cs→l.blk<w.heap.size∧∃vs,concL σ.μ cs=some vs∧∀j v,vs[j]?=some v→w.cell? ⟨l.blk,l.base+j,Option.none⟩=some v) :
    ∃σ':Vw w,σ.Le σ'∧σ'.μ σ.nx=some l∧∀cs,o=some cs→σ'.V σ.nx=some cs:=by
  have hnx:σ.μ σ.nx=Option.none:=σ.fresh _ (Nat.le_refl _)
  have hne:∀i b,T.get σ.hp i=some b→i≠σ.nx:=fun i b h e=>by have:=σ.dom i b h;rw [e] at this;omega
  have hle:MLe σ.μ (fun i=>if i=σ.nx then some l else σ.μ i):=fun i l' h=>by
    show (if i=σ.nx then some l else σ.μ i)=some l'
    split
    · rename_i e;rw [e,hnx] at h;cases h
    · exact h
  have hold:∀i b,T.get σ.hp i=some b→(if i=σ.nx then some l else σ.μ i)=σ.μ i:=fun i b h=>if_neg (hne i b h)
  have hfresh:∀i:K,(K.succ σ.nx).val≤i.val→(if i=σ.nx then some l else σ.μ i)=Option.none:=fun i h=>by
    rw [K.val_succ] at h
    rw [if_neg (fun e=>by rw [e] at h;omega)]
    exact σ.fresh i (by omega)
  cases o with
  | none =>
    refine ⟨⟨σ.hp,K.succ σ.nx,fun i=>if i=σ.nx then some l else σ.μ i,⟨fun i b h=>?_,fun i b l' h hb hl=>?_,fun i cs l' h hl=>?_,fun i j b c l1 l2 h1 h2 h3 h4 h5 h6=>?_,Nat.le_refl _⟩,σ.views,fun i b h=>by have:=σ.dom i b h;rw [K.val_succ];omega,hfresh⟩,⟨hle,VLe.refl _⟩,if_pos rfl,fun cs e=>by cases e⟩
    · obtain ⟨l',h1,h2⟩:=σ.rel.at_ i b h
      exact ⟨l',hle _ _ h1,h2.mono hle⟩
    · exact σ.rel.own i b l' h hb ((hold i b h).symm.trans hl)
    · exact .inl ((σ.rel.view i cs l' h ((hold i _ h).symm.trans hl)).elim id (·.1))
    · exact σ.rel.inj i j b c l1 l2 h1 h2 h3 h4 ((hold i b h1).symm.trans h5) ((hold j c h2).symm.trans h6)
  | some cs =>
    obtain ⟨hlt,vs,hvs,hcell⟩:=ho cs rfl
    have hget:∀i b,T.get (T.set σ.hp σ.nx (.view cs)) i=some b→(i=σ.nx∧b=.view cs)∨(i≠σ.nx∧T.get σ.hp i=some b):=fun i b h=>by
      rw [T.get_set] at h
      split at h
      · rename_i e;injection h with h;exact .inl ⟨e,h.symm⟩
      · rename_i e;exact .inr ⟨e,h⟩
    have hview:∀i b,T.get (T.set σ.hp σ.nx (.view cs)) i=some b→¬OwnB b:=fun i b h hb=>by
      rcases hget i b h with ⟨-,rfl⟩|⟨-,h⟩
      · exact hb
      · obtain ⟨cs',rfl⟩:=σ.views i b h;exact hb
    refine ⟨⟨T.set σ.hp σ.nx (.view cs),K.succ σ.nx,fun i=>if i=σ.nx then some l else σ.μ i,⟨fun i b h=>?_,fun i b l' h hb hl=>absurd hb (hview i b h),fun i cs' l' h hl=>?_,fun i j b c l1 l2 h1 h2 h3=>absurd h3 (hview i b h1),Nat.le_refl _⟩,fun i b h=>?_,fun i b h=>?_,hfresh⟩,⟨hle,fun i cs' h=>?_⟩,if_pos rfl,fun cs' e=>?_⟩
    · rcases hget i b h with ⟨rfl,rfl⟩|⟨hn,h⟩
      · exact ⟨l,if_pos rfl,vs,concL_mono hle _ _ hvs,hcell⟩
      · obtain ⟨l',h1,h2⟩:=σ.rel.at_ i b h
        exact ⟨l',hle _ _ h1,h2.mono hle⟩
    · rcases hget i _ h with ⟨rfl,-⟩|⟨hn,h⟩
      · rw [if_pos rfl] at hl;injection hl with hl;rw [←hl];exact .inl hlt
      · rw [if_neg hn] at hl;exact .inl ((σ.rel.view i cs' l' h hl).elim id (·.1))
    · rcases hget i b h with ⟨-,rfl⟩|⟨-,h⟩
      · exact ⟨cs,rfl⟩
      · exact σ.views i b h
    · rw [K.val_succ]
      rcases hget i b h with ⟨rfl,-⟩|⟨-,h⟩
      · omega
      · have:=σ.dom i b h;omega
    · show (T.get (T.set σ.hp σ.nx (.view cs)) i).bind rdl=some cs'
      obtain ⟨b,h1,h2⟩:=Option.bind_eq_some_iff.1 (show (T.get σ.hp i).bind rdl=some cs' from h)
      rw [T.get_set,if_neg (hne i b h1),h1];exact h2
    · injection e with e;subst e
      show (T.get (T.set σ.hp σ.nx (.view cs)) σ.nx).bind rdl=some cs
      rw [T.get_set,if_pos rfl];rfl
theorem takeL_mk {α:Type}:∀(l r:List α),takeL l.length (l++r)=some l
  | [],r=>rfl
  | x::l,r=>by
    show consO x (takeL l.length (l++r))=_
    rw [takeL_mk l r];rfl
theorem dropL_mk {α:Type}:∀(l r:List α),dropL l.length (l++r)=some r
  | [],r=>rfl
  | x::l,r=>dropL_mk l r
theorem subL_mk {α:Type} (a b c:List α):subL (a++(b++c)) a.length b.length=some b:=by
  unfold subL
  rw [dropL_mk]
  exact takeL_mk b c
theorem flat_len {α:Type} (f:α→List AV) (sz:Nat):∀(l:List α),(∀x∈l,(f x).length=sz)→(l.flatMap f).length=l.length * sz
  | [],_=>by simp
  | x::l,h=>by
    rw [List.flatMap_cons,List.length_append,h x (by simp),flat_len f sz l (fun y hy=>h y (by simp [hy])),List.length_cons,Nat.succ_mul];omega
theorem flat_sub {α:Type} (f:α→List AV) (sz:Nat) (l:List α) (h:∀x∈l,(f x).length=sz) (i:Nat) (x:α) (hx:l[i]?=some x):subL (l.flatMap f) (i * sz) sz=some (f x):=by
  have hlt:=(List.getElem?_eq_some_iff.1 hx).1
  have e:l=l.take i++(x::l.drop (i+1)):=by
    conv=>lhs;rw [←List.take_append_drop i l]
    rw [List.drop_eq_getElem_cons hlt,(List.getElem?_eq_some_iff.1 hx).2]
  have h1:((l.take i).flatMap f).length=i * sz:=by
    rw [flat_len f sz _ (fun y hy=>h y (List.mem_of_mem_take hy)),List.length_take,Nat.min_eq_left (by omega)]
  have h2:(f x).length=sz:=h x (List.mem_of_getElem? hx)
  rw [show l.flatMap f=(l.take i).flatMap f++(f x++(l.drop (i+1)).flatMap f) by
    conv=>lhs;rw [e]
    rw [List.flatMap_append,List.flatMap_cons]]
  conv=>lhs;rw [←h1,←h2]
  exact subL_mk _ _ _
theorem flat_conc {α:Type} {μ:K→Option Loc} (f:α→List AV) (sz:Nat) (cell:Nat→Option Value):∀(l:List α) (p:Nat),(∀i x,l[i]?=some x→∃c,c.length=sz∧concL μ (f x)=some c∧∀j u,c[j]?=some u→cell (p+i * sz+j)=some u) →
    ∃vs,concL μ (l.flatMap f)=some vs∧∀j v,vs[j]?=some v→cell (p+j)=some v
  | [],p,_=>⟨[],rfl,fun j v h=>by simp at h⟩
  | x::l,p,h=>by
    obtain ⟨c,h1,h2,h3⟩:=h 0 x (by simp)
    obtain ⟨vs,h4,h5⟩:=flat_conc f sz cell l (p+sz) (fun i y hy=>by
      obtain ⟨c',q1,q2,q3⟩:=h (i+1) y (by simpa using hy)
      refine ⟨c',q1,q2,fun j u hu=>?_⟩
      have:=q3 j u hu
      rw [show p+(i+1) * sz+j=p+sz+i * sz+j by rw [Nat.succ_mul];omega] at this
      exact this)
    refine ⟨c++vs,by rw [List.flatMap_cons];exact concL_append _ _ _ _ h2 h4,fun j v hj=>?_⟩
    by_cases hlt:j<c.length
    · rw [List.getElem?_append_left hlt] at hj
      have:=h3 j v hj
      rw [Nat.zero_mul,Nat.add_zero] at this
      exact this
    · rw [List.getElem?_append_right (by omega)] at hj
      have:=h5 _ v hj
      rw [show p+sz+(j-c.length)=p+j by omega] at this
      exact this
section
variable {P:Program} {tb:T TI}
structure Op (P:Program) {α:Type} (enc:α→List AV) (sz:Nat) (ok:(K→Option (List AV))→α→Prop) (t:TypeId):Prop where
  mono:∀V V' a,VLe V V'→ok V a→ok V' a
  size:P.cellsOf t=sz
  opn:∀(H:Type) (en:TypeId×Value→H) (w:World) (base:Nat) (held:Bool) (fuel:Nat) (cs:List Value) (x:DataW H×List MemPlace) (σ:Vw w),DataW.trod en P w base (fun _=>true) held fuel t cs=some x→(∀n∈x.1.weights P t,n≤reachBytes) →
    ∃(σ':Vw w) (a:α),σ.Le σ'∧concL σ'.μ (enc a)=some cs∧ok σ'.V a
theorem TabOk.cells (hT:TabOk P tb) {t:Nat} {i:TI} (h:ti tb t=some i):P.cellsOf t=i.size:=by
  obtain ⟨inf,h1,h2,-⟩:=(hT.get h).info
  unfold Program.cellsOf
  rw [h1,←h2];rfl
theorem TabOk.bytes (hT:TabOk P tb) {t:Nat} {i:TI} (h:ti tb t=some i):P.bytesOf t=i.bytes:=by
  obtain ⟨inf,h1,-,h2⟩:=(hT.get h).info
  unfold Program.bytesOf
  rw [h1,←h2];rfl
variable {t:Nat} {z1:Bool} {z3:Nat} {z4:Option AV}
theorem op_int (hT:TabOk P tb) {k:IntKind} (h:ti tb t=some ⟨.int k,z1,1,z3,z4⟩):Op P (fun n:Int=>[.int k n]) 1 (fun _ n=>k.min≤n∧n≤k.max) t :=
  ⟨fun _ _ _ _ h=>h,hT.cells h,fun H en w base held fuel cs x σ hx _=>by
    obtain ⟨n,rfl,-,hn⟩:=DataW.trod_int (hT.int h) hx
    simp only [Lit.wf,Bool.and_eq_true,decide_eq_true_eq] at hn
    exact ⟨σ,n,.refl _,rfl,hn⟩⟩
theorem op_str (hT:TabOk P tb) (h:ti tb t=some ⟨.str,z1,1,z3,z4⟩):Op P (fun s:List Nat=>[.str s]) 1 (fun _ s=>s.length≤140737488355328∧∀c∈s,c<256) t :=
  ⟨fun _ _ _ _ h=>h,hT.cells h,fun H en w base held fuel cs x σ hx hw=>by
    obtain ⟨s,rfl,rfl,-⟩:=DataW.trod_string (hT.str h) hx
    refine ⟨σ,s.data.toList.map UInt8.toNat,.refl _,?_,?_,fun c hc=>?_⟩
    · show some [Value.string (bytesV _)]=_
      rw [bytesV_of]
    · have:=hw s.data.toList.length (by simp [DataW.weights])
      rw [List.length_map]
      exact Nat.le_trans this (by decide)
    · obtain ⟨u,-,rfl⟩:=List.mem_map.1 hc
      exact u.toNat_lt⟩
theorem choose_from {α:Type} {w:World} {Q:(K→Option Loc)→(K→Option (List AV))→Nat→α→Prop} (hQ:∀(σ σ':Vw w) i x,σ.Le σ'→Q σ.μ σ.V i x→Q σ'.μ σ'.V i x) (n:Nat) (h:∀i,i<n→∀σ:Vw w,∃(σ':Vw w) (x:α),σ.Le σ'∧Q σ'.μ σ'.V i x) :
    ∀m,m≤n→∀σ:Vw w,∃(σ':Vw w) (l:List α),σ.Le σ'∧l.length=m∧∀i x,l[i]?=some x→Q σ'.μ σ'.V i x
  | 0,_,σ=>⟨σ,[],.refl _,rfl,fun i x h=>by simp at h⟩
  | m+1,hm,σ=>by
    obtain ⟨σ1,l,h1,h2,h3⟩:=choose_from hQ n h m (by omega) σ
    obtain ⟨σ2,x,h4,h5⟩:=h m (by omega) σ1
    refine ⟨σ2,l++[x],h1.trans h4,by simp [h2],fun i y hy=>?_⟩
    by_cases e:i<m
    · rw [List.getElem?_append_left (by omega)] at hy
      exact hQ _ _ _ _ h4 (h3 i y hy)
    · have:i=m:=by
        have:=(List.getElem?_eq_some_iff.1 hy).1
        simp at this;omega
      subst this
      rw [List.getElem?_append_right (by omega),h2] at hy
      simp at hy
      rw [←hy];exact h5
def AsOne {α:Type} (ag:Bool) (enc:α→List AV) (one:α→AV):Prop:=∀a,match ag with
  | true=>one a=.agg (enc a)
  | false=>enc a=[one a]
theorem In_mono {α:Type} {V V':K→Option (List AV)} {ag:Bool} {sz:Nat} {one:α→AV} {s:Sl α} (h:VLe V V') (k:s.In V ag sz one):s.In V' ag sz one:=fun i x hx=>by
  obtain ⟨j,o,cs,h1,h2,h3⟩:=k i x hx
  exact ⟨j,o,cs,h1,h _ _ h2,h3⟩
theorem op_slice (hT:TabOk P tb) {α:Type} {enc:α→List AV} {one:α→AV} {sz:Nat} {ok:(K→Option (List AV))→α→Prop} {e by_:Nat} {ag z6:Bool} {z7:Option AV} {td:TD} (h:ti tb t=some ⟨.sl e,z1,1,z3,z4⟩) (he:ti tb e=some ⟨td,z6,sz,by_,z7⟩) (hs0:0<sz) (hone:AsOne ag enc one) (hd:Op P enc sz ok e) :
    Op P (fun s:Sl α=>[s.v]) 1 (fun V s=>s.l.length * by_≤140737488355328∧s.In V ag sz one∧∀x∈s.l,ok V x) t :=
  ⟨fun V V' s hV hk=>⟨hk.1,In_mono hV hk.2.1,fun x hx=>hd.mono V V' x hV (hk.2.2 x hx)⟩,hT.cells h,fun H en w base held fuel cs x σ hx hw=>by
    have hsl:=hT.sl h
    rcases DataW.trod_slice hsl hx with ⟨rfl,-⟩|⟨a,len,cap,elems,rest,n,-,rfl,rfl,hb,hl,hm,hel,hat,hspare,-⟩
    · exact ⟨σ,⟨none,.ex 0,[]⟩,.refl _,rfl,by simp,fun i x hx=>by simp at hx,fun x hx=>by cases hx⟩
    obtain ⟨hrl,hrest⟩:=hspare rfl
    simp only [DataW.weights,hsl,List.length_map] at hw
    have hby:P.bytesOf e=by_:=hT.bytes he
    have hlen:len * by_≤140737488355328:=by
      have h1:=hw _ (List.mem_cons_self ..)
      rw [hby] at h1
      have h2:len * by_≤(elems.length+rest.length) * by_:=Nat.mul_le_mul_right _ (by omega)
      exact Nat.le_trans (Nat.le_trans h2 h1) (by decide)
    have hsz:=hd.size
    have hspot:0<cap→a.spot=none∧a.block<w.heap.size:=fun hc=>by
      have:∃c,(w.cells? base (a.add 0) (P.cellsOf e))=some c:=by
        by_cases hl0:0<len
        · have h1:=hat 0 hl0
          rw [List.getElem?_eq_getElem (by omega),Nat.zero_mul] at h1
          obtain ⟨c,h2,-⟩:=Option.bind_eq_some_iff.1 h1
          exact ⟨c,h2⟩
        · have h1:=hrest 0 (by omega)
          have:len=0:=by omega
          subst this
          rw [List.getElem?_eq_getElem (by omega),Nat.zero_add,Nat.zero_mul] at h1
          obtain ⟨c,h2,-⟩:=Option.bind_eq_some_iff.1 h1
          exact ⟨c,h2⟩
      obtain ⟨c,hc'⟩:=this
      obtain ⟨-,h1,h2⟩:=World.cells?_some hc'
      have h3:=h2 0 (by rw [hsz];exact hs0)
      rw [show (a.add 0).add 0=a from rfl,List.getElem?_eq_getElem (by rw [h1,hsz];exact hs0)] at h3
      unfold World.cell? at h3
      split at h3
      · rename_i c2 _ _ hh
        refine ⟨?_,(Array.getElem?_eq_some_iff.1 hh).1⟩
        cases hsp:a.spot with
        | none=>rfl
        | some s=>rw [hsp] at h3;simp at h3
      · cases h3
    by_cases hl0:len=0
    · -- (nothing to be read)
      subst hl0
      obtain ⟨ab,ao,asp⟩:=a
      cases hsp:asp with
      | none =>
        obtain ⟨σ1,h1,h2,-⟩:=σ.put ⟨ab,ao,0⟩ none (fun _ h=>by cases h)
        refine ⟨σ1,⟨some (σ.nx,0),.ex cap,[]⟩,h1,?_,by simp,fun i x hx=>by simp at hx,fun x hx=>by cases hx⟩
        show concL σ1.μ [.slice (some (σ.nx,0)) 0 (.ex cap)]=_
        simp only [concL,conc,h2,Option.bind_some,capV,Nat.zero_le,if_true,Option.map_some,ptrV,Nat.add_zero]
      | some s =>
        have hc0:cap=0:=by
          by_cases hc:0<cap
          · have:=(hspot hc).1;simp only [hsp] at this;cases this
          · omega
        subst hc0
        obtain ⟨σ1,h1,h2,-⟩:=σ.put ⟨ab,ao,s⟩ none (fun _ h=>by cases h)
        refine ⟨σ1,⟨none,.own σ.nx.val,[]⟩,h1,?_,by simp,fun i x hx=>by simp at hx,fun x hx=>by cases hx⟩
        show concL σ1.μ [.slice none 0 (.own σ.nx.val)]=_
        have hk:K.of σ.nx.val=σ.nx:=K.val_inj (K.val_of _)
        simp only [concL,conc,hk,h2,if_true,Option.bind_some,Option.map_some]
    · obtain ⟨hsp,hlt⟩:=hspot (by omega)
      obtain ⟨ab,ao,asp⟩:=a
      simp only at hsp hlt
      subst hsp
      have key:=choose_from (w:=w) (Q:=fun μ V i x=>(∃c:List Value,c.length=sz∧concL μ (enc x)=some c∧∀j u,c[j]?=some u→w.cell? ⟨ab,ao+(0+i * sz+j),none⟩=some u)∧ok V x) (fun σ σ' i x hle hq=>by
          obtain ⟨⟨c,h1,h2,h3⟩,h4⟩:=hq
          exact ⟨⟨c,h1,concL_mono hle.mu _ _ h2,h3⟩,hd.mono _ _ _ hle.view h4⟩) len (fun i hi σ0=>by
          have h1:=hat i hi
          rw [List.getElem?_eq_getElem (by omega)] at h1
          obtain ⟨c,h2,h3⟩:=Option.bind_eq_some_iff.1 h1
          have hw1:∀n∈(elems[i]'(by omega)).1.weights P e,n≤reachBytes:=fun n hn=>hw n (List.mem_cons_of_mem _ (List.mem_append_left _ (by
            have hmem:(elems[i]'(by omega)).1∈elems.map (·.1):=List.mem_map.2 ⟨_,List.getElem_mem _,rfl⟩
            clear hw
            generalize elems.map (·.1)=L at hmem
            induction L with
            | nil=>cases hmem
            | cons d r ih =>
              simp only [DataW.weightsAll,List.mem_append]
              rcases List.mem_cons.1 hmem with hm|hm
              · exact .inl (by rw [←hm];exact hn)
              · exact .inr (ih hm))))
          obtain ⟨σ1,y,q1,q2,q3⟩:=hd.opn H en w base held n c _ σ0 h3 hw1
          obtain ⟨-,h6,h7⟩:=World.cells?_some h2
          refine ⟨σ1,y,q1,⟨c,by rw [h6,hsz],q2,fun j u hu=>?_⟩,q3⟩
          have h8:=h7 j (by have:=(List.getElem?_eq_some_iff.1 hu).1;omega)
          rw [Addr.add_add,hu,hsz] at h8
          have e9:Addr.add ⟨ab,ao,none⟩ (i * sz+j)=⟨ab,ao+(0+i * sz+j),none⟩:=by
            unfold Addr.add
            split
            · rename_i h0;simp only [Nat.zero_add,h0,Nat.add_zero]
            · simp only [Nat.zero_add]
          rw [←e9];exact h8) len (Nat.le_refl _) σ
      obtain ⟨σ1,l,h1,h2,h3⟩:=key
      have hlen':∀y∈l,(enc y).length=sz:=fun y hy=>by
        obtain ⟨i,hi⟩:=List.getElem?_of_mem hy
        obtain ⟨⟨c,q1,q2,-⟩,-⟩:=h3 i y hi
        rw [←concL_length _ _ q2];exact q1
      obtain ⟨vs,hvs,hcell⟩:=flat_conc enc sz (fun j=>w.cell? ⟨ab,ao+j,none⟩) l 0 (fun i y hy=>(h3 i y hy).1)
      obtain ⟨σ2,k1,k2,k3⟩:=σ1.put ⟨ab,ao,0⟩ (some (l.flatMap enc)) (fun cs hcs=>by
        injection hcs with hcs;subst hcs
        refine ⟨hlt,vs,hvs,fun j v hj=>?_⟩
        have:=hcell j v hj
        rw [Nat.zero_add] at this;exact this)
      refine ⟨σ2,⟨some (σ1.nx,0),.ex cap,l⟩,h1.trans k1,?_,by rw [h2];exact hlen,fun i y hy=>⟨σ1.nx,0,_,rfl,k3 _ rfl,?_⟩,fun y hy=>?_⟩
      · show concL σ2.μ [.slice (some (σ1.nx,0)) l.length (.ex cap)]=_
        simp only [concL,conc,k2,Option.bind_some,capV,h2,hl,if_true,Option.map_some,ptrV,Nat.add_zero]
      · have hsub:=flat_sub enc sz l hlen' i y hy
        rw [Nat.zero_add]
        have ho:=hone y
        cases ag with
        | true =>
          have ho:one y=.agg (enc y):=ho
          show aggO (subL (l.flatMap enc) (i * sz) sz)=some (one y)
          rw [hsub,ho];rfl
        | false =>
          have ho:enc y=[one y]:=ho
          have hs1:sz=1:=by rw [←hlen' y (List.mem_of_getElem? hy),ho];rfl
          show getL (l.flatMap enc) (i * sz)=some (one y)
          obtain ⟨e1,e2,e3⟩:=subL_eq hsub
          rw [getL_eq]
          have:(enc y)[0]?=some (one y):=by rw [ho];rfl
          rw [e1,List.getElem?_take_of_lt (by omega),List.getElem?_drop,Nat.add_zero] at this
          exact this
      · obtain ⟨i,hi⟩:=List.getElem?_of_mem hy
        exact hd.mono _ _ _ k1.view (h3 i y hi).2⟩
structure OpF (P:Program) {α:Type} (enc:α→List AV) (sz:Nat) (ok:(K→Option (List AV))→α→Prop) (fs:List (Nat×Nat)) (o:Nat):Prop where
  mono:∀V V' a,VLe V V'→ok V a→ok V' a
  opn:∀(H:Type) (en:TypeId×Value→H) (w:World) (base:Nat) (held:Bool) (n:Nat) (cs:List Value) (σ:Vw w),(∀f∈fs,∃x,DataW.trod en P w base (fun _=>true) held n f.1 ((cs.drop f.2).take (P.cellsOf f.1))=some x∧∀n∈x.1.weights P f.1,n≤reachBytes) →
    ∃(σ':Vw w) (a:α),σ.Le σ'∧concL σ'.μ (enc a)=some ((cs.drop o).take sz)∧ok σ'.V a
theorem opF_one {α:Type} {enc:α→List AV} {sz o:Nat} {ok:(K→Option (List AV))→α→Prop} {t:Nat} (hd:Op P enc sz ok t):OpF P enc sz ok [(t,o)] o :=
  ⟨hd.mono,fun H en w base held n cs σ h=>by
    obtain ⟨x,hx,hw⟩:=h (t,o) (by simp)
    rw [hd.size] at hx
    exact hd.opn H en w base held n _ x σ hx hw⟩
theorem opF_cons {α β:Type} {enc:α→List AV} {enc':β→List AV} {sz sz' o o':Nat} {ok:(K→Option (List AV))→α→Prop} {ok':(K→Option (List AV))→β→Prop} {t:Nat} {fs:List (Nat×Nat)} (hd:Op P enc sz ok t) (hF:OpF P enc' sz' ok' fs o') (ho:o'=o+sz) :
    OpF P (fun p:α×β=>enc p.1++enc' p.2) (sz+sz') (fun V p=>ok V p.1∧ok' V p.2) ((t,o)::fs) o :=
  ⟨fun V V' a hV hk=>⟨hd.mono _ _ _ hV hk.1,hF.mono _ _ _ hV hk.2⟩,fun H en w base held n cs σ h=>by
    obtain ⟨x,hx,hw⟩:=h (t,o) (by simp)
    rw [hd.size] at hx
    obtain ⟨σ1,a,h1,h2,h3⟩:=hd.opn H en w base held n _ x σ hx hw
    obtain ⟨σ2,b,h4,h5,h6⟩:=hF.opn H en w base held n cs σ1 (fun f hf=>h f (by simp [hf]))
    refine ⟨σ2,(a,b),h1.trans h4,?_,hd.mono _ _ _ h4.view h3,h6⟩
    have e:(cs.drop o).take (sz+sz')=(cs.drop o).take sz++(cs.drop o').take sz':=by rw [List.take_add,List.drop_drop,ho]
    rw [e]
    exact concL_append _ _ _ _ (concL_mono h4.mu _ _ h2) h5⟩
theorem weightsEach_at {H:Type}:∀(ts:List TypeId) (ds:List (DataW H)) (i:Nat) (t:TypeId) (d:DataW H),ts[i]?=some t→ds[i]?=some d→∀n∈d.weights P t,n∈DataW.weightsEach P ts ds
  | t'::ts,d'::ds,0,t,d,h1,h2,n,hn=>by
    simp at h1 h2;subst h1;subst h2
    simp only [DataW.weightsEach,List.mem_append];exact .inl hn
  | t'::ts,d'::ds,i+1,t,d,h1,h2,n,hn=>by
    simp only [DataW.weightsEach,List.mem_append]
    exact .inr (weightsEach_at ts ds i t d (by simpa using h1) (by simpa using h2) n hn)
  | [],_,i,t,d,h1,h2,n,hn=>by simp at h1
  | _::_,[],i,t,d,h1,h2,n,hn=>by simp at h2
theorem op_struct (hT:TabOk P tb) {α:Type} {enc:α→List AV} {sz:Nat} {ok:(K→Option (List AV))→α→Prop} {fs:List (Nat×Nat)} (h:ti tb t=some ⟨.st fs,z1,sz,z3,z4⟩) (hF:OpF P enc sz ok fs 0):Op P enc sz ok t :=
  ⟨hF.mono,hT.cells h,fun H en w base held fuel cs x σ hx hw=>by
    obtain ⟨fl,hst,hfl⟩:=hT.st h
    obtain ⟨xs,n,-,rfl,hl,hxl,hf⟩:=DataW.trod_struct hst hx
    simp only [DataW.weights,hst] at hw
    have hsz:=hT.cells h
    obtain ⟨σ1,a,h1,h2,h3⟩:=hF.opn H en w base held n cs σ (fun f hf'=>by
      rw [←hfl] at hf'
      obtain ⟨fd,hfd,rfl⟩:=List.mem_map.1 hf'
      obtain ⟨i,hi⟩:=List.getElem?_of_mem hfd
      have hi':fl[i]?=some fd:=by rw [←Array.getElem?_toList];exact hi
      have hlt:i<xs.length:=by have:=(Array.getElem?_eq_some_iff.1 hi').1;omega
      refine ⟨xs[i],(hf i fd hi').trans (List.getElem?_eq_getElem hlt),fun n hn=>hw n ?_⟩
      refine weightsEach_at _ _ i fd.type xs[i].1 ?_ ?_ n hn
      · rw [List.getElem?_map,hi];rfl
      · rw [List.getElem?_map,List.getElem?_eq_getElem hlt];rfl)
    refine ⟨σ1,a,h1,?_,h3⟩
    rw [List.drop_zero,List.take_of_length_le (by rw [hl,hsz];exact Nat.le_refl _)] at h2
    exact h2⟩
theorem Op.map {α β:Type} {enc:α→List AV} {enc':β→List AV} {sz:Nat} {ok:(K→Option (List AV))→α→Prop} {ok':(K→Option (List AV))→β→Prop} (hd:Op P enc sz ok t) (g:α→β) (hm:∀V V' a,VLe V V'→ok' V a→ok' V' a) (he:∀a,enc' (g a)=enc a) (ho:∀V a,ok V a→ok' V (g a)):Op P enc' sz ok' t :=
  ⟨hm,hd.size,fun H en w base held fuel cs x σ hx hw=>by
    obtain ⟨σ1,a,h1,h2,h3⟩:=hd.opn H en w base held fuel cs x σ hx hw
    exact ⟨σ1,g a,h1,by rw [he];exact h2,ho _ _ h3⟩⟩
end
end Go.Proofs.YtoegffiapnnkiaaGreat.Abs
namespace Go.Proofs.YtoegffiapnnkiaaGreat.Abs
open Go
set_option linter.unusedVariables false
set_option linter.unusedSimpArgs false
set_option maxRecDepth 100000
structure Table.Room (t:Table):Prop where
  name:t.name.length≤140737488355328∧∀c∈t.name,c<256
  regs:t.regs.l.length * 8≤140737488355328
  consts:t.consts.l.length * 8≤140737488355328
  code:t.code.l.length * 16≤140737488355328
  states:t.states.l.length * 24≤140737488355328
  guards:∀l∈t.states.l,l.l.length * 48≤140737488355328
  rows:∀l∈t.states.l,∀g∈l.l,g.rows.l.length * 80≤140737488355328
def Guard.Room (g:Guard):Prop:=g.rows.l.length * 80≤140737488355328
theorem Guard.okM {V V':K→Option (List AV)} (h:VLe V V') {x:Guard} (k:x.Ok V):x.Ok V':=⟨k.1,k.2.1,k.2.2.1,k.2.2.2.1,In_mono h k.2.2.2.2.1,k.2.2.2.2.2⟩
theorem Table.okM {V V':K→Option (List AV)} (h:VLe V V') {t:Table} (k:t.Ok V):t.Ok V' :=
  ⟨⟨k.regs.1,In_mono h k.regs.2.1,k.regs.2.2⟩,k.slots,⟨k.consts.1,In_mono h k.consts.2.1,k.consts.2.2⟩,⟨k.code.1,In_mono h k.code.2.1,k.code.2.2⟩,k.states.1,In_mono h k.states.2.1,fun l hl=>⟨(k.states.2.2 l hl).1,In_mono h (k.states.2.2 l hl).2.1,fun g hg=>Guard.okM h ((k.states.2.2 l hl).2.2 g hg)⟩⟩
theorem op_instr:Op Tryz.prog (fun x:Instr=>[.int .u8 x.k,.int .i64 x.a]) 2 (fun _ x=>In8 x.k∧In64 x.a) 86 :=
  (op_struct tblOk (t:=86) rfl (opF_cons (t:=84) (op_int tblOk (k:=.u8) rfl) (opF_one (t:=3) (op_int tblOk (k:=.i64) rfl)) rfl)).map (fun p=>⟨p.1,p.2⟩) (fun _ _ _ _ h=>h) (fun _=>rfl) (fun _ _ h=>h)
theorem op_span:Op Tryz.prog (fun x:Span=>[.int .i64 x.f,.int .i64 x.t]) 2 (fun _ x=>x.Ok) 53 :=
  (op_struct tblOk (t:=53) rfl (opF_cons (t:=3) (op_int tblOk (k:=.i64) rfl) (opF_one (t:=3) (op_int tblOk (k:=.i64) rfl)) rfl)).map (fun p=>⟨p.1,p.2⟩) (fun _ _ _ _ h=>h) (fun _=>rfl) (fun _ _ h=>h)
theorem op_row:Op Tryz.prog (fun x:Row=>[.int .u8 x.k,.int .u8 x.o,.int .i64 x.i,.int .i64 x.side.f,.int .i64 x.side.t,.int .i64 x.qty.f,.int .i64 x.qty.t,.int .i64 x.price.f,.int .i64 x.price.t,.int .i64 x.value.f,.int .i64 x.value.t]) 11 (fun _ x=>x.Ok) 148 :=
  (op_struct tblOk (t:=148) rfl (opF_cons (t:=146) (op_int tblOk (k:=.u8) rfl) (opF_cons (t:=124) (op_int tblOk (k:=.u8) rfl) (opF_cons (t:=3) (op_int tblOk (k:=.i64) rfl) (opF_cons op_span (opF_cons op_span (opF_cons op_span (opF_one op_span) rfl) rfl) rfl) rfl) rfl) rfl)).map (fun p=>⟨p.1,p.2.1,p.2.2.1,p.2.2.2.1,p.2.2.2.2.1,p.2.2.2.2.2.1,p.2.2.2.2.2.2⟩) (fun _ _ _ _ h=>h) (fun _=>rfl) (fun _ _ h=>h)
theorem op_guard:Op Tryz.prog (fun x:Guard=>[.int .i64 x.when.f,.int .i64 x.when.t,.int .u16 x.fields,.int .u16 x.regs,x.rows.v]) 5 (fun V x=>x.Ok V∧x.Room) 132 :=
  (op_struct tblOk (t:=132) rfl (opF_cons op_span (opF_cons (t:=118) (op_int tblOk (k:=.u16) rfl) (opF_cons (t:=117) (op_int tblOk (k:=.u16) rfl) (opF_one (t:=130) (op_slice tblOk (ag:=true) (one:=Row.v) rfl rfl (by decide) (fun _=>rfl) op_row)) rfl) rfl) rfl)).map (fun p=>⟨p.1,p.2.1,p.2.2.1,p.2.2.2⟩) (fun _ _ _ h k=>⟨Guard.okM h k.1,k.2⟩) (fun _=>rfl)
    (fun _ p h=>by
      obtain ⟨h1,h2,h3,h4,h5,h6⟩:=h
      exact ⟨⟨h1,h2,h3,by show p.2.2.2.l.length≤281474976710656;omega,h5,h6⟩,h4⟩)
theorem op_table:Op Tryz.prog (fun t:Table=>[.str t.name,t.regs.v,.int .i64 t.slots,t.consts.v,t.code.v,t.states.v]) 6 (fun V t=>t.Ok V∧t.Room) 26 :=
  (op_struct tblOk (t:=26) rfl (opF_cons (t:=9) (op_str tblOk rfl) (opF_cons (t:=22) (op_slice tblOk (ag:=false) (one:=AV.int .i64) rfl (e:=2) rfl (by decide) (fun _=>rfl) (op_int tblOk (k:=.i64) rfl)) (opF_cons (t:=3) (op_int tblOk (k:=.i64) rfl) (opF_cons (t:=22) (op_slice tblOk (ag:=false) (one:=AV.int .i64) rfl (e:=2) rfl (by decide) (fun _=>rfl) (op_int tblOk (k:=.i64) rfl)) (opF_cons (t:=23) (op_slice tblOk (ag:=true) (one:=Instr.v) rfl rfl (by decide) (fun _=>rfl) op_instr)
    (opF_one (t:=24) (op_slice tblOk (ag:=false) (one:=Sl.v) rfl (e:=129) rfl (by decide) (fun _=>rfl) (op_slice tblOk (ag:=true) (one:=Guard.v) rfl rfl (by decide) (fun _=>rfl) op_guard))) rfl) rfl) rfl) rfl) rfl)).map (fun p=>⟨p.1,p.2.1,p.2.2.1,p.2.2.2.1,p.2.2.2.2.1,p.2.2.2.2.2⟩) (fun _ _ _ h k=>⟨Table.okM h k.1,k.2⟩) (fun _=>rfl)
    (fun _ p h=>by
      obtain ⟨⟨a1,a2⟩,⟨b1,b2,b3⟩,c1,⟨d1,d2,d3⟩,⟨e1,e2,e3⟩,⟨f1,f2,f3⟩⟩:=h
      refine ⟨⟨⟨by show p.2.1.l.length≤281474976710656;omega,b2,b3⟩,c1,⟨by show p.2.2.2.1.l.length≤281474976710656;omega,d2,d3⟩,⟨by show p.2.2.2.2.1.l.length≤281474976710656;omega,e2,e3⟩,by show p.2.2.2.2.2.l.length≤281474976710656;omega,f2,fun l hl=>?_⟩,⟨⟨a1,a2⟩,b1,d1,e1,f1,fun l hl=>(f3 l hl).1,fun l hl g hg=>((f3 l hl).2.2 g hg).2⟩⟩
      have h9:=f3 l hl
      exact ⟨by unfold Len;have:=h9.1;omega,h9.2.1,fun g hg=>(h9.2.2 g hg).1⟩)
theorem bridge {ms:List Memo} (hM:∀m∈ms,MemoS Tryz.prog m) {w:World} (σ:Vw w) {f:Nat} {avs:List AV} {cargs:List Value} (hc:concL σ.μ avs=some cargs)
    (h:Cl Tryz.prog ⟨107,271,ms⟩ σ.V f avs [] fun o _=>o=.ret (.bool true)):Calls Tryz.prog f cargs.toArray w fun e w'=>e=.returned (.bool true)∧Go.RowKit.Below w.heap.size w w':=by
  have hm:Mem σ.V (fun _=>none) [] ⟨σ.hp,σ.nx⟩:=by
    refine ⟨fun i cs hi=>?_,fun i hi=>?_,fun i b hb=>?_,fun x hx=>?_,fun x hx=>?_,fun i hi=>?_,List.nodup_nil,σ.dom⟩
    · obtain ⟨b,h1,h2⟩:=Option.bind_eq_some_iff.1 (show (T.get σ.hp i).bind rdl=some cs from hi)
      exact ⟨b,h1,h2⟩
    · simp [names] at hi
    · cases hb
    · simp at hx
    · simp at hx
    · simp [names] at hi
  obtain ⟨o,Δ',s',h1,h2,k0,h3⟩:=h _ _ hm
  subst h1
  have h3:=h3 k0 (Nat.le_refl _)
  refine ((callsS ms hM k0).ret f avs ⟨σ.hp,σ.nx⟩ _ s' h3 w.heap.size σ.μ w cargs σ.rel (fun i hi _=>σ.fresh i hi) hc).mono fun e w' hh=>?_
  obtain ⟨μ',c,q1,q2,rfl⟩:=hh
  rw [conc_bool q2]
  refine ⟨rfl,q1.os,q1.tape,q1.output,q1.size,fun k hk=>q1.frame k hk ?_⟩
  rintro ⟨i,b,l,hb,ho,-⟩
  obtain ⟨cs,rfl⟩:=σ.views i b hb
  exact ho
theorem open_args {α:Type} {H:Type} {en:TypeId×Value→H} {w:World} {base:Nat} {held:Bool} {enc:α→List AV} {sz:Nat} {ok:(K→Option (List AV))→α→Prop} {t:Nat} (hd:Op Tryz.prog enc sz ok t) (σ:Vw w) {v:Value} {d:DataW H} {ps:List MemPlace}
    (h:DataW.Trod en Tryz.prog w base (fun _=>true) held t v d ps) (hw:∀n∈d.weights Tryz.prog t,n≤reachBytes):∃(σ':Vw w) (a:α),σ.Le σ'∧concL σ'.μ (enc a)=some (v.cells.toList)∧ok σ'.V a:=by
  obtain ⟨fuel,hf⟩:=h
  exact hd.opn H en w base held fuel _ _ σ hf hw
end Go.Proofs.YtoegffiapnnkiaaGreat.Abs
namespace Go.Proofs.YtoegffiapnnkiaaGreat.Abs
open Go
set_option linter.unusedVariables false
set_option linter.unusedSimpArgs false
set_option maxRecDepth 100000
section
variable {P:Program} {g:Cg} {n:Nat} {V:K→Option (List AV)} {rs:List ResultVar} {st:List Fr} {e:Ex} {Γ Γ':Gm} {Δ Δ' R:Dm} {Q Q':RO→Dm→Prop} {tb:T TI} {b:Bool} {all rest:List Oper}
variable {ty:TypeId} {pos:String} {after:Array Edge} {gd:Option (Nat×Bool)} {d:Nat} {x y:Operand}
def gS {α:Type} (i:K) (l:List α):Sl α:=match l with
  | []=>⟨none,.ex 0,[]⟩
  | _::_=>⟨some (i,0),.own 0,l⟩
theorem gS_l {α:Type} (i:K) (l:List α):(gS i l).l=l:=by cases l<;>rfl
def gD {α:Type} (enc:α→List AV) (el sz:Nat) (i:K) (l:List α):Dm:=match l with
  | []=>[]
  | _::_=>[(i,.cells (l.flatMap enc) el sz false)]
def RowIn {α:Type} (D:Dm) (enc:α→List AV) (el sz:Nat) (s:Sl α):Prop:=s.l=[]∨∃j f,s.a=some (j,0)∧(j,Bk.cells (s.l.flatMap enc) el sz f)∈D
theorem RowIn.mono {α:Type} {D D':Dm} {enc:α→List AV} {el sz:Nat} {s:Sl α} (h:RowIn D enc el sz s) (hs:∀z∈D,z∈D'):RowIn D' enc el sz s:=by
  rcases h with h|⟨j,f,h1,h2⟩
  · exact .inl h
  · exact .inr ⟨j,f,h1,hs _ h2⟩
theorem gS_in {α:Type} {D:Dm} {enc:α→List AV} {el sz:Nat} {i:K} {l:List α} (h:∀z∈gD enc el sz i l,z∈D):RowIn D enc el sz (gS i l):=by
  cases l with
  | nil=>exact .inl rfl
  | cons a l=>exact .inr ⟨i,_,rfl,h _ (List.mem_cons_self ..)⟩
theorem withV_at {V:K→Option (List AV)}:∀ {D:Dm} {j:K} {bk:Bk},(names D).Nodup→(j,bk)∈D→withV V D j=rdl bk
  | (i,c)::D,j,bk,hn,h=>by
    have hnd:=List.nodup_cons.1 hn
    simp only [withV]
    rcases List.mem_cons.1 h with h|h
    · injection h with h1 h2;subst h1;subst h2;rw [if_pos rfl]
    · rw [if_neg (fun e=>hnd.1 (by rw [←e];exact List.mem_map.2 ⟨(j,bk),h,rfl⟩))]
      exact withV_at hnd.2 h
theorem withV_le {V:K→Option (List AV)} {D:Dm} (h:∀i∈names D,V i=none):VLe V (withV V D):=fun i cs e=>by
  rw [withV_none fun hi=>by rw [h i hi] at e;cases e];exact e
theorem RowIn.in {α:Type} {V:K→Option (List AV)} {D:Dm} {enc:α→List AV} {one:α→AV} {ag:Bool} {el sz:Nat} {s:Sl α} (hn:(names D).Nodup) (h:RowIn D enc el sz s) (hl:∀a,(enc a).length=sz) (ho:AsOne ag enc one):s.In (withV V D) ag sz one:=fun i a ha=>by
  rcases h with h|⟨j,f,h1,h2⟩
  · rw [h] at ha;simp at ha
  refine ⟨j,0,_,h1,(withV_at hn h2).trans rfl,?_⟩
  have hsub:=flat_sub enc sz s.l (fun a _=>hl a) i a ha
  rw [Nat.zero_add]
  have hoa:=ho a
  cases ag with
  | true =>
    have hoa:one a=.agg (enc a):=hoa
    show aggO (subL (s.l.flatMap enc) (i * sz) sz)=some (one a)
    rw [hsub,hoa];rfl
  | false =>
    have hoa:enc a=[one a]:=hoa
    have hs1:sz=1:=by rw [←hl a,hoa];rfl
    show getL (s.l.flatMap enc) (i * sz)=some (one a)
    obtain ⟨e1,e2,e3⟩:=subL_eq hsub
    rw [getL_eq]
    have:(enc a)[0]?=some (one a):=by rw [hoa];rfl
    rw [e1,List.getElem?_take_of_lt (by omega),List.getElem?_drop,Nat.add_zero] at this
    exact this
theorem takeL_cat {α:Type}:∀(a b:Nat) (l r1 r2:List α),takeL a l=some r1→takeL b (l.drop a)=some r2→takeL (a+b) l=some (r1++r2)
  | 0,b,l,r1,r2,h1,h2=>by
    injection (show some []=some r1 from h1) with h1;subst h1
    rw [Nat.zero_add];exact h2
  | a+1,b,[],r1,r2,h1,h2=>by cases (show (none:Option (List α))=some r1 from h1)
  | a+1,b,x::l,r1,r2,h1,h2=>by
    have h1:consO x (takeL a l)=some r1:=h1
    cases ht:takeL a l with
    | none=>rw [ht] at h1;cases h1
    | some r =>
      rw [ht] at h1
      injection (show some (x::r)=some r1 from h1) with h1;subst h1
      have:=takeL_cat a b l r r2 ht h2
      rw [show a+1+b=(a+b)+1 by omega]
      show consO x (takeL (a+b) l)=_
      rw [this];rfl
theorem dropL_mk2 {α:Type}:∀(l:List α) (o:Nat),o≤l.length→dropL o l=some (l.drop o)
  | l,0,_=>rfl
  | [],o+1,h=>by simp at h
  | x::l,o+1,h=>dropL_mk2 l o (by simpa using h)
theorem subL_inv {α:Type} {l:List α} {o n:Nat} {r:List α} (h:subL l o n=some r):dropL o l=some (l.drop o)∧takeL n (l.drop o)=some r:=by
  unfold subL at h
  cases hd:dropL o l with
  | none=>rw [hd] at h;cases h
  | some q =>
    rw [hd] at h
    have:=(dropL_eq o l q hd).1
    subst this
    exact ⟨rfl,h⟩
theorem subL_cat {α:Type} {l:List α} {o a b:Nat} {r1 r2:List α} (h1:subL l o a=some r1) (h2:subL l (o+a) b=some r2):subL l o (a+b)=some (r1++r2):=by
  obtain ⟨q1,q2⟩:=subL_inv h1
  obtain ⟨q3,q4⟩:=subL_inv h2
  unfold subL
  rw [q1]
  refine takeL_cat _ _ _ _ _ q2 ?_
  rw [List.drop_drop]
  exact q4
theorem one_sub {α:Type} {enc:α→List AV} {one:α→AV} {ag:Bool} {sz:Nat} (ho:AsOne ag enc one) (hl:∀a,(enc a).length=sz) {cs:List AV} {p:Nat} {a:α} (h:partB cs p (ag,sz)=some (one a)):subL cs p sz=some (enc a):=by
  have hoa:=ho a
  cases ag with
  | true =>
    have hoa:one a=.agg (enc a):=hoa
    have h:aggO (subL cs p sz)=some (one a):=h
    cases hs:subL cs p sz with
    | none=>rw [hs] at h;cases h
    | some r =>
      rw [hs,hoa] at h
      injection (show some (AV.agg r)=some (.agg (enc a)) from h) with h;injection h with h;rw [h]
  | false =>
    have hoa:enc a=[one a]:=hoa
    have hs1:sz=1:=by rw [←hl a,hoa];rfl
    subst hs1
    have h:getL cs p=some (one a):=h
    rw [getL_eq] at h
    have hlt:=(List.getElem?_eq_some_iff.1 h).1
    unfold subL
    rw [dropL_mk2 cs p (by omega)]
    show takeL 1 (cs.drop p)=_
    rw [List.drop_eq_getElem_cons hlt,(List.getElem?_eq_some_iff.1 h).2,hoa];rfl
theorem In_sub {α:Type} {V:K→Option (List AV)} {enc:α→List AV} {one:α→AV} {ag:Bool} {sz:Nat} (ho:AsOne ag enc one) (hl:∀a,(enc a).length=sz) {s:Sl α} (h:s.In V ag sz one) (hne:s.l≠[]):∃j o cs,s.a=some (j,o)∧V j=some cs∧subL cs o (s.l.length * sz)=some (s.l.flatMap enc):=by
  obtain ⟨a,c,l⟩:=s
  simp only at hne ⊢
  cases l with
  | nil=>exact absurd rfl hne
  | cons x0 l0 =>
    obtain ⟨j,o,cs,ha,hV,hp0⟩:=h 0 x0 rfl
    refine ⟨j,o,cs,ha,hV,?_⟩
    have hall:∀i x,(x0::l0)[i]?=some x→subL cs (o+i * sz) sz=some (enc x):=fun i x hx=>by
      obtain ⟨j',o',cs',h1,h2,h3⟩:=h i x hx
      have h1:a=some (j',o'):=h1
      have ha:a=some (j,o):=ha
      rw [ha] at h1
      injection h1 with h1;injection h1 with h1 h4;subst h1;subst h4
      rw [hV] at h2;injection h2 with h2;subst h2
      exact one_sub ho hl h3
    have ho0:o≤cs.length:=by have:=(subL_eq (hall 0 x0 rfl)).2.1;omega
    clear h ha hne hp0
    generalize x0::l0=L at hall
    clear x0 l0
    suffices hs:∀(L:List α) (p:Nat),p≤cs.length→(∀i x,L[i]?=some x→subL cs (p+i * sz) sz=some (enc x))→subL cs p (L.length * sz)=some (L.flatMap enc) from hs L o ho0 hall
    intro L
    induction L with
    | nil =>
      intro p hp _
      simp only [List.length_nil,Nat.zero_mul,List.flatMap_nil]
      unfold subL
      rw [dropL_mk2 cs p hp];rfl
    | cons x L ih =>
      intro p hp hx
      have h0:=hx 0 x rfl
      rw [Nat.zero_mul,Nat.add_zero] at h0
      have h1:=ih (p+sz) (subL_eq h0).2.1 fun i y hy=>by
        have:=hx (i+1) y (by simpa using hy)
        rw [show p+(i+1) * sz=p+sz+i * sz by rw [Nat.succ_mul];omega] at this
        exact this
      have:=subL_cat h0 h1
      rw [List.flatMap_cons,List.length_cons,show (L.length+1) * sz=sz+L.length * sz by rw [Nat.succ_mul];omega]
      exact this
theorem src_in {α:Type} {enc:α→List AV} {one:α→AV} {ag:Bool} {sz:Nat} (ho:AsOne ag enc one) (hl:∀a,(enc a).length=sz) {s:Sl α} (h:s.In V ag sz one):∀F st,Mem V F Δ st→srcCells sz s.l.length s.v st.hp=some (s.l.flatMap enc):=fun F st hM=>by
  by_cases he:s.l=[]
  · rw [he];exact src_none he _
  · obtain ⟨j,o,cs,h1,h2,h3⟩:=In_sub ho hl h he
    have:=src_view (c:=s.c) (len:=s.l.length) h2 h3 F st hM
    unfold Sl.v
    rw [h1];exact this
variable {t u el eu sz by_ m len:Nat} {z w:AV} {zl news:List AV} {td:TD} {z1 z1' z5:Bool} {z2 z3 z2' z6:Nat} {z4 z4':Option AV}
theorem takeL_all {α:Type}:∀(l:List α),takeL l.length l=some l
  | []=>rfl
  | x::l=>by
    show consO x (takeL l.length l)=_
    rw [takeL_all l];rfl
theorem W.appG {α:Type} {enc:α→List AV} {i:K} {l m:List α} (Δ1:Dm) {Δ0:Dm} (hT:TabOk P tb) (hx:eg Γ x=some (gS i l).v) (hy:eg Γ y=some w) (hm:lenA w=some m.length) (ht:ti tb t=some ⟨.sl el,z1,z2,z3,z4⟩) (hu:ti tb u=some ⟨.sl eu,z1',z2',z6,z4'⟩) (he:ti tb el=some ⟨td,z5,sz,by_,some z⟩) (hz:partsO z=some zl)
    (hc:zl.length=sz∧0<sz∧0<by_) (hb:(l.length+m.length) * by_≤140737488355328) (hl:∀a,(enc a).length=sz) (hsrc:∀F s,Mem V F (Δ1++(gD enc el sz i l++Δ0)) s→srcCells sz m.length w s.hp=some (m.flatMap enc)) (hw0:m=[]→∀h,srcCells sz 0 w h=some []) (hlf:allLeaf (m.flatMap enc)=true)
    (hn:Nat.ble (d+1) n=true) (hw:wantG all Γ ⟨some d,.call ⟨.builtin .append,#[x,y],#[t,u]⟩,ty,pos,after,gd⟩=some true)
    (h:∀i',W P g n V rs (.o b all rest::st) .nrm ((d,(gS i' (l++m)).v)::Γ) (Δ1++(gD enc el sz i' (l++m)++Δ0)) Q) (hkp:keepPos pos=false:=by rfl):W P g n V rs (.o b all (⟨some d,.call ⟨.builtin .append,#[x,y],#[t,u]⟩,ty,pos,after,gd⟩::rest)::st) .nrm Γ (Δ1++(gD enc el sz i l++Δ0)) Q:=by
  have hperm:∀(X:Dm),(Δ1++(X++Δ0)).Perm (X++(Δ1++Δ0)):=fun X=>by
    rw [←List.append_assoc,←List.append_assoc]
    exact List.Perm.append_right _ List.perm_append_comm
  cases m with
  | nil =>
    refine W.app0 hT hx hy hm ht hu he hz hc ?_ (fun ha=>?_) (hw0 rfl) hn hw ?_
    · rw [gS_l]
      exact Nat.le_trans (Nat.mul_le_mul_right _ (by simp)) hb
    · cases l with
      | nil=>rfl
      | cons a l=>cases ha
    · have:=h i
      rw [List.append_nil] at this
      exact this
  | cons a m =>
    cases l with
    | nil =>
      refine W.appN hT hx hy hm ht hu he hz hc (by simp) (by simpa using hb) hsrc hlf hn hw fun i'=>?_
      refine W.perm _ ?_ (h i')
      exact hperm [_]
    | cons a' l =>
      refine W.perm _ (hperm [_]).symm ?_
      have hold:takeL ((a'::l).length * sz) ((a'::l).flatMap enc)=some ((a'::l).flatMap enc):=by
        rw [←flat_len enc sz _ (fun x _=>hl x)];exact takeL_all _
      refine W.appO (hkp:=hkp) hT (len:=(a'::l).length) hx hy hm ht hu he hz hc (by simp) (by simpa using hb) hold (fun F s hM=>hsrc F s (hM.perm (hperm [_]))) hlf hn hw fun i'=>?_
      have h9:=W.perm (Δ:=gD enc el sz i' (a'::l++a::m)++(Δ1++Δ0)) _ (hperm _) (h i')
      rw [←List.flatMap_append]
      have e:(gS i' (a'::l++a::m)).v=.slice (some (i',0)) ((a'::l).length+(a::m).length) (.own 0):=by
        show AV.slice (some (i',0)) (a'::l++a::m).length (.own 0)=_
        rw [List.length_append]
      rw [e] at h9
      exact h9
theorem W.sw (A B C R:Dm) (h:W P g n V rs st e Γ (A++(C++(B++R))) Q):W P g n V rs st e Γ (A++(B++(C++R))) Q:=by
  refine W.perm _ ?_ h
  refine List.Perm.append_left _ ?_
  rw [←List.append_assoc,←List.append_assoc]
  exact List.Perm.append_right _ List.perm_append_comm
theorem W.sw2 (A B C S R:Dm) (h:W P g n V rs st e Γ (A++(S++(B++(C++R)))) Q):W P g n V rs st e Γ (A++(B++(C++(S++R)))) Q:=by
  refine W.perm _ ?_ h
  refine List.Perm.append_left _ ?_
  have e:B++(C++(S++R))=(B++C)++(S++R):=by simp
  have e2:S++(B++(C++R))=S++((B++C)++R):=by simp
  rw [e,e2,←List.append_assoc (B++C) S R,←List.append_assoc S (B++C) R]
  exact List.Perm.append_right _ List.perm_append_comm
end
end Go.Proofs.YtoegffiapnnkiaaGreat.Abs
namespace Go.Proofs.YtoegffiapnnkiaaGreat.Abs
open Go
set_option linter.unusedVariables false
set_option linter.unusedSimpArgs false
theorem zr {α:Sort _} {a:α}:a=a:=rfl
theorem zt:TabOk Tryz.prog tbl:=tblOk
abbrev za:=@W.seq
abbrev zb:=@W.region
abbrev zc:=@W.onil
abbrev zd:=@W.skip
abbrev ze:=@W.block
abbrev zf:=@W.bnrm
abbrev zg:=@W.bexit
abbrev zh:=@W.exit
abbrev zi:=@W.cexit
abbrev zj:=@W.ret
abbrev zk:=@W.cret
abbrev zl:=@W.bret
abbrev zw:=@W.draw
abbrev zx:=@W.sk
section
variable {g:Cg} {n:Nat} {V:K→Option (List AV)} {rs:List ResultVar} {st:List Fr} {Γ:Gm} {Δ:Dm} {Q:RO→Dm→Prop} {b:Bool} {all rest:List Oper} {ty:TypeId} {pos:String} {after:Array Edge} {gd:Option (Nat×Bool)} {d t:Nat} {x y:Operand}
theorem ym {o:Oper} {v:AV} (q:(opG tbl Γ o.op,o.dst,Nat.ble (d+1) n,wantG all Γ o)=(some v,some d,true,some true)) (h:W Tryz.prog g n V rs (.o b all rest::st) .nrm ((d,v)::Γ) Δ Q):W Tryz.prog g n V rs (.o b all (o::rest)::st) .nrm Γ Δ Q:=by
  simp only [Prod.mk.injEq] at q
  exact W.p zt q.1 q.2.1 q.2.2.1 q.2.2.2 h
theorem yn (p:Nat) {i:K} {j:Nat} {bk:Bk} {cs:List AV} {v:AV} (q:(eg Γ x,getL Δ p,rdl bk,partG tbl t cs j,Nat.ble (d+1) n,wantG all Γ ⟨some d,.load t x,ty,pos,after,gd⟩)=(some (.ptr (some (i,j))),some (i,bk),some cs,some v,true,some true))
    (h:W Tryz.prog g n V rs (.o b all rest::st) .nrm ((d,v)::Γ) Δ Q):W Tryz.prog g n V rs (.o b all (⟨some d,.load t x,ty,pos,after,gd⟩::rest)::st) .nrm Γ Δ Q:=by
  simp only [Prod.mk.injEq] at q
  exact W.ldO zt p q.1 q.2.1 q.2.2.1 q.2.2.2.1 q.2.2.2.2.1 q.2.2.2.2.2 h
theorem yo {v:AV} {l:List AV} {m:Nat} (q:(eg Γ x,partsO v,some (lenL l),Nat.ble (d+1) n,wantG all Γ ⟨some d,.box t x,ty,pos,after,gd⟩)=(some v,some l,some m,true,some true))
    (h:∀i,W Tryz.prog g n V rs (.o b all rest::st) .nrm ((d,.ptr (some (i,0)))::Γ) ((i,.cells l t m true)::Δ) Q):W Tryz.prog g n V rs (.o b all (⟨some d,.box t x,ty,pos,after,gd⟩::rest)::st) .nrm Γ Δ Q:=by
  simp only [Prod.mk.injEq] at q
  exact W.box q.1 q.2.1 q.2.2.1 q.2.2.2.1 q.2.2.2.2 h
theorem yp {l:List AV} {z:AV} {m:Nat} {td:TD} {z1:Bool} {z2 z3:Nat} (q:(ti tbl t,partsO z,some (lenL l),Nat.ble (d+1) n,wantG all Γ ⟨some d,.alloc t,ty,pos,after,gd⟩)=(some ⟨td,z1,z2,z3,some z⟩,some l,some m,true,some true))
    (h:∀i,W Tryz.prog g n V rs (.o b all rest::st) .nrm ((d,.ptr (some (i,0)))::Γ) ((i,.cells l t m true)::Δ) Q):W Tryz.prog g n V rs (.o b all (⟨some d,.alloc t,ty,pos,after,gd⟩::rest)::st) .nrm Γ Δ Q:=by
  simp only [Prod.mk.injEq] at q
  exact W.alloc zt q.1 q.2.1 q.2.2.1 q.2.2.2.1 q.2.2.2.2 h
theorem yq {i:K} {j el z sz:Nat} {f:Bool} {l l' ps:List AV} {v:AV} {td:TD} {z1:Bool} {z3:Nat} {z4:Option AV} (q:(eg Γ x,eg Γ y,ti tbl t,wantG all Γ ⟨none,.store t x y,ty,pos,after,gd⟩,partsO v,Nat.beq (lenL ps) sz,allLeaf ps,setLs l j ps)=(some (.ptr (some (i,j))),some v,some ⟨td,z1,sz,z3,z4⟩,some true,some ps,true,true,some l'))
    (h:W Tryz.prog g n V rs (.o b all rest::st) .nrm Γ ((i,.cells l' el z f)::Δ) Q):W Tryz.prog g n V rs (.o b all (⟨none,.store t x y,ty,pos,after,gd⟩::rest)::st) .nrm Γ ((i,.cells l el z f)::Δ) Q:=by
  simp only [Prod.mk.injEq] at q
  exact W.stF zt q.1 q.2.1 q.2.2.1 q.2.2.2.1 q.2.2.2.2.1 q.2.2.2.2.2.1 q.2.2.2.2.2.2.1 q.2.2.2.2.2.2.2 h
variable {x1 x2 x3:K×Bk}
theorem ys {i:K} {j el z sz:Nat} {f:Bool} {l l' ps:List AV} {v:AV} {td:TD} {z1:Bool} {z3:Nat} {z4:Option AV} (q:(eg Γ x,eg Γ y,ti tbl t,wantG all Γ ⟨none,.store t x y,ty,pos,after,gd⟩,partsO v,Nat.beq (lenL ps) sz,allLeaf ps,setLs l j ps)=(some (.ptr (some (i,j))),some v,some ⟨td,z1,sz,z3,z4⟩,some true,some ps,true,true,some l'))
    (h:W Tryz.prog g n V rs (.o b all rest::st) .nrm Γ ((i,.cells l' el z f)::x1::Δ) Q):W Tryz.prog g n V rs (.o b all (⟨none,.store t x y,ty,pos,after,gd⟩::rest)::st) .nrm Γ (x1::(i,.cells l el z f)::Δ) Q:=W.fr1 (yq q h)
theorem yu {i:K} {j el z sz:Nat} {f:Bool} {l l' ps:List AV} {v:AV} {td:TD} {z1:Bool} {z3:Nat} {z4:Option AV} (q:(eg Γ x,eg Γ y,ti tbl t,wantG all Γ ⟨none,.store t x y,ty,pos,after,gd⟩,partsO v,Nat.beq (lenL ps) sz,allLeaf ps,setLs l j ps)=(some (.ptr (some (i,j))),some v,some ⟨td,z1,sz,z3,z4⟩,some true,some ps,true,true,some l'))
    (h:W Tryz.prog g n V rs (.o b all rest::st) .nrm Γ ((i,.cells l' el z f)::x1::x2::Δ) Q):W Tryz.prog g n V rs (.o b all (⟨none,.store t x y,ty,pos,after,gd⟩::rest)::st) .nrm Γ (x1::x2::(i,.cells l el z f)::Δ) Q:=W.fr2 (yq q h)
end
end Go.Proofs.YtoegffiapnnkiaaGreat.Abs
