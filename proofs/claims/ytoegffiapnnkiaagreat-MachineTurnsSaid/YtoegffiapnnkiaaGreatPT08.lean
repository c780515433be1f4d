/- Parts of one proof. No condition but those that each theorem names. -/
import Derived.Test.YtoegffiapnnkiaaGreatPT07
set_option linter.unusedVariables false
set_option linter.unusedSimpArgs false
namespace Go.Proofs.YtoegffiapnnkiaaGreat.Abs
open Go
variable {P:Program} {g:Cg} {n:Nat} {V:K→Option (List AV)} {rs:List ResultVar} {st:List Fr} {e:Ex} {Γ Γ':Gm} {Δ Δ' R:Dm} {Q Q':RO→Dm→Prop} {tb:T TI} {b:Bool} {all rest:List Oper}
variable {ty:TypeId} {pos:String} {after:Array Edge} {gd:Option (Nat×Bool)} {d:Nat} {x y:Operand}
section
variable {t u el eu sz by_ m len:Nat} {z w:AV} {zl news:List AV} {td:TD} {z1 z1' z5:Bool} {z2 z3 z2' z6:Nat} {z4 z4':Option AV}
def Grown (bk:Bk) (l:List AV) (el sz q:Nat):Prop:=(bk=.cells l el sz false∧q=0)∨bk=.kept l el sz q
theorem Grown.get {h:T Bk} {i:K} {bk:Bk} {l:List AV} {q:Nat} (hg:Grown bk l el sz q) (hi:T.get h i=some bk):grownK h i=some (l,el,sz,q):=by
  unfold grownK
  rw [hi]
  rcases hg with ⟨rfl,rfl⟩|rfl<;>rfl
theorem Grown.rdl {bk:Bk} {l:List AV} {q:Nat} (hg:Grown bk l el sz q):Abs.rdl bk=some l:=by
  rcases hg with ⟨rfl,rfl⟩|rfl<;>rfl
theorem W.appK (hT:TabOk P tb) {i:K} {bk:Bk} {q:Nat} {l old:List AV} (hg:Grown bk l el sz q) (hx:eg Γ x=some (.slice (some (i,0)) len (.own 0))) (hy:eg Γ y=some w) (hm:lenA w=some m) (ht:ti tb t=some ⟨.sl el,z1,z2,z3,z4⟩) (hu:ti tb u=some ⟨.sl eu,z1',z2',z6,z4'⟩) (he:ti tb el=some ⟨td,z5,sz,by_,some z⟩) (hz:partsO z=some zl)
    (hc:zl.length=sz∧0<sz∧0<by_) (hm0:0<m) (hb:(len+m) * by_≤140737488355328) (hq:q≤len * sz) (hold:takeL (len * sz) l=some old) (hsrc:∀F s,Mem V F ((i,bk)::Δ) s→srcCells sz m w s.hp=some news) (hlf:allLeaf news=true)
    (hn:Nat.ble (d+1) n=true) (hw:wantG all Γ ⟨some d,.call ⟨.builtin .append,#[x,y],#[t,u]⟩,ty,pos,after,gd⟩=some true)
    (h:∀i',W P g n V rs (.o b all rest::st) .nrm ((d,.slice (some (i',0)) (len+m) (.own 0))::Γ) ((i',.kept (old++news) el sz (len * sz))::(i,.view old)::Δ) Q) (hkp:keepPos pos=true:=by rfl):W P g n V rs (.o b all (⟨some d,.call ⟨.builtin .append,#[x,y],#[t,u]⟩,ty,pos,after,gd⟩::rest)::st) .nrm Γ ((i,bk)::Δ) Q :=
  W.op hw hn fun F s tm hM hG=>⟨.slice (some (s.nx,0)) (len+m) (.own 0),newB (setB s i (.view old)) (.kept (old++news) el sz (len * sz)),(s.nx,.kept (old++news) el sz (len * sz))::(i,.view old)::Δ,⟨0,fun k _=>by
    obtain ⟨inf,i1,i2,i3⟩:=(hT.get he).info
    have hgt:len+m≤9223372036854775807:=Nat.le_trans (Nat.le_mul_of_pos_right (len+m) hc.2.2) (by omega)
    have hi:=hM.own (i,bk) (by simp)
    have key:opAppendK P [t,u] (.slice (some (i,0)) len (.own 0)) w s=some (.slice (some (s.nx,0)) (len+m) (.own 0),newB (setB s i (.view old)) (.kept (old++news) el sz (len * sz))):=by
      have hz':=partsO_eq hz
      have hif:(z.parts.length=inf.size∧0<inf.size∧0<inf.bytes∧len+m≤9223372036854775807∧(len+m) * inf.bytes≤140737488355328):=by
        rw [hz',i2,i3];exact ⟨hc.1,hc.2.1,hc.2.2,hgt,hb⟩
      simp only [opAppendK,hT.sl ht,hT.sl hu,notInt,hm,i1,(hT.get he).zero z rfl,if_pos hif]
      rw [i2,hsrc F s hM]
      simp only [hlf,if_neg (Nat.pos_iff_ne_zero.1 hm0),hg.get hi,hq,and_self,if_true,hold]
      rfl
    have ha:evs tm [x,y]=some [.slice (some (i,0)) len (.own 0),w]:=by
      show cons2 (ev tm x) (cons2 (ev tm y) (some []))=_
      rw [hG.eg hx,hG.eg hy];rfl
    exact opQ_app ha (fun hk=>by rw [hkp] at hk;cases hk) (fun _=>key)⟩,(hM.set (c:=.view old) trivial).alloc trivial,h s.nx⟩
theorem W.appC (hT:TabOk P tb) {i:K} {o k:Nat} {bk:Bk} {l old:List AV} (hx:eg Γ x=some (.slice (some (i,o)) len (.ex k))) (hy:eg Γ y=some w) (hm:lenA w=some m) (ht:ti tb t=some ⟨.sl el,z1,z2,z3,z4⟩) (hu:ti tb u=some ⟨.sl eu,z1',z2',z6,z4'⟩) (he:ti tb el=some ⟨td,z5,sz,by_,some z⟩) (hz:partsO z=some zl)
    (hc:zl.length=sz∧0<sz∧0<by_) (hm0:0<m) (hb:(len+m) * by_≤140737488355328) (hk:k<len+m) (hlk:len≤k) (hi:(i,bk)∈Δ) (hr:rdl bk=some l) (hold:subL l o (len * sz)=some old) (hsrc:∀F s,Mem V F Δ s→srcCells sz m w s.hp=some news) (hlf:allLeaf news=true)
    (hn:Nat.ble (d+1) n=true) (hw:wantG all Γ ⟨some d,.call ⟨.builtin .append,#[x,y],#[t,u]⟩,ty,pos,after,gd⟩=some true)
    (h:∀i',W P g n V rs (.o b all rest::st) .nrm ((d,.slice (some (i',0)) (len+m) (.own 0))::Γ) ((i',.cells (old++news) el sz false)::Δ) Q):W P g n V rs (.o b all (⟨some d,.call ⟨.builtin .append,#[x,y],#[t,u]⟩,ty,pos,after,gd⟩::rest)::st) .nrm Γ Δ Q :=
  W.op hw hn fun F s tm hM hG=>⟨.slice (some (s.nx,0)) (len+m) (.own 0),newB s (.cells (old++news) el sz false),(s.nx,.cells (old++news) el sz false)::Δ,⟨0,fun k' _=>by
    obtain ⟨inf,i1,i2,i3⟩:=(hT.get he).info
    have hgt:len+m≤9223372036854775807:=Nat.le_trans (Nat.le_mul_of_pos_right (len+m) hc.2.2) (by omega)
    have hcl:cellsAt s.hp i=some l:=by unfold cellsAt;rw [hM.own _ hi];exact hr
    have key:opAppend P [t,u] (.slice (some (i,o)) len (.ex k)) w s=some (.slice (some (s.nx,0)) (len+m) (.own 0),newB s (.cells (old++news) el sz false)):=by
      have hz':=partsO_eq hz
      have hif:(z.parts.length=inf.size∧0<inf.size∧0<inf.bytes∧len+m≤9223372036854775807∧(len+m) * inf.bytes≤140737488355328):=by
        rw [hz',i2,i3];exact ⟨hc.1,hc.2.1,hc.2.2,hgt,hb⟩
      simp only [opAppend,hT.sl ht,hT.sl hu,notInt,hm,i1,(hT.get he).zero z rfl,if_pos hif]
      rw [i2,hsrc F s hM]
      simp only [hlf,if_neg (Nat.pos_iff_ne_zero.1 hm0),if_neg (show ¬len+m≤k by omega),if_pos hlk,hcl,hold]
    have ha:evs tm [x,y]=some [.slice (some (i,o)) len (.ex k),w]:=by
      show cons2 (ev tm x) (cons2 (ev tm y) (some []))=_
      rw [hG.eg hx,hG.eg hy];rfl
    refine opQ_app ha (fun _=>key) (fun _=>?_)
    unfold opAppendK
    split
    · rename_i e2;injection e2 with e5 e6 e7;cases e7
    · exact key⟩,hM.alloc trivial,h s.nx⟩
end
end Go.Proofs.YtoegffiapnnkiaaGreat.Abs
namespace Go.Proofs.YtoegffiapnnkiaaGreat.Abs
open Go
set_option linter.unusedVariables false
set_option linter.unusedSimpArgs false
section
variable {P:Program} {g:Cg} {n:Nat} {V:K→Option (List AV)} {rs:List ResultVar} {st:List Fr} {e:Ex} {Γ Γ':Gm} {Δ Δ' R:Dm} {Q Q':RO→Dm→Prop} {tb:T TI} {b:Bool} {all rest:List Oper}
variable {ty:TypeId} {pos:String} {after:Array Edge} {gd:Option (Nat×Bool)} {d:Nat} {x y:Operand} {t:TypeId}
theorem W.lendW (Δ R:Dm) (h:W P g n (withV V R) rs st e Γ Δ fun o Δ'=>Q o (Δ'++R)):W P g n V rs st e Γ (Δ++R) Q:=fun F s tm hM hT=>by
  obtain ⟨o,Δ',s',hq,hm,out,h1,h2⟩:=h (withD F R) s tm hM.lend hT
  have hs:∀i∈names R,i∈names (Δ++R):=fun i hi=>by simp only [names,List.map_append,List.mem_append];exact .inr hi
  exact ⟨o,Δ'++R,s',hq,hm.unlend hM.nodupR (fun x hx=>hM.ownB x (by simp [hx])) (fun i hi=>hM.apart i (hs i hi)) (fun i hi=>hM.vapart i (hs i hi)),out,h1,h2⟩
theorem W.ldM (hT:TabOk P tb) {i:K} {q:Nat} {bk:Bk} {cs:List AV} {v:AV} (hx:eg Γ x=some (.ptr (some (i,q)))) (hΔ:(i,bk)∈Δ) (hr:rdl bk=some cs) (hp:partG tb t cs q=some v)
    (hn:Nat.ble (d+1) n=true) (hw:wantG all Γ ⟨some d,.load t x,ty,pos,after,gd⟩=some true)
    (h:W P g n V rs (.o b all rest::st) .nrm ((d,v)::Γ) Δ Q):W P g n V rs (.o b all (⟨some d,.load t x,ty,pos,after,gd⟩::rest)::st) .nrm Γ Δ Q :=
  W.op hw hn fun F s tm hM hG=>⟨v,s,Δ,⟨0,fun k _=>load_ok hT hG hx (hM.own _ hΔ) hr hp (callA P g (exec P g k))⟩,hM,h⟩
theorem W.bldA (hT:TabOk P tb) {len el sz:Nat} {ps:Array (Nat×Operand)} {pl:List (Nat×AV)} {cs:List AV} {z:AV} {td:TD} {z1 z5:Bool} {z2 z3 z6:Nat} {z7:Option AV} (hp:egParts Γ ps.toList=some pl) (ht:ti tb t=some ⟨.arr len el,z1,z2,z3,some z⟩) (he:ti tb el=some ⟨td,z5,sz,z6,z7⟩) (hf:fillA (fun i=>some (i * sz,sz)) z.parts pl=some cs)
    (hn:Nat.ble (d+1) n=true) (hw:wantG all Γ ⟨some d,.build t ps,ty,pos,after,gd⟩=some true)
    (h:W P g n V rs (.o b all rest::st) .nrm ((d,.agg cs)::Γ) Δ Q):W P g n V rs (.o b all (⟨some d,.build t ps,ty,pos,after,gd⟩::rest)::st) .nrm Γ Δ Q :=
  W.pure rfl hn hw (fun tm s call hG=>by
    show ofO (opBuild P t (evParts tm ps.toList)) s=_
    unfold opBuild
    simp only [egParts_ok hG hp,(hT.get ht).zero z rfl,hT.arr ht,(hT.get he).size,hf];rfl) h
theorem W.idxA (hT:TabOk P tb) {len el sz:Nat} {ix:Operand} {l:List AV} {i:Int} {k:IntKind} {v:AV} {td:TD} {z1 z5:Bool} {z2 z3 z6:Nat} {z4 z7:Option AV} (hx:eg Γ x=some (.agg l)) (hi:eg Γ ix=some (.int k i)) (ht:ti tb t=some ⟨.arr len el,z1,z2,z3,z4⟩) (he:ti tb el=some ⟨td,z5,sz,z6,z7⟩)
    (hn:Nat.ble (d+1) n=true) (hw:wantG all Γ ⟨some d,.index t x ix,ty,pos,after,gd⟩=some true) (h0:0≤i) (h1:i<len) (hv:partG tb el l (i.toNat * sz)=some v)
    (h:W P g n V rs (.o b all rest::st) .nrm ((d,v)::Γ) Δ Q):W P g n V rs (.o b all (⟨some d,.index t x ix,ty,pos,after,gd⟩::rest)::st) .nrm Γ Δ Q :=
  W.pure rfl hn hw (fun tm s call hG=>by
    obtain ⟨m,rfl⟩:=Int.eq_ofNat_of_zero_le h0
    have hlt:Nat.blt m len=true:=by rw [Nat.blt_eq];omega
    show ofO (opIndex P t (ev tm x) (ev tm ix)) s=_
    rw [hG.eg hx,hG.eg hi]
    show ofO (opIndex P t (some (.agg l)) (some (.int k (Int.ofNat m)))) s=_
    have hv':=partG_ok hT hv
    rw [Int.toNat_natCast] at hv'
    simp only [opIndex,hT.arr ht,hlt,(hT.get he).size]
    rw [show Nat.mul m sz=m * sz from rfl,hv'];rfl) h
theorem W.cutS (hT:TabOk P tb) {i:K} {o len m el:Nat} {c:Cp} {k:IntKind} {hi:Operand} {td:TD} {z1 z5:Bool} {z2 z3 sz by_:Nat} {z4 z4':Option AV} (hx:eg Γ x=some (.slice (some (i,o)) len c)) (hh:eg Γ hi=some (.int k (m:Int))) (ht:ti tb t=some ⟨.sl el,z1,z2,z3,z4⟩) (he:ti tb el=some ⟨td,z5,sz,by_,z4'⟩) (hm:m≤capM c len)
    (hn:Nat.ble (d+1) n=true) (hw:wantG all Γ ⟨some d,.slice t x none (some hi) none,ty,pos,after,gd⟩=some true)
    (h:W P g n V rs (.o b all rest::st) .nrm ((d,.slice (some (i,o)) m c)::Γ) Δ Q):W P g n V rs (.o b all (⟨some d,.slice t x none (some hi) none,ty,pos,after,gd⟩::rest)::st) .nrm Γ Δ Q :=
  W.pure rfl hn hw (fun tm s' call hG=>by
    have hb:bound1 (capM c len) len (some (.int k (m:Int)))=some m:=by
      show (if 0≤(m:Int)∧(m:Int)≤(capM c len:Int) then some (m:Int).toNat else none)=_
      rw [if_pos ⟨by omega,by omega⟩];rfl
    have hb2:bound1 m 0 none=some 0:=rfl
    show ofO (opSlice P t (ev tm x) (some none) (evO tm (some hi)) (some none)) s'=_
    have e:evO tm (some hi)=some (some (.int k (m:Int))):=by
      show (match ev tm hi with|some v=>some (some v)|none=>none)=_
      rw [hG.eg hh]
    rw [hG.eg hx,e]
    simp only [opSlice,hT.sl ht,(hT.get he).size,hb,hb2,if_true];rfl) h
theorem part_leaf {td:TD} {z1 z3:Nat} {z4:Option AV} {q:Nat} {cs:List AV} {v:AV} (h:ti tb t=some ⟨td,false,z1,z3,z4⟩) (hv:cs[q]?=some v):partG tb t cs q=some v:=by
  unfold partG
  rw [h]
  show getL cs q=_
  rw [getL_eq];exact hv
theorem num_in0 {s:Sl Int} (h:s.In V false 1 (AV.int .i64)) {a:Int} (h0:0≤a) (h1:a<s.l.length):∃j o cs,s.a=some (j,o)∧V j=some cs∧partG tbl 2 cs (o+a.toNat * 1)=some (.int .i64 (s.l.getD a.toNat 0)):=by
  have he:s.l[a.toNat]?=some (s.l.getD a.toNat 0):=by
    rw [List.getD_eq_getElem?_getD,List.getElem?_eq_getElem (by omega)];rfl
  exact h a.toNat _ he
theorem setLs_one (v:AV):∀(l:List AV) (i:Nat),i<l.length→setLs l i [v]=some (l.set i v)
  | [],i,h=>by simp at h
  | x::l,0,h=>by
    show consO v (setLs l 0 [])=_
    cases l<;>rfl
  | x::l,i+1,h=>by
    show consO x (setLs l i [v])=_
    rw [setLs_one v l i (by simpa using h)];rfl
end
section
variable {P:Program} {g:Cg} {n:Nat} {V:K→Option (List AV)} {rs:List ResultVar} {st:List Fr} {Γ:Gm} {Δ:Dm} {Q:RO→Dm→Prop}
theorem W.dropE (Δ':Dm) (hd:Δ'.Sublist Δ) {e:Ex} (h:W P g n V rs st e Γ Δ' Q):W P g n V rs st e Γ Δ Q:=fun F s tm hM hT=>h F s tm (hM.drop hd) hT
theorem W.wk {Γ':Gm} {Δ':Dm} {e:Ex} (h:W P g n V rs st e Γ' Δ' Q) (hk:Knows Γ Γ') (hd:Δ'.Sublist Δ):W P g n V rs st e Γ Δ Q:=W.weak Γ' Δ' hk hd h
theorem W.ind {α:Type} (μ:α→Nat) (G:α→Gm) (D:α→Dm) (a0:α) {e:Ex} (hk:Knows Γ (G a0)) (hd:(D a0).Sublist Δ)
    (step:∀a,(∀a',μ a'<μ a→W P g n V rs st e (G a') (D a') Q)→W P g n V rs st e (G a) (D a) Q):W P g n V rs st e Γ Δ Q:=by
  refine W.weak (G a0) (D a0) hk hd ?_
  have key:∀m a,μ a<m→W P g n V rs st e (G a) (D a) Q:=fun m=>by
    induction m with
    | zero=>intro a h;omega
    | succ m ih=>exact fun a h=>step a fun a' h'=>ih a' (by omega)
  exact key (μ a0+1) a0 (by omega)
theorem W.loopF {c:Code} (A:Gm→Dm→Prop) (h2:∀Γ' Δ',A Γ' Δ'→W P g n V rs (.c (.loop c)::st) .nrm Γ' Δ' Q) (h1:(∀Γ' Δ',A Γ' Δ'→W P g n V rs (.c (.loop c)::st) .nrm Γ' Δ' Q)→W P g n V rs (.c (.loop c)::st) .nrm Γ Δ Q):W P g n V rs (.c (.loop c)::st) .nrm Γ Δ Q:=h1 h2
end
inductive OR where
  | nil
  | blk (j:K) (f own:Bool) (cs:List AV) (n room:Nat)
def OR.cp (own:Bool) (m:Nat):Cp:=if own=true then .own 0 else .ex m
def OR.v:OR→AV
  | .nil=>.slice none 0 (.ex 0)
  | .blk j f own cs n room=>.slice (some (j,0)) n (OR.cp own (n+room))
def OR.b (el sz:Nat):OR→Dm
  | .nil=>[]
  | .blk j f own cs n room=>[(j,.cells cs el sz f)]
def hdL (jl:K) (m:Nat):AV:=.slice (if m=0 then none else some (jl,0)) m (if m=0 then .ex 0 else .own 0)
def blL (jl:K) (bk:Bk) (m:Nat):Dm:=if m=0 then [] else [(jl,bk)]
theorem blL_in {jl:K} {bk:Bk} {m:Nat} (h:0<m):(jl,bk)∈blL jl bk m:=by unfold blL;rw [if_neg (by omega)];simp
structure DR where
  n:Nat
  c:Cp
  old:Option (K×Bk×List AV)
  i:K
  bk:Bk
  cs:List AV
def DR.v (r:DR):AV:=.slice (r.old.map fun x=>(x.1,0)) r.n r.c
def DR.w (m:Nat) (r:DR):AV:=.slice (some (r.i,0)) (r.n+m) (.own 0)
def DR.ob (r:DR):Dm:=match r.old with
  | none=>[]
  | some (j,bk,_)=>[(j,bk)]
def DR.b (r:DR):Dm:=(r.i,r.bk)::r.ob
theorem hdL_pos {il:K} {m:Nat} (h:0<m):hdL il m=.slice (some (il,0)) m (.own 0):=by unfold hdL;rw [if_neg (by omega),if_neg (by omega)]
theorem blL_pos {il:K} {bk:Bk} {m:Nat} (h:0<m):blL il bk m=[(il,bk)]:=by unfold blL;rw [if_neg (by omega)]
end Go.Proofs.YtoegffiapnnkiaaGreat.Abs
