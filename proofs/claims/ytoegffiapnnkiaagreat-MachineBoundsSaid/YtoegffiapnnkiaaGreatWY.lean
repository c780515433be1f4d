import Derived.Test.YtoegffiapnnkiaaGreatWW
set_option linter.unusedVariables false
set_option linter.unusedSimpArgs false
namespace Go.Proofs.YtoegffiapnnkiaaGreat.Abs
open Go
variable {P:Program} {g:Cg} {n:Nat} {V:K→Option (List AV)} {rs:List ResultVar} {st:List Fr} {e:Ex} {Γ Γ':Gm} {Δ Δ' R:Dm} {Q Q':RO→Dm→Prop} {tb:T TI} {b:Bool} {all rest:List Oper}
variable {ty:TypeId} {pos:String} {after:Array Edge} {gd:Option (Nat×Bool)} {d:Nat} {x y:Operand}
section
variable {t u el eu sz by_ m len:Nat} {z w:AV} {zl news:List AV} {td:TD} {z1 z1' z5:Bool} {z2 z3 z2' z6:Nat} {z4 z4':Option AV}
def Grown (bk:Bk) (l:List AV) (el sz q:Nat):Prop:=(bk=.cells l el sz false∧q=0)∨bk=.kept l el sz q
theorem Grown.get {h:T Bk} {i:K} {bk:Bk} {l:List AV} {q:Nat} (hg:Grown bk l el sz q) (hi:T.get h i=some bk):grownK h i=some (l,el,sz,q):=by
  unfold grownK
  rw [hi]
  rcases hg with ⟨rfl,rfl⟩|rfl<;>rfl
theorem Grown.rdl {bk:Bk} {l:List AV} {q:Nat} (hg:Grown bk l el sz q):Abs.rdl bk=some l:=by
  rcases hg with ⟨rfl,rfl⟩|rfl<;>rfl
theorem W.appK (hT:TabOk P tb) {i:K} {bk:Bk} {q:Nat} {l old:List AV} (hg:Grown bk l el sz q) (hx:eg Γ x=some (.slice (some (i,0)) len (.own 0))) (hy:eg Γ y=some w) (hm:lenA w=some m) (ht:ti tb t=some ⟨.sl el,z1,z2,z3,z4⟩) (hu:ti tb u=some ⟨.sl eu,z1',z2',z6,z4'⟩) (he:ti tb el=some ⟨td,z5,sz,by_,some z⟩) (hz:partsO z=some zl)
    (hc:zl.length=sz∧0<sz∧0<by_) (hm0:0<m) (hb:(len+m) * by_≤140737488355328) (hq:q≤len * sz) (hold:takeL (len * sz) l=some old) (hsrc:∀F s,Mem V F ((i,bk)::Δ) s→srcCells sz m w s.hp=some news) (hlf:allLeaf news=true)
    (hn:Nat.ble (d+1) n=true) (hw:wantG all Γ ⟨some d,.call ⟨.builtin .append,#[x,y],#[t,u]⟩,ty,pos,after,gd⟩=some true)
    (h:∀i',W P g n V rs (.o b all rest::st) .nrm ((d,.slice (some (i',0)) (len+m) (.own 0))::Γ) ((i',.kept (old++news) el sz (len * sz))::(i,.view old)::Δ) Q) (hkp:keepPos pos=true:=by rfl):W P g n V rs (.o b all (⟨some d,.call ⟨.builtin .append,#[x,y],#[t,u]⟩,ty,pos,after,gd⟩::rest)::st) .nrm Γ ((i,bk)::Δ) Q :=
  W.op hw hn fun F s tm hM hG=>⟨.slice (some (s.nx,0)) (len+m) (.own 0),newB (setB s i (.view old)) (.kept (old++news) el sz (len * sz)),(s.nx,.kept (old++news) el sz (len * sz))::(i,.view old)::Δ,⟨0,fun k _=>by
    obtain ⟨inf,i1,i2,i3⟩:=(hT.get he).info
    have hgt:len+m≤9223372036854775807:=Nat.le_trans (Nat.le_mul_of_pos_right (len+m) hc.2.2) (by omega)
    have hi:=hM.own (i,bk) (by simp)
    have key:opAppendK P [t,u] (.slice (some (i,0)) len (.own 0)) w s=some (.slice (some (s.nx,0)) (len+m) (.own 0),newB (setB s i (.view old)) (.kept (old++news) el sz (len * sz))):=by
      have hz':=partsO_eq hz
      have hif:(z.parts.length=inf.size∧0<inf.size∧0<inf.bytes∧len+m≤9223372036854775807∧(len+m) * inf.bytes≤140737488355328):=by
        rw [hz',i2,i3];exact ⟨hc.1,hc.2.1,hc.2.2,hgt,hb⟩
      simp only [opAppendK,hT.sl ht,hT.sl hu,notInt,hm,i1,(hT.get he).zero z rfl,if_pos hif]
      rw [i2,hsrc F s hM]
      simp only [hlf,if_neg (Nat.pos_iff_ne_zero.1 hm0),hg.get hi,hq,and_self,if_true,hold]
      rfl
    have ha:evs tm [x,y]=some [.slice (some (i,0)) len (.own 0),w]:=by
      show cons2 (ev tm x) (cons2 (ev tm y) (some []))=_
      rw [hG.eg hx,hG.eg hy];rfl
    exact opQ_app ha (fun hk=>by rw [hkp] at hk;cases hk) (fun _=>key)⟩,(hM.set (c:=.view old) trivial).alloc trivial,h s.nx⟩
theorem W.appC (hT:TabOk P tb) {i:K} {o k:Nat} {bk:Bk} {l old:List AV} (hx:eg Γ x=some (.slice (some (i,o)) len (.ex k))) (hy:eg Γ y=some w) (hm:lenA w=some m) (ht:ti tb t=some ⟨.sl el,z1,z2,z3,z4⟩) (hu:ti tb u=some ⟨.sl eu,z1',z2',z6,z4'⟩) (he:ti tb el=some ⟨td,z5,sz,by_,some z⟩) (hz:partsO z=some zl)
    (hc:zl.length=sz∧0<sz∧0<by_) (hm0:0<m) (hb:(len+m) * by_≤140737488355328) (hk:k<len+m) (hlk:len≤k) (hi:(i,bk)∈Δ) (hr:rdl bk=some l) (hold:subL l o (len * sz)=some old) (hsrc:∀F s,Mem V F Δ s→srcCells sz m w s.hp=some news) (hlf:allLeaf news=true)
    (hn:Nat.ble (d+1) n=true) (hw:wantG all Γ ⟨some d,.call ⟨.builtin .append,#[x,y],#[t,u]⟩,ty,pos,after,gd⟩=some true)
    (h:∀i',W P g n V rs (.o b all rest::st) .nrm ((d,.slice (some (i',0)) (len+m) (.own 0))::Γ) ((i',.cells (old++news) el sz false)::Δ) Q):W P g n V rs (.o b all (⟨some d,.call ⟨.builtin .append,#[x,y],#[t,u]⟩,ty,pos,after,gd⟩::rest)::st) .nrm Γ Δ Q :=
  W.op hw hn fun F s tm hM hG=>⟨.slice (some (s.nx,0)) (len+m) (.own 0),newB s (.cells (old++news) el sz false),(s.nx,.cells (old++news) el sz false)::Δ,⟨0,fun k' _=>by
    obtain ⟨inf,i1,i2,i3⟩:=(hT.get he).info
    have hgt:len+m≤9223372036854775807:=Nat.le_trans (Nat.le_mul_of_pos_right (len+m) hc.2.2) (by omega)
    have hcl:cellsAt s.hp i=some l:=by unfold cellsAt;rw [hM.own _ hi];exact hr
    have key:opAppend P [t,u] (.slice (some (i,o)) len (.ex k)) w s=some (.slice (some (s.nx,0)) (len+m) (.own 0),newB s (.cells (old++news) el sz false)):=by
      have hz':=partsO_eq hz
      have hif:(z.parts.length=inf.size∧0<inf.size∧0<inf.bytes∧len+m≤9223372036854775807∧(len+m) * inf.bytes≤140737488355328):=by
        rw [hz',i2,i3];exact ⟨hc.1,hc.2.1,hc.2.2,hgt,hb⟩
      simp only [opAppend,hT.sl ht,hT.sl hu,notInt,hm,i1,(hT.get he).zero z rfl,if_pos hif]
      rw [i2,hsrc F s hM]
      simp only [hlf,if_neg (Nat.pos_iff_ne_zero.1 hm0),if_neg (show ¬len+m≤k by omega),if_pos hlk,hcl,hold]
    have ha:evs tm [x,y]=some [.slice (some (i,o)) len (.ex k),w]:=by
      show cons2 (ev tm x) (cons2 (ev tm y) (some []))=_
      rw [hG.eg hx,hG.eg hy];rfl
    refine opQ_app ha (fun _=>key) (fun _=>?_)
    unfold opAppendK
    split
    · rename_i e2;injection e2 with e5 e6 e7;cases e7
    · exact key⟩,hM.alloc trivial,h s.nx⟩
end
end Go.Proofs.YtoegffiapnnkiaaGreat.Abs
