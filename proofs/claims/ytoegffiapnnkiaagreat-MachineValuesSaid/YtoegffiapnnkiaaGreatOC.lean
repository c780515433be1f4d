/- A logic over the abstract machine: rows with room. No condition but those that each theorem names. -/
import Derived.Test.YtoegffiapnnkiaaGreatOA
namespace Go.Proofs.YtoegffiapnnkiaaGreat.Abs
open Go
set_option linter.unusedVariables false
set_option linter.unusedSimpArgs false
section
variable {P:Program} {g:Cg} {n:Nat} {V:K→Option (List AV)} {rs:List ResultVar} {st:List Fr} {Γ:Gm} {Δ:Dm} {Q:RO→Dm→Prop} {b:Bool} {all rest:List Oper} {ty:TypeId} {pos:String} {after:Array Edge} {gd:Option (Nat×Bool)} {d:Nat} {x y:Operand} {tb:T TI}
variable {t u el eu sz by_ m len cap:Nat} {z w:AV} {zl news:List AV} {td:TD} {z1 z1' z5:Bool} {z2 z3 z2' z6:Nat} {z4 z4':Option AV}
theorem W.mkE (hT:TabOk P tb) {kl kc:IntKind} (hl:eg Γ x=some (.int kl (len:Int))) (hc:eg Γ y=some (.int kc (cap:Int))) (ht:ti tb t=some ⟨.sl el,z1,z2,z3,z4⟩) (he:ti tb el=some ⟨td,z5,sz,by_,some z⟩) (hz:partsO z=some zl)
    (hle:len≤cap) (hb:by_ * cap≤281474976710656∧cap≤9223372036854775807) (hcc:zl.length=sz∧0<sz)
    (hn:Nat.ble (d+1) n=true) (hw:wantG all Γ ⟨some d,.makeSlice t x y,ty,pos,after,gd⟩=some true)
    (h:∀i,W P g n V rs (.o b all rest::st) .nrm ((d,.slice (some (i,0)) len (.ex cap))::Γ) ((i,.cells (repL cap zl) el sz true)::Δ) Q):W P g n V rs (.o b all (⟨some d,.makeSlice t x y,ty,pos,after,gd⟩::rest)::st) .nrm Γ Δ Q :=
  W.op hw hn fun F s tm hM hG=>⟨.slice (some (s.nx,0)) len (.ex cap),newB s (.cells (repL cap zl) el sz true),(s.nx,.cells (repL cap zl) el sz true)::Δ,⟨0,fun k _=>by
    obtain ⟨inf,i1,i2,i3⟩:=(hT.get he).info
    show ofP (opMakeSlice P t (ev tm x) (ev tm y) s)=_
    have hz':=partsO_eq hz
    have hif:(0:Int)≤(len:Int)∧(len:Int)≤(cap:Int)∧(cap:Int)≤9223372036854775807∧(by_:Int) * (cap:Int)≤281474976710656∧zl.length=sz∧0<sz:=by
      refine ⟨by omega,by omega,by omega,?_,hcc⟩
      have:=hb.1
      have e:((by_ * cap:Nat):Int)=(by_:Int) * (cap:Int):=Int.natCast_mul _ _
      omega
    rw [hG.eg hl,hG.eg hc]
    unfold opMakeSlice
    simp only [hT.sl ht,i1,(hT.get he).zero z rfl,hz',i2,i3,Int.toNat_natCast]
    rw [if_pos hif];rfl⟩,hM.alloc trivial,h s.nx⟩
theorem W.appE (hT:TabOk P tb) {i:K} {k:Nat} {f:Bool} {l l':List AV} (hx:eg Γ x=some (.slice (some (i,0)) len (.ex k))) (hy:eg Γ y=some w) (hm:lenA w=some m) (ht:ti tb t=some ⟨.sl el,z1,z2,z3,z4⟩) (hu:ti tb u=some ⟨.sl eu,z1',z2',z6,z4'⟩) (he:ti tb el=some ⟨td,z5,sz,by_,some z⟩) (hz:partsO z=some zl)
    (hc:zl.length=sz∧0<sz∧0<by_) (hm0:0<m) (hb:(len+m) * by_≤140737488355328) (hk:len+m≤k) (hset:setLs l (len * sz) news=some l') (hsrc:∀F s,Mem V F ((i,.cells l el sz f)::Δ) s→srcCells sz m w s.hp=some news) (hlf:allLeaf news=true)
    (hn:Nat.ble (d+1) n=true) (hw:wantG all Γ ⟨some d,.call ⟨.builtin .append,#[x,y],#[t,u]⟩,ty,pos,after,gd⟩=some true)
    (h:W P g n V rs (.o b all rest::st) .nrm ((d,.slice (some (i,0)) (len+m) (.ex k))::Γ) ((i,.cells l' el sz f)::Δ) Q):W P g n V rs (.o b all (⟨some d,.call ⟨.builtin .append,#[x,y],#[t,u]⟩,ty,pos,after,gd⟩::rest)::st) .nrm Γ ((i,.cells l el sz f)::Δ) Q :=
  W.op hw hn fun F s tm hM hG=>⟨.slice (some (i,0)) (len+m) (.ex k),setB s i (.cells l' el sz f),(i,.cells l' el sz f)::Δ,⟨0,fun _ _=>by
    obtain ⟨inf,i1,i2,i3⟩:=(hT.get he).info
    have hgt:len+m≤9223372036854775807:=Nat.le_trans (Nat.le_mul_of_pos_right (len+m) hc.2.2) (by omega)
    have hi:=hM.own (i,.cells l el sz f) (by simp)
    have key:opAppend P [t,u] (.slice (some (i,0)) len (.ex k)) w s=some (.slice (some (i,0)) (len+m) (.ex k),setB s i (.cells l' el sz f)):=by
      have hz':=partsO_eq hz
      have hif:(z.parts.length=inf.size∧0<inf.size∧0<inf.bytes∧len+m≤9223372036854775807∧(len+m) * inf.bytes≤140737488355328):=by
        rw [hz',i2,i3];exact ⟨hc.1,hc.2.1,hc.2.2,hgt,hb⟩
      simp only [opAppend,hT.sl ht,hT.sl hu,notInt,hm,i1,(hT.get he).zero z rfl,if_pos hif]
      rw [i2,hsrc F s hM]
      simp only [hlf,if_neg (Nat.pos_iff_ne_zero.1 hm0),hi,if_pos hk,Nat.zero_add,hset]
    have ha:evs tm [x,y]=some [.slice (some (i,0)) len (.ex k),w]:=by
      show cons2 (ev tm x) (cons2 (ev tm y) (some []))=_
      rw [hG.eg hx,hG.eg hy];rfl
    exact opQ_app ha (fun _=>key) (fun _=>key)⟩,hM.set trivial,h⟩
theorem W.capE (hT:TabOk P tb) {a:Option (K×Nat)} {k:Nat} (hx:eg Γ x=some (.slice a len (.ex k))) (ht:ti tb t=some ⟨.sl el,z1,z2,z3,z4⟩)
    (hn:Nat.ble (d+1) n=true) (hw:wantG all Γ ⟨some d,.call ⟨.builtin .cap,#[x],#[t]⟩,ty,pos,after,gd⟩=some true)
    (h:W P g n V rs (.o b all rest::st) .nrm ((d,.int .i64 (k:Nat))::Γ) Δ Q):W P g n V rs (.o b all (⟨some d,.call ⟨.builtin .cap,#[x],#[t]⟩,ty,pos,after,gd⟩::rest)::st) .nrm Γ Δ Q :=
  W.pure rfl hn hw (fun tm s call hG=>by
    have ha:evs tm [x]=some [.slice a len (.ex k)]:=by
      show cons2 (ev tm x) (some [])=_
      rw [hG.eg hx];rfl
    have key:opBuiltin P .cap [t] [.slice a len (.ex k)] s=.ret (.int .i64 (k:Nat)) s:=by
      simp only [opBuiltin,opCap,hT.sl ht];rfl
    show opCall P call ⟨.builtin .cap,#[x],#[t]⟩ tm s=_
    unfold opCall
    show (match Callee.builtin Builtin.cap,evs tm [x] with|.value f,some as_=>_|.builtin b,some as_=>opBuiltin P b [t] as_ s|_,_=>CR.no)=_
    rw [ha];exact key) h
end
end Go.Proofs.YtoegffiapnnkiaaGreat.Abs
