/- Parts of one proof. No condition but those that each theorem names. -/
import Derived.Test.YtoegffiapnnkiaaGreatPE19
import Derived.Test.YtoegffiapnnkiaaGreatPE30
import Derived.Test.YtoegffiapnnkiaaGreatPE31
import Derived.Test.YtoegffiapnnkiaaGreatPE39
namespace Go.Proofs.YtoegffiapnnkiaaGreat.Abs
open Go
set_option linter.unusedVariables false
set_option linter.unusedSimpArgs false
set_option maxRecDepth 100000
structure Act where
  k:Int
  o:Int
  side:Int
  price:Int
  qty:Int
  slot:Int
def Act.cs (a:Act):List AV:=[.int .u8 a.k,.int .u8 a.o,.int .u8 a.side,.int .i64 a.price,.int .i64 a.qty,.int .i64 a.slot]
end Go.Proofs.YtoegffiapnnkiaaGreat.Abs
namespace Go.Proofs.YtoegffiapnnkiaaGreat.Abs
open Go
set_option linter.unusedVariables false
set_option linter.unusedSimpArgs false
set_option maxRecDepth 100000
set_option maxHeartbeats 4000000
section
variable {P:Program} {g:Cg} {n:Nat} {V:K→Option (List AV)} {rs:List ResultVar} {st:List Fr} {Γ:Gm} {Δ:Dm} {Q:RO→Dm→Prop} {b:Bool} {all rest:List Oper} {ty:TypeId} {pos:String} {after:Array Edge} {gd:Option (Nat×Bool)}
theorem W.callHe {dst:Option Nat} {fx:Operand} {xs:Array Operand} {tys:Array TypeId} {f:Nat} {first caps vs:List AV} {R:Dm} {Q1:RO→Dm→Prop} (hf:eg Γ fx=some (.func f first caps)) (ha:egs Γ xs.toList=some vs)
    (hd:dstOk n dst=true) (hw:wantG all Γ ⟨dst,.call ⟨.value fx,xs,tys⟩,ty,pos,after,gd⟩=some true)
    (hc:Cl P g (withV V R) f (first++vs++caps) Δ Q1)
    (hp:∀v Δ',Q1 (.pan v) Δ'→panOk P b all ⟨dst,.call ⟨.value fx,xs,tys⟩,ty,pos,after,gd⟩ rest=true∧Q (.pan v) (Δ'++R))
    (h:∀v Δ',Q1 (.ret v) Δ'→W P g n V rs (.o b all rest::st) .nrm (dstG dst v Γ) (Δ'++R) Q):W P g n V rs (.o b all (⟨dst,.call ⟨.value fx,xs,tys⟩,ty,pos,after,gd⟩::rest)::st) .nrm Γ (Δ++R) Q :=
  W.opX hw hd fun F s tm hM hG=>by
    obtain ⟨o,Δ1,s',h1,h2,k0,h3⟩:=hc _ s hM.lend
    have hj:=h2.unlend hM.nodupR (fun x hx=>hM.ownB x (by simp [hx])) (fun i hi=>hM.apart i (by simp only [names,List.map_append,List.mem_append];exact .inr hi)) (fun i hi=>hM.vapart i (by simp only [names,List.map_append,List.mem_append];exact .inr hi))
    have hop:∀k,k0≤k→opA (.call ⟨.value fx,xs,tys⟩) P (callA P g (exec P g k)) tm s=o.cr s':=fun k hk=>by
      show opCall P _ _ tm s=_
      unfold opCall
      simp only [hG.egs ha,hG.eg hf]
      exact h3 k hk
    cases o with
    | ret v=>exact .inl ⟨v,s',Δ1++R,⟨k0,hop⟩,hj,h v Δ1 h1⟩
    | pan v=>exact .inr ⟨v,s',Δ1++R,⟨k0,hop⟩,hj,hp v Δ1 h1⟩
end
attribute [local irreducible] W Cl Bd
variable {g:Cg} {V:K→Option (List AV)}
end Go.Proofs.YtoegffiapnnkiaaGreat.Abs
namespace Go.Proofs.YtoegffiapnnkiaaGreat.Abs
open Go
set_option linter.unusedVariables false
set_option linter.unusedSimpArgs false
set_option maxRecDepth 100000
set_option maxHeartbeats 4000000
theorem iC_map (l:List Int):l.flatMap iC=l.map (AV.int .i64):=by
  induction l with
  | nil=>rfl
  | cons x l ih=>rw [List.flatMap_cons,List.map_cons,←ih];rfl
theorem gD_pos {α:Type} {enc:α→List AV} {el sz:Nat} {i:K} {l:List α} (h:0<l.length):gD enc el sz i l=[(i,.cells (l.flatMap enc) el sz false)]:=by
  cases l with
  | nil=>simp at h
  | cons x l=>rfl
theorem gS_pos {α:Type} {i:K} {l:List α} (h:0<l.length):(gS i l).a=some (i,0):=by
  cases l with
  | nil=>simp at h
  | cons x l=>rfl
theorem set_iC {l:List Int} {n:Nat} (h:n<l.length) (v:Int):setLs (l.flatMap iC) n [.int .i64 v]=some ((l.set n v).flatMap iC):=by
  rw [iC_map,iC_map,setLs_one _ _ _ (by simpa using h),List.map_set]
attribute [local irreducible] W Cl Bd
variable {g:Cg} {V:K→Option (List AV)}
end Go.Proofs.YtoegffiapnnkiaaGreat.Abs
