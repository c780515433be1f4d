/- Parts of one proof. No condition but those that each theorem names. -/
import Derived.Test.YtoegffiapnnkiaaGreatPE05
namespace Go.Proofs.YtoegffiapnnkiaaGreat.Abs
open Go
set_option linter.unusedVariables false
set_option linter.unusedSimpArgs false
set_option maxRecDepth 100000
theorem W.callV {P:Program} {g:Cg} {n:Nat} {V:K→Option (List AV)} {rs:List ResultVar} {st:List Fr} {Γ:Gm} {Δ:Dm} {Q:RO→Dm→Prop} {b:Bool} {all rest:List Oper} {ty:TypeId} {pos:String} {after:Array Edge} {gd:Option (Nat×Bool)} {d:Nat} {φ:AV→Prop} {fx:Operand} {xs:Array Operand} {tys:Array TypeId} {f:Nat} {first caps vs:List AV} (hf:eg Γ fx=some (.func f first caps)) (ha:egs Γ xs.toList=some vs)
    (hn:Nat.ble (d+1) n=true) (hw:wantG all Γ ⟨some d,.call ⟨.value fx,xs,tys⟩,ty,pos,after,gd⟩=some true)
    (hc:Cl P g V f (first++vs++caps) [] fun o _=>∃v,o=.ret v∧φ v)
    (h:∀v,φ v→W P g n V rs (.o b all rest::st) .nrm ((d,v)::Γ) Δ Q):W P g n V rs (.o b all (⟨some d,.call ⟨.value fx,xs,tys⟩,ty,pos,after,gd⟩::rest)::st) .nrm Γ Δ Q :=
  W.callR (Δ:=[]) (R:=Δ) hf ha hn hw hc (fun _ _ h=>by obtain ⟨_,h,-⟩:=h;cases h) fun u Δ' hq F s tm hM hG=>by
    obtain ⟨v,hv,hφ⟩:=hq
    injection hv with hv;subst hv
    exact h u hφ F s tm (hM.drop (List.sublist_append_right _ _)) hG
section
variable {P:Program} {g:Cg} {n:Nat} {V:K→Option (List AV)} {rs:List ResultVar} {st:List Fr} {Γ:Gm} {Δ:Dm} {Q:RO→Dm→Prop} {b:Bool} {all rest:List Oper} {ty:TypeId} {pos:String} {after:Array Edge} {gd:Option (Nat×Bool)} {d:Nat}
theorem W.callLP {fx:Operand} {xs:Array Operand} {tys:Array TypeId} {f:Nat} {first caps vs:List AV} {v:AV} (hf:eg Γ fx=some (.func f first caps)) (ha:egs Γ xs.toList=some vs)
    (hn:Nat.ble (d+1) n=true) (hw:wantG all Γ ⟨some d,.call ⟨.value fx,xs,tys⟩,ty,pos,after,gd⟩=some true)
    (hc:Cl P g (withV V Δ) f (first++vs++caps) [] fun o _=>o=.ret v)
    (h:W P g n V rs (.o b all rest::st) .nrm ((d,v)::Γ) Δ Q):W P g n V rs (.o b all (⟨some d,.call ⟨.value fx,xs,tys⟩,ty,pos,after,gd⟩::rest)::st) .nrm Γ Δ Q :=
  W.callL hf ha hn hw hc (fun _ _ h=>by cases h) fun u Δ' hq F s tm hM hG=>by
    injection hq with hq;subst hq
    exact h F s tm (hM.drop (List.sublist_append_right _ _)) hG
theorem W.callN {α:Type} {fx:Operand} {xs:Array Operand} {tys:Array TypeId} {f:Nat} {first caps vs:List AV} {val:α→AV} {φ:α→Dm→Prop} (hf:eg Γ fx=some (.func f first caps)) (ha:egs Γ xs.toList=some vs)
    (hn:Nat.ble (d+1) n=true) (hw:wantG all Γ ⟨some d,.call ⟨.value fx,xs,tys⟩,ty,pos,after,gd⟩=some true)
    (hc:Cl P g V f (first++vs++caps) [] fun o Δ'=>∃a,o=.ret (val a)∧φ a Δ')
    (h:∀a Δ',φ a Δ'→W P g n V rs (.o b all rest::st) .nrm ((d,val a)::Γ) (Δ++Δ') Q):W P g n V rs (.o b all (⟨some d,.call ⟨.value fx,xs,tys⟩,ty,pos,after,gd⟩::rest)::st) .nrm Γ Δ Q :=
  W.callR (Δ:=[]) (R:=Δ) hf ha hn hw hc (fun _ _ h=>by obtain ⟨_,h,-⟩:=h;cases h) fun u Δ' hq=>by
    obtain ⟨a,hv,hφ⟩:=hq
    injection hv with hv;subst hv
    exact W.perm _ List.perm_append_comm (h a Δ' hφ)
end
section
variable {P:Program} {g:Cg} {n:Nat} {V:K→Option (List AV)} {rs:List ResultVar} {st:List Fr} {Γ:Gm} {Δ:Dm} {Q:RO→Dm→Prop} {b:Bool} {all rest:List Oper} {ty:TypeId} {pos:String} {after:Array Edge} {gd:Option (Nat×Bool)} {d:Nat} {x:Operand} {tb:T TI}
variable {t u el:Nat} {z1 z1' z5:Bool} {z2 z3 z2' z3' z6 z7:Nat} {z4 z4' z8:Option AV}
def stAt (tr:List (Tm×St)) (s9:St) (j:Nat):St:=match tr[j]? with
  | some x=>x.2
  | none=>s9
end
end Go.Proofs.YtoegffiapnnkiaaGreat.Abs
