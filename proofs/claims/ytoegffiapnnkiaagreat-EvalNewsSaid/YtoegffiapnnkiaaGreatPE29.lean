/- Parts of one proof. No condition but those that each theorem names. -/
import Derived.Test.YtoegffiapnnkiaaGreatPE07
import Derived.Test.YtoegffiapnnkiaaGreatPE28
namespace Go.Proofs.YtoegffiapnnkiaaGreat.Abs
open Go
set_option linter.unusedVariables false
set_option linter.unusedSimpArgs false
set_option maxRecDepth 100000
section
variable {P:Program} {g:Cg} {n:Nat} {V:K→Option (List AV)} {rs:List ResultVar} {st:List Fr} {Γ:Gm} {Δ:Dm} {Q:RO→Dm→Prop} {b:Bool} {all rest:List Oper} {ty:TypeId} {pos:String} {after:Array Edge} {gd:Option (Nat×Bool)} {d:Nat} {x y z:Operand} {t:TypeId}
theorem W.mkMap (hn:Nat.ble (d+1) n=true) (hw:wantG all Γ ⟨some d,.makeMap t none,ty,pos,after,gd⟩=some true)
    (h:∀i,W P g n V rs (.o b all rest::st) .nrm ((d,.map (some i))::Γ) ((i,.mp [] 0)::Δ) Q):W P g n V rs (.o b all (⟨some d,.makeMap t none,ty,pos,after,gd⟩::rest)::st) .nrm Γ Δ Q :=
  W.op hw hn fun F s tm hM hG=>⟨.map (some s.nx),newB s (.mp [] 0),(s.nx,.mp [] 0)::Δ,⟨0,fun k _=>rfl⟩,hM.alloc trivial,h s.nx⟩
theorem W.lkp (p:Nat) {i:K} {es:List (AV×AV×Nat)} {c:Nat} {k v:AV} {ok:Bool} (hx:eg Γ x=some (.map (some i))) (hy:eg Γ y=some k) (hΔ:getL Δ p=some (i,.mp es c)) (hl:∀s:St,T.get s.hp i=some (.mp es c)→opLookup P t (some (.map (some i))) (some k) ok s=some v)
    (hn:Nat.ble (d+1) n=true) (hw:wantG all Γ ⟨some d,.lookup t x y ok,ty,pos,after,gd⟩=some true)
    (h:W P g n V rs (.o b all rest::st) .nrm ((d,v)::Γ) Δ Q):W P g n V rs (.o b all (⟨some d,.lookup t x y ok,ty,pos,after,gd⟩::rest)::st) .nrm Γ Δ Q :=
  W.op hw hn fun F s tm hM hG=>⟨v,s,Δ,⟨0,fun _ _=>by
    show ofO (opLookup P t (ev tm x) (ev tm y) ok s) s=_
    rw [hG.eg hx,hG.eg hy,hl s (hM.own _ (getL_mem hΔ))];rfl⟩,hM,h⟩
theorem W.mclr {ts:Array TypeId} {i:K} {es:List (AV×AV×Nat)} {c:Nat} (hx:eg Γ x=some (.map (some i))) (hl:∀s:St,T.get s.hp i=some (.mp es c)→opClear P ts.toList (.map (some i)) s=some (setB s i (.mp [] c)))
    (hw:wantG all Γ ⟨none,.call ⟨.builtin .clear,#[x],ts⟩,ty,pos,after,gd⟩=some true)
    (h:W P g n V rs (.o b all rest::st) .nrm Γ ((i,.mp [] c)::Δ) Q):W P g n V rs (.o b all (⟨none,.call ⟨.builtin .clear,#[x],ts⟩,ty,pos,after,gd⟩::rest)::st) .nrm Γ ((i,.mp es c)::Δ) Q :=
  W.op hw rfl fun F s tm hM hG=>⟨.tup [],setB s i (.mp [] c),(i,.mp [] c)::Δ,⟨0,fun k0 _=>by
    have ha:evs tm [x]=some [.map (some i)]:=by
      show cons2 (ev tm x) (some [])=_
      rw [hG.eg hx];rfl
    show opCall P _ ⟨.builtin .clear,#[x],ts⟩ tm s=_
    unfold opCall
    show (match Callee.builtin Builtin.clear,evs tm [x] with|.value f,some as_=>_|.builtin b,some as_=>opBuiltin P b ts.toList as_ s|_,_=>CR.no)=_
    rw [ha]
    show ofS (opClear P ts.toList (.map (some i)) s)=_
    rw [hl s (hM.own (i,.mp es c) (by simp))];rfl⟩,hM.set trivial,h⟩
end
structure Cch where
  clean:Bool
  v:Int
  code:Int
def Cch.none:Cch:=⟨false,0,0⟩
def Cch.cs (c:Cch):List AV:=[.bool c.clean,.int .i64 c.v,.int .i64 c.code]
def Cch.av (c:Cch):AV:=.agg c.cs
def plV (a b:Int):AV:=.agg [.int .i64 a,.int .i64 b]
abbrev Ent:=(Int×Int)×Cch×Nat
def entA (e:Ent):AV×AV×Nat:=(plV e.1.1 e.1.2,e.2.1.av,e.2.2)
theorem keyOk_pl (e:Bool) (a b:Int):keyOk Tryz.prog 184 e (plV a b)=true:=by cases e<;>kernel_rfl
theorem zero_c:zeroA Tryz.prog 170=some Cch.none.av:=by kernel_rfl
theorem keyEq_pl (a b c d:Int):keyEq Tryz.prog 184 (plV a b) (plV c d)=some (ieqb a c&&(ieqb b d&&true)):=by kernel_rfl
theorem map_und:Tryz.prog.underlying 172=some (.map 184 170):=tblOk.mp rfl
def idxE:List Ent→Int→Int→Nat→Option (Nat×Cch)
  | [],_,_,_=>none
  | e::l,a,b,i=>if e.1.1=a∧e.1.2=b then some (i,e.2.1) else idxE l a b (i+1)
def lkE (l:List Ent) (a b:Int):Option Cch:=(idxE l a b 0).map (·.2)
theorem findA_pl (a b:Int):∀(l:List Ent) (i:Nat),findA Tryz.prog 184 (plV a b) (l.map entA) i=some ((idxE l a b i).map fun p=>(p.1,p.2.av))
  | [],_=>rfl
  | e::l,i=>by
    obtain ⟨⟨c,d⟩,v,n⟩:=e
    show findA Tryz.prog 184 (plV a b) ((plV c d,v.av,n)::l.map entA) i=_
    rw [findA,keyEq_pl,idxE]
    by_cases h:c=a∧d=b
    · obtain ⟨rfl,rfl⟩:=h
      rw [ieqb_eq,ieqb_eq,beq_self_eq_true,beq_self_eq_true,if_pos ⟨rfl,rfl⟩];rfl
    · rw [if_neg h]
      have e0:(ieqb a c&&(ieqb b d&&true))=false:=by
        rw [Bool.eq_false_iff]
        intro h0
        simp only [Bool.and_eq_true,ieqb_eq,beq_iff_eq] at h0
        exact h ⟨h0.1.symm,h0.2.1.symm⟩
      rw [e0]
      exact findA_pl a b l (i+1)
theorem lkp_pl {l:List Ent} {i:K} {c:Nat} (a b:Int) (s:St) (h:T.get s.hp i=some (.mp (l.map entA) c)):opLookup Tryz.prog 172 (some (.map (some i))) (some (plV a b)) false s=some ((lkE l a b).getD Cch.none).av:=by
  unfold opLookup
  rw [map_und]
  simp only [h,keyOk_pl,zero_c,findA_pl]
  unfold lkE
  cases idxE l a b 0 with
  | none=>rfl
  | some p=>rfl
theorem mclr_pl {es:List (AV×AV×Nat)} {i:K} {c:Nat} (s:St) (h:T.get s.hp i=some (.mp es c)):opClear Tryz.prog [172] (.map (some i)) s=some (setB s i (.mp [] c)):=by
  unfold opClear
  simp only [map_und,h]
end Go.Proofs.YtoegffiapnnkiaaGreat.Abs
