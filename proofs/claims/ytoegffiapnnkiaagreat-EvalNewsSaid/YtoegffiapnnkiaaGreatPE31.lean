/- Parts of one proof. No condition but those that each theorem names. -/
import Derived.Test.YtoegffiapnnkiaaGreatPE30
import Derived.Laws.BitsLemmas
namespace Go.Proofs.YtoegffiapnnkiaaGreat.Abs
open Go
set_option linter.unusedVariables false
set_option linter.unusedSimpArgs false
theorem setLs_0 {α:Type}:∀(a b r:List α),b.length=a.length→setLs (b++r) 0 a=some (a++r)
  | [],[],r,_=>by cases r<;>rfl
  | x::a,y::b,r,h=>by
    show consO x (setLs (b++r) 0 a)=_
    rw [setLs_0 a b r (by simpa using h)];rfl
theorem setLs_cat {α:Type} (a b:List α) (h:b.length=a.length) (r:List α):∀(p:List α),setLs (p++(b++r)) p.length a=some (p++(a++r))
  | []=>setLs_0 a b r h
  | x::p=>by
    show consO x (setLs (p++(b++r)) p.length a)=_
    rw [setLs_cat a b h r p];rfl
section
variable {P:Program} {g:Cg} {n:Nat} {V:K→Option (List AV)} {rs:List ResultVar} {st:List Fr} {Γ:Gm} {Δ:Dm} {Q:RO→Dm→Prop} {b:Bool} {all rest:List Oper} {ty:TypeId} {pos:String} {after:Array Edge} {gd:Option (Nat×Bool)} {d:Nat} {x y:Operand} {tb:T TI}
variable {t u el eu sz by_ m len cap:Nat} {z w:AV} {zl news:List AV} {td:TD} {z1 z1' z5:Bool} {z2 z3 z2' z6:Nat} {z4 z4':Option AV}
theorem W.mkE (hT:TabOk P tb) {kl kc:IntKind} (hl:eg Γ x=some (.int kl (len:Int))) (hc:eg Γ y=some (.int kc (cap:Int))) (ht:ti tb t=some ⟨.sl el,z1,z2,z3,z4⟩) (he:ti tb el=some ⟨td,z5,sz,by_,some z⟩) (hz:partsO z=some zl)
    (hle:len≤cap) (hb:by_ * cap≤281474976710656∧cap≤9223372036854775807) (hcc:zl.length=sz∧0<sz)
    (hn:Nat.ble (d+1) n=true) (hw:wantG all Γ ⟨some d,.makeSlice t x y,ty,pos,after,gd⟩=some true)
    (h:∀i,W P g n V rs (.o b all rest::st) .nrm ((d,.slice (some (i,0)) len (.ex cap))::Γ) ((i,.cells (repL cap zl) el sz true)::Δ) Q):W P g n V rs (.o b all (⟨some d,.makeSlice t x y,ty,pos,after,gd⟩::rest)::st) .nrm Γ Δ Q :=
  W.op hw hn fun F s tm hM hG=>⟨.slice (some (s.nx,0)) len (.ex cap),newB s (.cells (repL cap zl) el sz true),(s.nx,.cells (repL cap zl) el sz true)::Δ,⟨0,fun k _=>by
    obtain ⟨inf,i1,i2,i3⟩:=(hT.get he).info
    show ofP (opMakeSlice P t (ev tm x) (ev tm y) s)=_
    have hz':=partsO_eq hz
    have hif:(0:Int)≤(len:Int)∧(len:Int)≤(cap:Int)∧(cap:Int)≤9223372036854775807∧(by_:Int) * (cap:Int)≤281474976710656∧zl.length=sz∧0<sz:=by
      refine ⟨by omega,by omega,by omega,?_,hcc⟩
      have:=hb.1
      have e:((by_ * cap:Nat):Int)=(by_:Int) * (cap:Int):=Int.natCast_mul _ _
      omega
    rw [hG.eg hl,hG.eg hc]
    unfold opMakeSlice
    simp only [hT.sl ht,i1,(hT.get he).zero z rfl,hz',i2,i3,Int.toNat_natCast]
    rw [if_pos hif];rfl⟩,hM.alloc trivial,h s.nx⟩
end
end Go.Proofs.YtoegffiapnnkiaaGreat.Abs
namespace Go.Proofs.YtoegffiapnnkiaaGreat.Abs
open Go
set_option linter.unusedVariables false
set_option linter.unusedSimpArgs false
set_option maxRecDepth 100000
set_option maxHeartbeats 4000000
instance (x:Int):Decidable (In64 x):=inferInstanceAs (Decidable (_∧_))
theorem tm {x y:Int} (h:0≤x):Int.tmod x y=x%y:=Int.tmod_eq_emod_of_nonneg h
theorem td {x y:Int} (h:0≤x):Int.tdiv x y=x/y:=Int.tdiv_eq_ediv_of_nonneg h
attribute [local irreducible] W Cl Bd
variable {g:Cg} {V:K→Option (List AV)}
end Go.Proofs.YtoegffiapnnkiaaGreat.Abs
namespace Go.Proofs.YtoegffiapnnkiaaGreat.Abs
open Go
set_option linter.unusedVariables false
set_option linter.unusedSimpArgs false
set_option maxRecDepth 100000
set_option maxHeartbeats 4000000
attribute [local irreducible] W Cl Bd
variable {g:Cg} {V:K→Option (List AV)}
structure Snap where
  bid:Int
  ask:Int
  last:Int
  volume:Int
  now:Int
  open_:Int
def Snap.v (w:Snap):AV:=.agg [.int .i64 w.bid,.int .i64 w.ask,.int .i64 w.last,.int .i64 w.volume,.int .i64 w.now,.int .i64 w.open_]
structure Snap.Ok (w:Snap):Prop where
  bid:In64 w.bid
  ask:In64 w.ask
  last:In64 w.last
  volume:In64 w.volume
  now:In64 w.now
  open_:In64 w.open_
end Go.Proofs.YtoegffiapnnkiaaGreat.Abs
