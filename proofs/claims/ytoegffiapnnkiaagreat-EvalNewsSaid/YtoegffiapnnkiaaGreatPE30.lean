/- Parts of one proof. No condition but those that each theorem names. -/
import Derived.Test.YtoegffiapnnkiaaGreatPE05
import Derived.Test.YtoegffiapnnkiaaGreatPE20
import Derived.Test.YtoegffiapnnkiaaGreatPE25
import Derived.Test.YtoegffiapnnkiaaGreatPE27
namespace Go.Proofs.YtoegffiapnnkiaaGreat.Abs
open Go
set_option linter.unusedVariables false
set_option linter.unusedSimpArgs false
section
variable {P:Program} {g:Cg} {n:Nat} {V:K→Option (List AV)} {rs:List ResultVar} {st:List Fr} {e:Ex} {Γ Γ':Gm} {Δ Δ' R:Dm} {Q Q':RO→Dm→Prop} {tb:T TI} {b:Bool} {all rest:List Oper}
variable {ty:TypeId} {pos:String} {after:Array Edge} {gd:Option (Nat×Bool)} {d:Nat} {x y:Operand} {t:TypeId}
theorem part_leaf {td:TD} {z1 z3:Nat} {z4:Option AV} {q:Nat} {cs:List AV} {v:AV} (h:ti tb t=some ⟨td,false,z1,z3,z4⟩) (hv:cs[q]?=some v):partG tb t cs q=some v:=by
  unfold partG
  rw [h]
  show getL cs q=_
  rw [getL_eq];exact hv
theorem num_in0 {s:Sl Int} (h:s.In V false 1 (AV.int .i64)) {a:Int} (h0:0≤a) (h1:a<s.l.length):∃j o cs,s.a=some (j,o)∧V j=some cs∧partG tbl 2 cs (o+a.toNat * 1)=some (.int .i64 (s.l.getD a.toNat 0)):=by
  have he:s.l[a.toNat]?=some (s.l.getD a.toNat 0):=by
    rw [List.getD_eq_getElem?_getD,List.getElem?_eq_getElem (by omega)];rfl
  exact h a.toNat _ he
theorem setLs_one (v:AV):∀(l:List AV) (i:Nat),i<l.length→setLs l i [v]=some (l.set i v)
  | [],i,h=>by simp at h
  | x::l,0,h=>by
    show consO v (setLs l 0 [])=_
    cases l<;>rfl
  | x::l,i+1,h=>by
    show consO x (setLs l i [v])=_
    rw [setLs_one v l i (by simpa using h)];rfl
end
section
variable {P:Program} {g:Cg} {n:Nat} {V:K→Option (List AV)} {rs:List ResultVar} {st:List Fr} {Γ:Gm} {Δ:Dm} {Q:RO→Dm→Prop}
theorem W.dropE (Δ':Dm) (hd:Δ'.Sublist Δ) {e:Ex} (h:W P g n V rs st e Γ Δ' Q):W P g n V rs st e Γ Δ Q:=fun F s tm hM hT=>h F s tm (hM.drop hd) hT
theorem W.wk {Γ':Gm} {Δ':Dm} {e:Ex} (h:W P g n V rs st e Γ' Δ' Q) (hk:Knows Γ Γ') (hd:Δ'.Sublist Δ):W P g n V rs st e Γ Δ Q:=W.weak Γ' Δ' hk hd h
end
end Go.Proofs.YtoegffiapnnkiaaGreat.Abs
namespace Go.Proofs.YtoegffiapnnkiaaGreat.Abs
open Go
set_option linter.unusedVariables false
set_option linter.unusedSimpArgs false
set_option maxRecDepth 100000
set_option maxHeartbeats 4000000
def iC (x:Int):List AV:=[.int .i64 x]
theorem leaf_all {α:Type} (enc:α→List AV) (h:∀a,∀v∈enc a,v.leaf=true) (l:List α):allLeaf (l.flatMap enc)=true:=by
  have key:∀L:List AV,(∀v∈L,v.leaf=true)→allLeaf L=true:=fun L=>by
    induction L with
    | nil=>intro _;rfl
    | cons v L ih =>
      intro h
      show @Bool.rec (fun _=>Bool) false (allLeaf L) v.leaf=true
      rw [h v (by simp)]
      exact ih fun u hu=>h u (by simp [hu])
  refine key _ fun v hv=>?_
  obtain ⟨a,-,ha⟩:=List.mem_flatMap.1 hv
  exact h a v ha
theorem leafI (a:Int):∀v∈iC a,v.leaf=true:=by simp [iC,AV.leaf]
attribute [local irreducible] W Cl Bd
variable {g:Cg} {V:K→Option (List AV)}
theorem srcI {Δ:Dm} {s:Sl Int} (h:s.In V false 1 (AV.int .i64)):∀F st,Mem V F Δ st→srcCells 1 s.l.length s.v st.hp=some (s.l.flatMap iC):=src_in (enc:=iC) (fun _=>rfl) (fun _=>rfl) h
end Go.Proofs.YtoegffiapnnkiaaGreat.Abs
namespace Go.Proofs.YtoegffiapnnkiaaGreat.Abs
open Go
set_option linter.unusedVariables false
set_option linter.unusedSimpArgs false
set_option maxRecDepth 100000
set_option maxHeartbeats 4000000
attribute [local irreducible] W Cl Bd
variable {g:Cg} {V:K→Option (List AV)}
theorem modeCopyP_c (hp:Plain g 60=true) {regs:Sl Int} (hr:regs.In V false 1 (AV.int .i64)) (hl:regs.l.length≤10000000) (s:Int) :
    Cl Tryz.prog g V 60 [.agg [.int .i64 s,regs.v]] [] fun o Δ=>∃i R,o=.ret (.agg [.int .i64 s,(gS i regs.l).v])∧Δ=R++gD iC 2 1 i regs.l:=by
  refine Cl.enter hp Tryz.func60 rfl ?_
  have hb:(([]:List Int).length+regs.l.length) * 8≤140737488355328:=by simp;omega
  repeat first|(with_reducible first|refine za ?_|refine zb ?_|refine zc ?_)|(refine yo zr ?_;intro _)|(refine yp zr ?_;intro _)
  rename_i ib ia
  have hold:∀(Δ:Dm),(ib,Bk.cells [.int .i64 s,regs.v] 30 2 true)∈Δ→Hold tbl ib 3 0 (.int .i64 s) Δ:=fun Δ h=>⟨_,_,h,rfl,rfl⟩
  refine W.drawL _ (i0:=ib) (q:=0) (v:=.int .i64 s) 1 4 5 (by decide +kernel) tbl tblOk rfl rfl (by simp [sameA]) ?_ ?_ ?_
  · show W _ _ _ _ _ [.o false _ [_]] _ _ _ _
    repeat' first|with_reducible refine zc ?_|refine ym zr ?_|refine W.doneN zr ?_
    exact ⟨rfl,hold _ (.tail _ (.head _))⟩
  · intro m h1 h2
    obtain rfl|rfl:m=4∨m=5:=by omega
    · show W _ _ _ _ _ [.o false _ [_,_,_,_]] _ _ _ _
      repeat' first|with_reducible refine zc ?_|refine ym zr ?_|refine yn 1 zr ?_|refine W.doneN zr ?_
      exact hold _ (.tail _ (.head _))
    · show W _ _ _ _ _ [.o false _ [_,_,_,_,_]] _ _ _ _
      repeat first|refine ym zr ?_|refine yn 1 zr ?_
      refine W.appG (i:=.z) (l:=[]) (m:=regs.l) (enc:=iC) (Δ1:=[_,_]) (Δ0:=[]) tblOk rfl rfl rfl rfl rfl rfl rfl (by decide) hb (fun _=>rfl) (srcI hr) (fun h=>src_none h) (leaf_all _ leafI _) rfl rfl fun n1=>?_
      repeat' first|with_reducible refine zc ?_|refine W.doneN zr ?_
      exact hold _ (.tail _ (.head _))
  repeat first|refine ym zr ?_|refine yn 1 zr ?_
  refine W.appG (i:=.z) (l:=[]) (m:=regs.l) (enc:=iC) (Δ1:=[_,_]) (Δ0:=[]) tblOk rfl rfl rfl rfl rfl rfl rfl (by decide) hb (fun _=>rfl) (srcI hr) (fun h=>src_none h) (leaf_all _ leafI _) rfl rfl fun n1=>?_
  repeat' first|refine W.doneC tblOk (.cell 0 rfl rfl rfl rfl .nil) ?_|with_reducible refine zc ?_|refine ym zr ?_|refine yq zr ?_|with_reducible refine zj ?_
  exact ⟨n1,[_,_],rfl,by rw [List.append_nil];rfl⟩
end Go.Proofs.YtoegffiapnnkiaaGreat.Abs
