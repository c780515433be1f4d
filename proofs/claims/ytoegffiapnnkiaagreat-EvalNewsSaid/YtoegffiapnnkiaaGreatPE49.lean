/- Parts of one proof. No condition but those that each theorem names. -/
import Derived.Test.YtoegffiapnnkiaaGreatPE19
import Derived.Test.YtoegffiapnnkiaaGreatPE23
import Derived.Test.YtoegffiapnnkiaaGreatPE26
import Derived.Test.YtoegffiapnnkiaaGreatPE28
import Derived.Test.YtoegffiapnnkiaaGreatPE31
import Derived.Test.YtoegffiapnnkiaaGreatPE36
import Derived.Test.YtoegffiapnnkiaaGreatPE39
import Derived.Test.YtoegffiapnnkiaaGreatPE43
import Derived.Test.YtoegffiapnnkiaaGreatPE47
import Derived.Test.YtoegffiapnnkiaaGreatPE48
namespace Go.Proofs.YtoegffiapnnkiaaGreat.Abs
open Go
set_option linter.unusedVariables false
set_option linter.unusedSimpArgs false
set_option maxRecDepth 100000
set_option maxHeartbeats 4000000
def Act.v (a:Act):AV:=.agg a.cs
def firV (n:Tn) (a:Sl Act):AV:=.agg [.int .i64 n.g,.bool n.dry,a.v,.int .u8 n.st,.int .i64 n.err,.int .i64 n.steps]
attribute [local irreducible] W Cl Bd
variable {g:Cg} {V:K→Option (List AV)}
theorem sameFiring_c (hp:Plain g 27=true) {a b:Sl Act} (ha:a.In V true 6 Act.v) (hb:b.In V true 6 Act.v) (h:a.l=b.l) (hl:a.l.length≤10000000) (n:Tn) (c:Bool) :
    Cl Tryz.prog g V 27 [firV n a,firV n b,.bool c] [] fun o _=>o=.ret (.bool true):=by
  refine Cl.enter hp Tryz.func27 rfl ?_
  have hlen:(a.l.length:Int)=(b.l.length:Int):=by rw [h]
  obtain ⟨g0,dry,ac,st,err,steps,s,regs⟩:=n
  unfold firV
  simp only
  repeat first|(with_reducible first|refine za ?_|refine zb ?_|refine zc ?_)|refine ym zr ?_|refine yn 0 zr ?_|refine yn 1 zr ?_|(refine yo zr ?_;intro _)
  rename_i ib ia
  refine W.cut (fun Γ' Δ'=>Γ'=[(3,.ptr (some (ib,0))),(4,.ptr (some (ia,0))),(52,.bool (decide (¬(a.l.length:Int)=(b.l.length:Int))))]∧Δ'=(ia,.cells [.int .i64 g0,.bool dry,b.v,.int .u8 st,.int .i64 err,.int .i64 steps] 65 6 true)::(ib,.cells [.int .i64 g0,.bool dry,a.v,.int .u8 st,.int .i64 err,.int .i64 steps] 65 6 true)::[]) ?_ ?_
  rotate_left
  · intro hA
    have hA:=hA _ _ ⟨rfl,rfl⟩
    cases dry<;>cases c
    all_goals
      repeat first|exact W.wk hA ⟨rfl,rfl,rfl⟩ (List.Sublist.refl _)|(refine W.gs rfl rfl rfl rfl (fun h=>absurd rfl h) ?_;intro _)|with_reducible refine zc ?_|refine ym zr ?_|refine yn 0 zr ?_|refine yn 1 zr ?_|refine zx zr zr zr ?_
  rintro _ _ ⟨rfl,rfl⟩
  refine W.condP rfl (fun h=>absurd hlen h) (fun _=>?_)
  repeat first|(with_reducible first|refine za ?_|refine zb ?_|refine zc ?_)|refine ym zr ?_|(with_reducible first|refine zd ?_|refine ze ?_)
  refine W.loopR (α:={ i:Nat // i≤a.l.length }) (fun i=>a.l.length-i.1) (fun i=>[(3,.ptr (some (ib,0))),(4,.ptr (some (ia,0))),(7,.int .i64 (i.1:Int))]) (fun _=>(ia,.cells [.int .i64 g0,.bool dry,b.v,.int .u8 st,.int .i64 err,.int .i64 steps] 65 6 true)::(ib,.cells [.int .i64 g0,.bool dry,a.v,.int .u8 st,.int .i64 err,.int .i64 steps] 65 6 true)::[]) ⟨0,Nat.zero_le _⟩ ⟨rfl,rfl,rfl⟩ (List.Sublist.refl _) ?_
  rintro ⟨i,hi⟩ ih
  simp only at ih hi ⊢
  by_cases hlt:i<a.l.length
  · have hi0:(0:Int)≤(i:Int):=by omega
    have hi1:(i:Int)<(a.l.length:Int):=by omega
    have hi2:(i:Int)<(b.l.length:Int):=by omega
    obtain ⟨j1,o1,c1,ha1,hV1,hp1⟩:=Sl.In.get ha hlt
    obtain ⟨j2,o2,c2,ha2,hV2,hp2⟩:=Sl.In.get hb (i:=i) (by rw [←h];exact hlt)
    have ew:IntKind.i64.wrap ((i:Int)+1)=((i+1:Nat):Int):=by rw [w64 (by omega) (by omega)];omega
    have hnext:=ih ⟨i+1,hlt⟩ (by show a.l.length-(i+1)<a.l.length-i;omega)
    have hab:b.l[i]'(by rw [←h];exact hlt)=a.l[i]:=by simp only [h]
    rw [hab] at hp2
    generalize a.l[i]=r at hp1 hp2
    obtain ⟨q1,q2,q3,q4,q5,q6⟩:=r
    clear ih
    repeat first|(with_reducible first|refine za ?_|refine zb ?_|refine zc ?_)|refine ym zr ?_|refine yn 1 zr ?_
    refine W.condP rfl (fun _=>?_) (fun h=>absurd hi1 h)
    repeat first|refine W.ia tblOk rfl rfl rfl rfl rfl rfl ha1 hi0 hi1 ?_|refine W.ldV tblOk rfl rfl rfl hV1 hp1 ?_|refine W.ia tblOk rfl rfl rfl rfl rfl rfl ha2 hi0 hi2 ?_|refine W.ldV tblOk rfl rfl rfl hV2 hp2 ?_|refine W.neS tblOk rfl rfl rfl rfl rfl (eqAct_self ..) ?_|refine W.condF rfl ?_|(with_reducible first|refine za ?_|refine zb ?_|refine zc ?_)|refine ym zr ?_|refine yn 0 zr ?_|refine yn 1 zr ?_|(with_reducible first|refine zd ?_|refine ze ?_|refine zf ?_)|refine zw (by decide +kernel) ?_
    rw [ew]
    exact W.wk hnext ⟨rfl,rfl,rfl⟩ (List.Sublist.refl _)
  · clear ih
    repeat first|(with_reducible first|refine za ?_|refine zb ?_|refine zc ?_)|refine ym zr ?_|refine yn 1 zr ?_
    refine W.condP rfl (fun h=>absurd h (by omega)) (fun _=>?_)
    repeat' first|(with_reducible first|refine za ?_|refine zb ?_|refine zc ?_)|refine ym zr ?_|(with_reducible first|refine zg ?_|refine zh ?_|refine zi ?_|refine zj ?_)|refine W.done zr ?_
    rfl
end Go.Proofs.YtoegffiapnnkiaaGreat.Abs
