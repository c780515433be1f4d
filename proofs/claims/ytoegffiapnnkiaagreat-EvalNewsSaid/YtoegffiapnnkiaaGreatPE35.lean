/- Parts of one proof. No condition but those that each theorem names. -/
import Derived.Test.YtoegffiapnnkiaaGreatPE05
import Derived.Test.YtoegffiapnnkiaaGreatPE30
import Derived.Test.YtoegffiapnnkiaaGreatPE34
namespace Go.Proofs.YtoegffiapnnkiaaGreat.Abs
open Go
set_option linter.unusedVariables false
set_option linter.unusedSimpArgs false
set_option maxRecDepth 100000
set_option maxHeartbeats 4000000
attribute [local irreducible] W Cl Bd
variable {g:Cg} {V:K→Option (List AV)}
def Instr.cs (x:Instr):List AV:=[.int .u8 x.k,.int .i64 x.a]
def Row.cs (x:Row):List AV:=[.int .u8 x.k,.int .u8 x.o,.int .i64 x.i,.int .i64 x.side.f,.int .i64 x.side.t,.int .i64 x.qty.f,.int .i64 x.qty.t,.int .i64 x.price.f,.int .i64 x.price.t,.int .i64 x.value.f,.int .i64 x.value.t]
def Guard.cs (x:Guard):List AV:=[.int .i64 x.when.f,.int .i64 x.when.t,.int .u16 x.fields,.int .u16 x.regs,x.rows.v]
def slC {α:Type} (s:Sl α):List AV:=[s.v]
def CpG (D:Dm) (x y:Guard):Prop:=SameG x y∧RowIn D Row.cs 148 11 x.rows
def CpS (D:Dm) (x y:Sl Guard):Prop:=x.l.length=y.l.length∧RowIn D Guard.cs 132 5 x∧∀k (h1:k<x.l.length) (h2:k<y.l.length),CpG D x.l[k] y.l[k]
structure CpT (D:Dm) (x y:Table):Prop where
  name:x.name=y.name
  slots:x.slots=y.slots
  regs:x.regs.l=y.regs.l∧RowIn D iC 2 1 x.regs
  consts:x.consts.l=y.consts.l∧RowIn D iC 2 1 x.consts
  code:x.code.l=y.code.l∧RowIn D Instr.cs 86 2 x.code
  states:x.states.l.length=y.states.l.length∧RowIn D slC 129 1 x.states∧∀i (h1:i<x.states.l.length) (h2:i<y.states.l.length),CpS D x.states.l[i] y.states.l[i]
theorem CpG.mono {D D':Dm} {x y:Guard} (h:CpG D x y) (hs:∀z∈D,z∈D'):CpG D' x y:=⟨h.1,h.2.mono hs⟩
theorem CpS.mono {D D':Dm} {x y:Sl Guard} (h:CpS D x y) (hs:∀z∈D,z∈D'):CpS D' x y:=⟨h.1,h.2.1.mono hs,fun k h1 h2=>(h.2.2 k h1 h2).mono hs⟩
theorem CpT.mono {D D':Dm} {x y:Table} (h:CpT D x y) (hs:∀z∈D,z∈D'):CpT D' x y :=
  ⟨h.name,h.slots,⟨h.regs.1,h.regs.2.mono hs⟩,⟨h.consts.1,h.consts.2.mono hs⟩,⟨h.code.1,h.code.2.mono hs⟩,h.states.1,h.states.2.1.mono hs,fun i h1 h2=>(h.states.2.2 i h1 h2).mono hs⟩
theorem CpT.same {D:Dm} {x y:Table} (h:CpT D x y):SameT x y :=
  ⟨h.name,h.slots,h.regs.1,h.consts.1,h.code.1,h.states.1,fun i h1 h2=>⟨(h.states.2.2 i h1 h2).1,fun k h3 h4=>((h.states.2.2 i h1 h2).2.2 k h3 h4).1⟩⟩
theorem SameG.row {x y:Guard} (h:SameG x y) (hy:y.Ok V) {V':K→Option (List AV)} (hr:x.rows.In V' true 11 Row.v):x.Ok V':=by
  obtain ⟨h1,h2,h3,h4⟩:=h
  obtain ⟨k1,k2,k3,k4,k5,k6⟩:=hy
  exact ⟨by rw [h1];exact k1,by rw [h2];exact k2,by rw [h3];exact k3,by rw [h4];exact k4,hr,by rw [h4];exact k6⟩
theorem CpT.ok {D:Dm} {x y:Table} (h:CpT D x y) (hy:y.Ok V) (hn:(names D).Nodup):x.Ok (withV V D):=by
  refine ⟨⟨by rw [h.regs.1];exact hy.regs.1,h.regs.2.in hn (fun _=>rfl) (fun _=>rfl),by rw [h.regs.1];exact hy.regs.2.2⟩,by rw [h.slots];exact hy.slots,⟨by rw [h.consts.1];exact hy.consts.1,h.consts.2.in hn (fun _=>rfl) (fun _=>rfl),by rw [h.consts.1];exact hy.consts.2.2⟩,
    ⟨by rw [h.code.1];exact hy.code.1,h.code.2.in hn (fun _=>rfl) (fun _=>rfl),by rw [h.code.1];exact hy.code.2.2⟩,by rw [h.states.1];exact hy.states.1,h.states.2.1.in hn (fun _=>rfl) (fun _=>rfl),fun s hs=>?_⟩
  obtain ⟨i,hi⟩:=List.getElem?_of_mem hs
  obtain ⟨hlt,rfl⟩:=List.getElem?_eq_some_iff.1 hi
  have hlt2:i<y.states.l.length:=by rw [←h.states.1];exact hlt
  obtain ⟨c1,c2,c3⟩:=h.states.2.2 i hlt hlt2
  have hys:=hy.states.2.2 _ (List.getElem_mem hlt2)
  refine ⟨by rw [c1];exact hys.1,c2.in hn (fun _=>rfl) (fun _=>rfl),fun q hq=>?_⟩
  obtain ⟨k,hk⟩:=List.getElem?_of_mem hq
  obtain ⟨hlt3,rfl⟩:=List.getElem?_eq_some_iff.1 hk
  have hlt4:k<y.states.l[i].l.length:=by rw [←c1];exact hlt3
  exact (c3 k hlt3 hlt4).1.row (hys.2.2 _ (List.getElem_mem hlt4)) ((c3 k hlt3 hlt4).2.in hn (fun _=>rfl) (fun _=>rfl))
theorem CpT.room {D:Dm} {x y:Table} (h:CpT D x y) (hy:y.Room):x.Room:=by
  refine ⟨by rw [h.name];exact hy.name,by rw [h.regs.1];exact hy.regs,by rw [h.consts.1];exact hy.consts,by rw [h.code.1];exact hy.code,by rw [h.states.1];exact hy.states,fun s hs=>?_,fun s hs q hq=>?_⟩
  · obtain ⟨i,hi⟩:=List.getElem?_of_mem hs
    obtain ⟨hlt,rfl⟩:=List.getElem?_eq_some_iff.1 hi
    have hlt2:i<y.states.l.length:=by rw [←h.states.1];exact hlt
    rw [(h.states.2.2 i hlt hlt2).1]
    exact hy.guards _ (List.getElem_mem hlt2)
  · obtain ⟨i,hi⟩:=List.getElem?_of_mem hs
    obtain ⟨hlt,rfl⟩:=List.getElem?_eq_some_iff.1 hi
    have hlt2:i<y.states.l.length:=by rw [←h.states.1];exact hlt
    obtain ⟨c1,c2,c3⟩:=h.states.2.2 i hlt hlt2
    obtain ⟨k,hk⟩:=List.getElem?_of_mem hq
    obtain ⟨hlt3,rfl⟩:=List.getElem?_eq_some_iff.1 hk
    have hlt4:k<y.states.l[i].l.length:=by rw [←c1];exact hlt3
    rw [(c3 k hlt3 hlt4).1.2.2.2]
    exact hy.rows _ (List.getElem_mem hlt2) _ (List.getElem_mem hlt4)
theorem leafX (a:Instr):∀v∈a.cs,v.leaf=true:=by simp [Instr.cs,AV.leaf]
theorem leafR (a:Row):∀v∈a.cs,v.leaf=true:=by simp [Row.cs,AV.leaf]
theorem leafG (a:Guard):∀v∈a.cs,v.leaf=true:=by simp [Guard.cs,AV.leaf,Sl.v]
theorem leafS {α:Type} (a:Sl α):∀v∈slC a,v.leaf=true:=by simp [slC,AV.leaf,Sl.v]
theorem snoc_all {α β:Type} {R:α→β→Prop} {xs:List α} {ys:List β} {x:α} (h:∀k (h1:k<xs.length) (h2:k<ys.length),R xs[k] ys[k]) (hi:xs.length<ys.length) (hx:R x ys[xs.length]):∀k (h1:k<(xs++[x]).length) (h2:k<ys.length),R (xs++[x])[k] ys[k]:=fun k h1 h2=>by
  by_cases e:k<xs.length
  · rw [List.getElem_append_left e];exact h k e h2
  · have:k=xs.length:=by simp at h1;omega
    subst this
    rw [List.getElem_append_right (Nat.le_refl _)]
    simpa using hx
theorem CpS.mk' {D:Dm} {x y:Sl Guard} {gs:List Guard} (hx:x.l=gs) (h1:gs.length=y.l.length) (h2:RowIn D Guard.cs 132 5 x) (h3:∀k (h1:k<gs.length) (h2:k<y.l.length),CpG D gs[k] y.l[k]):CpS D x y:=by subst hx;exact ⟨h1,h2,h3⟩
end Go.Proofs.YtoegffiapnnkiaaGreat.Abs
