/- Parts of one proof. No condition but those that each theorem names. -/
import Derived.Test.YtoegffiapnnkiaaGreatPE32
import Derived.Test.YtoegffiapnnkiaaGreatPE37
import Derived.Test.YtoegffiapnnkiaaGreatPE39
namespace Go.Proofs.YtoegffiapnnkiaaGreat.Abs
open Go
set_option linter.unusedVariables false
set_option linter.unusedSimpArgs false
set_option maxRecDepth 100000
set_option maxHeartbeats 4000000
theorem pm2 (x y:K×Bk) (D R G:Dm):(x::y::(D++(R++G))).Perm (G++(D++(x::y::R))):=permC fun _ a=>by simp only [consS,List.count_append,List.count_nil,List.append_assoc];omega
theorem pm3' {D A B:Dm} (h:D.Perm (A++B)) (x:K×Bk) (G:Dm):(x::(G++D)).Perm (G++(A++(x::B))):=permC fun _ a=>by
  have:=h.count_eq a
  simp only [consS,List.count_append,List.count_nil,List.append_assoc] at *
  omega
theorem pmG {D A B:Dm} (h:D.Perm (A++B)) (x:K×Bk) (G:Dm):(x::((G++[])++D)).Perm (G++(A++(x::B))):=by rw [List.append_nil];exact pm3' h x G
theorem pmN {D G A B:Dm} {x:K×Bk} (h:D.Perm (x::(G++(A++B)))) (L:Dm):(D++L).Perm (x::(G++(A++(B++L)))):=permC fun _ a=>by
  have:=h.count_eq a
  simp only [consS,List.count_append,List.count_nil,List.append_assoc] at *
  omega
theorem check_small {t:Table} (h:checkS t=none):t.states.l.length≤1000∧(∀s∈t.states.l,s.l.length≤1000)∧t.regs.l.length≤12:=by
  obtain ⟨hf,-⟩:=check_formed h
  have h1:=hf.1.2.2.2.2.2.2.2
  refine ⟨by omega,fun s hs=>?_,hf.1.2.1⟩
  have:=(hf.rest s hs).1
  omega
noncomputable def newE (t:Table) (w:Snap):Int:=if (checkS t).getD 0=0 then snapE w else (checkS t).getD 0
def ev0 (t:Table) (w:Snap):Ev:=⟨w,0,t.regs.l,0,0,0⟩
def evR (T:Table) (e:Ev):Ev:=⟨e.w,0,T.regs.l,1,0,e.steps⟩
attribute [local irreducible] W Cl Bd
variable {g:Cg} {V:K→Option (List AV)}
theorem evNew_c (A:AskG g) (hp:Plain g 34=true) (hp2:Plain g 90=true) (hp3:Plain g 60=true) (hC:∀k,CallS Tryz.prog (callA Tryz.prog g (exec Tryz.prog g k))) {t:Table} (ht:t.Ok V) (hr:t.Room) (hc:Cl Tryz.prog g V 59 [t.v] [] fun o _=>o=.ret (.int .i64 ((checkS t).getD 0))) (w:Snap) :
    Cl Tryz.prog g V 34 [t.v,w.v] [] fun o Δ=>(newE t w≠0∧o=.ret (.tup [.ptr none,.int .i64 (newE t w)]))∨(newE t w=0∧∃k,o=.ret (.tup [.ptr (some (k,0)),.int .i64 0])∧∃(T:Table) (jr km:K) (D R:Dm),CpT D T t∧Δ.Perm (evB k T jr km (ev0 t w)::(km,.mp [] 0)::(gD iC 2 1 jr t.regs.l++(D++R)))):=by
  refine Cl.enter hp Tryz.func34 rfl ?_
  have hs:=snapCheck_c (V:=V) A w
  unfold newE
  by_cases h0:(checkS t).getD 0=0
  rotate_left
  · rw [if_neg h0]
    generalize (checkS t).getD 0=e at hc h0 ⊢
    repeat first|refine W.callP rfl rfl rfl rfl hc ?_|(with_reducible first|refine za ?_|refine zb ?_|refine zc ?_)|refine ym zr ?_|refine yn 0 zr ?_|refine yn 1 zr ?_|refine yn 2 zr ?_|refine yn 3 zr ?_|(refine yo zr ?_;intro _)|(refine yp zr ?_;intro _)|refine yq zr ?_|refine ys zr ?_|refine yu zr ?_|refine yv zr ?_|(with_reducible first|refine zd ?_|refine ze ?_|refine zf ?_|refine zg ?_|refine zh ?_|refine zi ?_|refine zj ?_|refine zk ?_|refine zl ?_)|refine zz zr ?_|refine zw (by decide +kernel) ?_|refine zx zr zr zr ?_|refine zy zr zr ?_|refine W.condT zr ?_|refine W.condF zr ?_
    refine W.condP rfl (fun _=>?_) (fun h=>absurd h0 h)
    repeat' first|(with_reducible first|refine za ?_|refine zb ?_|refine zc ?_)|refine ym zr ?_|refine yn 0 zr ?_|refine yn 1 zr ?_|refine yn 2 zr ?_|refine yn 3 zr ?_|(refine yo zr ?_;intro _)|(refine yp zr ?_;intro _)|refine yq zr ?_|refine ys zr ?_|refine yu zr ?_|refine yv zr ?_|(with_reducible first|refine zd ?_|refine ze ?_|refine zf ?_|refine zg ?_|refine zh ?_|refine zi ?_|refine zj ?_|refine zk ?_|refine zl ?_)|refine zz zr ?_|refine zw (by decide +kernel) ?_|refine zx zr zr zr ?_|refine zy zr zr ?_|(refine W.condP zr ?_ ?_<;>intro _)|refine W.condT zr ?_|refine W.condF zr ?_|(refine W.cond zr ?_ ?_<;>intro _)|(refine W.gs zr zr zr zr ?_ ?_<;>intro _)|(refine W.gsB zr zr zr zr ?_ ?_<;>intro _)|refine W.done zr ?_|refine W.doneN zr ?_
    exact .inl ⟨h0,rfl⟩
  rw [if_pos h0]
  have hck:checkS t=none:=checkS_ne h0
  rw [h0] at hc
  have hrl:=(check_code hck).2
  by_cases h1:snapE w=0
  rotate_left
  · generalize snapE w=e at hs h1 ⊢
    repeat first|refine W.callP rfl rfl rfl rfl hc ?_|refine W.callP rfl rfl rfl rfl hs ?_|(with_reducible first|refine za ?_|refine zb ?_|refine zc ?_)|refine ym zr ?_|refine yn 0 zr ?_|refine yn 1 zr ?_|refine yn 2 zr ?_|refine yn 3 zr ?_|(refine yo zr ?_;intro _)|(refine yp zr ?_;intro _)|refine yq zr ?_|refine ys zr ?_|refine yu zr ?_|refine yv zr ?_|(with_reducible first|refine zd ?_|refine ze ?_|refine zf ?_|refine zg ?_|refine zh ?_|refine zi ?_|refine zj ?_|refine zk ?_|refine zl ?_)|refine zz zr ?_|refine zw (by decide +kernel) ?_|refine zx zr zr zr ?_|refine zy zr zr ?_|refine W.condT zr ?_|refine W.condF zr ?_
    refine W.condP rfl (fun _=>?_) (fun h=>absurd h1 h)
    repeat' first|(with_reducible first|refine za ?_|refine zb ?_|refine zc ?_)|refine ym zr ?_|refine yn 0 zr ?_|refine yn 1 zr ?_|refine yn 2 zr ?_|refine yn 3 zr ?_|(refine yo zr ?_;intro _)|(refine yp zr ?_;intro _)|refine yq zr ?_|refine ys zr ?_|refine yu zr ?_|refine yv zr ?_|(with_reducible first|refine zd ?_|refine ze ?_|refine zf ?_|refine zg ?_|refine zh ?_|refine zi ?_|refine zj ?_|refine zk ?_|refine zl ?_)|refine zz zr ?_|refine zw (by decide +kernel) ?_|refine zx zr zr zr ?_|refine zy zr zr ?_|(refine W.condP zr ?_ ?_<;>intro _)|refine W.condT zr ?_|refine W.condF zr ?_|(refine W.cond zr ?_ ?_<;>intro _)|(refine W.gs zr zr zr zr ?_ ?_<;>intro _)|(refine W.gsB zr zr zr zr ?_ ?_<;>intro _)|refine W.done zr ?_|refine W.doneN zr ?_
    exact .inl ⟨h1,rfl⟩
  rw [h1] at hs ⊢
  have hcp:=evalCopied_c (g:=g) hp2 ht hr
  have hmo:=(modeCopyP_c (V:=V) hp3 ht.regs.2.1 (by omega) 0).mono (Q':=fun o Δ=>∃i,o=RO.ret (AV.agg [.int .i64 0,(gS i t.regs.l).v])∧∃R,Δ=R++gD iC 2 1 i t.regs.l) fun o Δ h=>by obtain ⟨i,R,h1,h2⟩:=h;exact ⟨i,h1,R,h2⟩
  repeat first|refine W.callP rfl rfl rfl rfl hc ?_|refine W.callP rfl rfl rfl rfl hs ?_|(with_reducible first|refine za ?_|refine zb ?_|refine zc ?_)|refine ym zr ?_|refine yn 0 zr ?_|refine yn 1 zr ?_|refine yn 2 zr ?_|refine yn 3 zr ?_|(refine yo zr ?_;intro _)|(refine yp zr ?_;intro _)|refine yq zr ?_|refine ys zr ?_|refine yu zr ?_|refine yv zr ?_|(with_reducible first|refine zd ?_|refine ze ?_|refine zf ?_|refine zg ?_|refine zh ?_|refine zi ?_|refine zj ?_|refine zk ?_|refine zl ?_)|refine zz zr ?_|refine zw (by decide +kernel) ?_|refine zx zr zr zr ?_|refine zy zr zr ?_|refine W.condT zr ?_|refine W.condF zr ?_
  rename_i it iw
  refine W.drawG _ [(2,1,2)] 4 (by decide +kernel) tbl tblOk ⟨⟨_,_,_,iw,0,w.v,rfl,rfl,by simp [sameA,sameL,Snap.v],?_,?_⟩,trivial⟩ (.inr ⟨hC,?_⟩) ?_
  · show W _ _ _ _ _ [.o false _ [_,_]] _ _ _ _
    repeat' first|(refine W.callN (val:=fun c:Table=>c.v) rfl rfl rfl rfl hcp ?_;intro T D hT)|(with_reducible first|refine za ?_|refine zb ?_|refine zc ?_)|refine ym zr ?_|refine yn 0 zr ?_|refine yn 1 zr ?_|refine yn 2 zr ?_|refine yn 3 zr ?_|(refine yo zr ?_;intro _)|(refine yp zr ?_;intro _)|refine yq zr ?_|refine ys zr ?_|refine yu zr ?_|refine yv zr ?_|(with_reducible first|refine zd ?_|refine ze ?_|refine zf ?_|refine zg ?_|refine zh ?_|refine zi ?_|refine zj ?_|refine zk ?_|refine zl ?_)|refine zz zr ?_|refine zw (by decide +kernel) ?_|refine zx zr zr zr ?_|refine zy zr zr ?_|(refine W.condP zr ?_ ?_<;>intro _)|refine W.condT zr ?_|refine W.condF zr ?_|(refine W.cond zr ?_ ?_<;>intro _)|(refine W.gs zr zr zr zr ?_ ?_<;>intro _)|(refine W.gsB zr zr zr zr ?_ ?_<;>intro _)|refine W.done zr ?_|refine W.doneN zr ?_
    exact ⟨rfl,_,_,List.mem_append_left _ (.head _),rfl,rfl⟩
  · intro j hj1 hj2
    obtain rfl|rfl:j=1∨j=2:=by have h1:1≤j:=hj1;have h2:j≤2:=hj2;omega
    · show W _ _ _ _ _ [.o false _ [_]] _ _ _ _
      repeat' first|(with_reducible first|refine za ?_|refine zb ?_|refine zc ?_)|refine ym zr ?_|refine yn 0 zr ?_|refine yn 1 zr ?_|refine yn 2 zr ?_|refine yn 3 zr ?_|(refine yo zr ?_;intro _)|(refine yp zr ?_;intro _)|refine yq zr ?_|refine ys zr ?_|refine yu zr ?_|refine yv zr ?_|(with_reducible first|refine zd ?_|refine ze ?_|refine zf ?_|refine zg ?_|refine zh ?_|refine zi ?_|refine zj ?_|refine zk ?_|refine zl ?_)|refine zz zr ?_|refine zw (by decide +kernel) ?_|refine zx zr zr zr ?_|refine zy zr zr ?_|(refine W.condP zr ?_ ?_<;>intro _)|refine W.condT zr ?_|refine W.condF zr ?_|(refine W.cond zr ?_ ?_<;>intro _)|(refine W.gs zr zr zr zr ?_ ?_<;>intro _)|(refine W.gsB zr zr zr zr ?_ ?_<;>intro _)|refine W.done zr ?_|refine W.doneN zr ?_
      exact ⟨_,_,.head _,rfl,rfl⟩
    · show W _ _ _ _ _ [.o false _ [_,_]] _ _ _ _
      repeat' first|(refine W.callN (val:=fun c:Table=>c.v) rfl rfl rfl rfl hcp ?_;intro T D hT)|(with_reducible first|refine za ?_|refine zb ?_|refine zc ?_)|refine ym zr ?_|refine yn 0 zr ?_|refine yn 1 zr ?_|refine yn 2 zr ?_|refine yn 3 zr ?_|(refine yo zr ?_;intro _)|(refine yp zr ?_;intro _)|refine yq zr ?_|refine ys zr ?_|refine yu zr ?_|refine yv zr ?_|(with_reducible first|refine zd ?_|refine ze ?_|refine zf ?_|refine zg ?_|refine zh ?_|refine zi ?_|refine zj ?_|refine zk ?_|refine zl ?_)|refine zz zr ?_|refine zw (by decide +kernel) ?_|refine zx zr zr zr ?_|refine zy zr zr ?_|(refine W.condP zr ?_ ?_<;>intro _)|refine W.condT zr ?_|refine W.condF zr ?_|(refine W.cond zr ?_ ?_<;>intro _)|(refine W.gs zr zr zr zr ?_ ?_<;>intro _)|(refine W.gsB zr zr zr zr ?_ ?_<;>intro _)|refine W.done zr ?_|refine W.doneN zr ?_
      exact ⟨_,_,List.mem_append_left _ (.head _),rfl,rfl⟩
  · intro j hj
    obtain rfl|rfl|rfl|rfl:j=0∨j=1∨j=2∨j=3:=by omega
    · show W _ _ _ _ _ [.o false _ []] _ _ _ _
      repeat' first|(with_reducible first|refine za ?_|refine zb ?_|refine zc ?_)|refine ym zr ?_|refine yn 0 zr ?_|refine yn 1 zr ?_|refine yn 2 zr ?_|refine yn 3 zr ?_|(refine yo zr ?_;intro _)|(refine yp zr ?_;intro _)|refine yq zr ?_|refine ys zr ?_|refine yu zr ?_|refine yv zr ?_|(with_reducible first|refine zd ?_|refine ze ?_|refine zf ?_|refine zg ?_|refine zh ?_|refine zi ?_|refine zj ?_|refine zk ?_|refine zl ?_)|refine zz zr ?_|refine zw (by decide +kernel) ?_|refine zx zr zr zr ?_|refine zy zr zr ?_|(refine W.condP zr ?_ ?_<;>intro _)|refine W.condT zr ?_|refine W.condF zr ?_|(refine W.cond zr ?_ ?_<;>intro _)|(refine W.gs zr zr zr zr ?_ ?_<;>intro _)|(refine W.gsB zr zr zr zr ?_ ?_<;>intro _)|refine W.done zr ?_|refine W.doneN zr ?_
      trivial
    · show W _ _ _ _ _ [.o false _ [_]] _ _ _ _
      repeat' first|(with_reducible first|refine za ?_|refine zb ?_|refine zc ?_)|refine ym zr ?_|refine yn 0 zr ?_|refine yn 1 zr ?_|refine yn 2 zr ?_|refine yn 3 zr ?_|(refine yo zr ?_;intro _)|(refine yp zr ?_;intro _)|refine yq zr ?_|refine ys zr ?_|refine yu zr ?_|refine yv zr ?_|(with_reducible first|refine zd ?_|refine ze ?_|refine zf ?_|refine zg ?_|refine zh ?_|refine zi ?_|refine zj ?_|refine zk ?_|refine zl ?_)|refine zz zr ?_|refine zw (by decide +kernel) ?_|refine zx zr zr zr ?_|refine zy zr zr ?_|(refine W.condP zr ?_ ?_<;>intro _)|refine W.condT zr ?_|refine W.condF zr ?_|(refine W.cond zr ?_ ?_<;>intro _)|(refine W.gs zr zr zr zr ?_ ?_<;>intro _)|(refine W.gsB zr zr zr zr ?_ ?_<;>intro _)|refine W.done zr ?_|refine W.doneN zr ?_
      trivial
    · show W _ _ _ _ _ [.o false _ [_,_]] _ _ _ _
      repeat' first|(refine W.callN (val:=fun c:Table=>c.v) rfl rfl rfl rfl hcp ?_;intro T D hT)|(with_reducible first|refine za ?_|refine zb ?_|refine zc ?_)|refine ym zr ?_|refine yn 0 zr ?_|refine yn 1 zr ?_|refine yn 2 zr ?_|refine yn 3 zr ?_|(refine yo zr ?_;intro _)|(refine yp zr ?_;intro _)|refine yq zr ?_|refine ys zr ?_|refine yu zr ?_|refine yv zr ?_|(with_reducible first|refine zd ?_|refine ze ?_|refine zf ?_|refine zg ?_|refine zh ?_|refine zi ?_|refine zj ?_|refine zk ?_|refine zl ?_)|refine zz zr ?_|refine zw (by decide +kernel) ?_|refine zx zr zr zr ?_|refine zy zr zr ?_|(refine W.condP zr ?_ ?_<;>intro _)|refine W.condT zr ?_|refine W.condF zr ?_|(refine W.cond zr ?_ ?_<;>intro _)|(refine W.gs zr zr zr zr ?_ ?_<;>intro _)|(refine W.gsB zr zr zr zr ?_ ?_<;>intro _)|refine W.done zr ?_|refine W.doneN zr ?_
      trivial
    · show W _ _ _ _ _ [.o false _ [_,_,_]] _ _ _ _
      repeat' first|(refine W.callN (val:=fun c:Table=>c.v) rfl rfl rfl rfl hcp ?_;intro T D hT)|(with_reducible first|refine za ?_|refine zb ?_|refine zc ?_)|refine ym zr ?_|refine yn 0 zr ?_|refine yn 1 zr ?_|refine yn 2 zr ?_|refine yn 3 zr ?_|(refine yo zr ?_;intro _)|(refine yp zr ?_;intro _)|refine yq zr ?_|refine ys zr ?_|refine yu zr ?_|refine yv zr ?_|(with_reducible first|refine zd ?_|refine ze ?_|refine zf ?_|refine zg ?_|refine zh ?_|refine zi ?_|refine zj ?_|refine zk ?_|refine zl ?_)|refine zz zr ?_|refine zw (by decide +kernel) ?_|refine zx zr zr zr ?_|refine zy zr zr ?_|(refine W.condP zr ?_ ?_<;>intro _)|refine W.condT zr ?_|refine W.condF zr ?_|(refine W.cond zr ?_ ?_<;>intro _)|(refine W.gs zr zr zr zr ?_ ?_<;>intro _)|(refine W.gsB zr zr zr zr ?_ ?_<;>intro _)|refine W.done zr ?_|refine W.doneN zr ?_
      trivial
  repeat' first|(refine W.callN (val:=fun c:Table=>c.v) rfl rfl rfl rfl hcp ?_;intro T D hT)|refine W.mkMap rfl rfl ?_|(intro km)|(refine W.callN (val:=fun i=>.agg [.int .i64 0,(gS i t.regs.l).v]) rfl rfl rfl rfl hmo ?_;rintro jr _ ⟨R,rfl⟩)|(with_reducible first|refine za ?_|refine zb ?_|refine zc ?_)|refine ym zr ?_|refine yn 0 zr ?_|refine yn 1 zr ?_|refine yn 2 zr ?_|refine yn 3 zr ?_|(refine yo zr ?_;intro _)|(refine yp zr ?_;intro _)|refine yq zr ?_|refine ys zr ?_|refine yu zr ?_|refine yv zr ?_|(with_reducible first|refine zd ?_|refine ze ?_|refine zf ?_|refine zg ?_|refine zh ?_|refine zi ?_|refine zj ?_|refine zk ?_|refine zl ?_)|refine zz zr ?_|refine zw (by decide +kernel) ?_|refine zx zr zr zr ?_|refine zy zr zr ?_|(refine W.condP zr ?_ ?_<;>intro _)|refine W.condT zr ?_|refine W.condF zr ?_|(refine W.cond zr ?_ ?_<;>intro _)|(refine W.gs zr zr zr zr ?_ ?_<;>intro _)|(refine W.gsB zr zr zr zr ?_ ?_<;>intro _)|refine W.done zr ?_|refine W.doneN zr ?_
  exact .inr ⟨rfl,_,rfl,T,jr,km,D,_,hT,.cons _ (.cons _ (pm2 _ _ D R _))⟩
theorem evStart_c (hp:Plain g 40=true) (hp3:Plain g 60=true) {k jr km:K} {T:Table} (hr:T.regs.In V false 1 (AV.int .i64)) (hrl:T.regs.l.length≤10000000) (e:Ev) (es:List (AV×AV×Nat)) (c:Nat) :
    Cl Tryz.prog g V 40 [.ptr (some (k,0))] [evB k T jr km e,(km,.mp es c)] fun o Δ=>o=.ret (.tup [])∧∃jr' R,Δ.Perm (evB k T jr' km (evR T e)::(km,.mp [] c)::(gD iC 2 1 jr' T.regs.l++R)):=by
  refine Cl.enter hp Tryz.func40 rfl ?_
  have hmo:=(modeCopyP_c (V:=V) hp3 hr hrl 0).mono (Q':=fun o Δ=>∃i,o=RO.ret (AV.agg [.int .i64 0,(gS i T.regs.l).v])∧∃R,Δ=R++gD iC 2 1 i T.regs.l) fun o Δ h=>by obtain ⟨i,R,h1,h2⟩:=h;exact ⟨i,h1,R,h2⟩
  unfold evB evC
  repeat' first|(refine W.fr1 ?_;refine W.mclr rfl mclr_pl rfl ?_)|(refine W.callN (val:=fun i=>.agg [.int .i64 0,(gS i T.regs.l).v]) rfl rfl rfl rfl hmo ?_;rintro jr' _ ⟨R,rfl⟩)|(with_reducible first|refine za ?_|refine zb ?_|refine zc ?_)|refine ym zr ?_|refine yn 0 zr ?_|refine yn 1 zr ?_|refine yn 2 zr ?_|refine yn 3 zr ?_|(refine yo zr ?_;intro _)|(refine yp zr ?_;intro _)|refine yq zr ?_|refine ys zr ?_|refine yu zr ?_|refine yv zr ?_|(with_reducible first|refine zd ?_|refine ze ?_|refine zf ?_|refine zg ?_|refine zh ?_|refine zi ?_|refine zj ?_|refine zk ?_|refine zl ?_)|refine zz zr ?_|refine zw (by decide +kernel) ?_|refine zx zr zr zr ?_|refine zy zr zr ?_|(refine W.condP zr ?_ ?_<;>intro _)|refine W.condT zr ?_|refine W.condF zr ?_|(refine W.cond zr ?_ ?_<;>intro _)|(refine W.gs zr zr zr zr ?_ ?_<;>intro _)|(refine W.gsB zr zr zr zr ?_ ?_<;>intro _)|refine W.done zr ?_|refine W.doneN zr ?_
  refine ⟨rfl,jr',R,.cons _ (.cons _ ?_)⟩
  show List.Perm (R++gD iC 2 1 jr' T.regs.l) _
  exact List.perm_append_comm
theorem evTurn0_c (hp:Plain g 37=true) {k jr km:K} {T:Table} {e:Ev} (hk:V k=some (evC T jr km e)) (he:¬e.st=1) (b f:AV) :
    Cl Tryz.prog g V 37 [.ptr (some (k,0)),b,f] [] fun o _=>o=.ret (.agg [.int .i64 (-1),.bool false,.slice none 0 (.ex 0),.int .u8 e.st,.int .i64 e.code,.int .i64 0]):=by
  refine Cl.enter hp Tryz.func37 rfl ?_
  repeat first|(with_reducible first|refine za ?_|refine zb ?_|refine zc ?_)|refine ym zr ?_|refine yn 0 zr ?_|refine yn 1 zr ?_|refine yn 2 zr ?_|refine yn 3 zr ?_|(refine yo zr ?_;intro _)|(refine yp zr ?_;intro _)|refine yq zr ?_|refine ys zr ?_|refine yu zr ?_|refine yv zr ?_|(with_reducible first|refine zd ?_|refine ze ?_|refine zf ?_|refine zg ?_|refine zh ?_|refine zi ?_|refine zj ?_|refine zk ?_|refine zl ?_)|refine zz zr ?_|refine zw (by decide +kernel) ?_|refine zx zr zr zr ?_|refine zy zr zr ?_|refine W.condT zr ?_|refine W.condF zr ?_
  refine W.scope ?_
  repeat first|refine W.ldV tblOk rfl rfl rfl hk rfl ?_|(with_reducible first|refine za ?_|refine zb ?_|refine zc ?_)|refine ym zr ?_|refine yn 0 zr ?_|refine yn 1 zr ?_|refine yn 2 zr ?_|refine yn 3 zr ?_|(refine yo zr ?_;intro _)|(refine yp zr ?_;intro _)|refine yq zr ?_|refine ys zr ?_|refine yu zr ?_|refine yv zr ?_|(with_reducible first|refine zd ?_|refine ze ?_|refine zf ?_|refine zg ?_|refine zh ?_|refine zi ?_|refine zj ?_|refine zk ?_|refine zl ?_)|refine zz zr ?_|refine zw (by decide +kernel) ?_|refine zx zr zr zr ?_|refine zy zr zr ?_|refine W.condT zr ?_|refine W.condF zr ?_
  refine W.condP rfl (fun _=>?_) (fun h=>absurd he h)
  repeat' first|refine W.uret ?_|refine W.ldV tblOk rfl rfl rfl hk rfl ?_|refine W.doneC tblOk (.cell 0 rfl rfl rfl rfl .nil) ?_|(with_reducible first|refine za ?_|refine zb ?_|refine zc ?_)|refine ym zr ?_|refine yn 0 zr ?_|refine yn 1 zr ?_|refine yn 2 zr ?_|refine yn 3 zr ?_|(refine yo zr ?_;intro _)|(refine yp zr ?_;intro _)|refine yq zr ?_|refine ys zr ?_|refine yu zr ?_|refine yv zr ?_|(with_reducible first|refine zd ?_|refine ze ?_|refine zf ?_|refine zg ?_|refine zh ?_|refine zi ?_|refine zj ?_|refine zk ?_|refine zl ?_)|refine zz zr ?_|refine zw (by decide +kernel) ?_|refine zx zr zr zr ?_|refine zy zr zr ?_|(refine W.condP zr ?_ ?_<;>intro _)|refine W.condT zr ?_|refine W.condF zr ?_|(refine W.cond zr ?_ ?_<;>intro _)|(refine W.gs zr zr zr zr ?_ ?_<;>intro _)|(refine W.gsB zr zr zr zr ?_ ?_<;>intro _)|refine W.done zr ?_|refine W.doneN zr ?_
  rfl
end Go.Proofs.YtoegffiapnnkiaaGreat.Abs
