/- No turn takes more steps or actions than the table's bound: in the abstract machine. No condition but those that each theorem names. -/
import Derived.Test.YtoegffiapnnkiaaGreatBF
import Derived.Test.YtoegffiapnnkiaaGreatMUa
import Derived.Test.YtoegffiapnnkiaaGreatMQ
import Derived.Test.YtoegffiapnnkiaaGreatTW
namespace Go.Proofs.YtoegffiapnnkiaaGreat.Abs
open Go
set_option linter.unusedVariables false
set_option linter.unusedSimpArgs false
set_option maxRecDepth 100000
set_option maxHeartbeats 4000000
theorem bod20:BodG G20:=⟨opr20,stk20,rfl,rfl,rfl,rfl,rfl⟩
theorem check_guards {t:Table} (h:checkS t=none):∀s∈t.states.l,∀g∈s.l,GuardOk t g:=fun s hs g hg=>by
  have hr:=guard_runs h hs hg
  have hro:=statesAt_rest _ _ _ (check_formed h).1.2 s hs g hg
  exact ⟨hr.1,fun r hr'=>⟨(hro.2 r hr').2.2.2,hr.2 r hr',(hro.2 r hr').2.1,(hro.2 r hr').1⟩⟩
theorem turn_bounds {t:Table} (hck:checkS t=none) {w:Snap} (hc:∀n∈t.consts.l,In64 n) (hw:w.Ok) {s:Int} {regs:List Int} (hin:∀n∈regs,In64 n) (hm:ModeOk t s regs.length) (ha:askE t s regs.length w=0) (cf:Bool) :
    (turnF t w s regs cf).2=0∧0≤(turnF t w s regs cf).1.steps∧(turnF t w s regs cf).1.steps≤(statesB t.states.l (0,0)).1∧((turnF t w s regs cf).1.acts.length:Int)≤(statesB t.states.l (0,0)).2∧ModeOk t (turnF t w s regs cf).1.s (turnF t w s regs cf).1.regs.length∧(turnF t w s regs cf).1.steps=(turnF t w s regs true).1.steps:=by
  have hlts:s.toNat<t.states.l.length:=by have:=hm.1;have:=hm.2.1;omega
  have hmem:=List.getElem_mem hlts
  have hgs:=check_guards hck
  unfold turnF
  rw [if_pos ha,if_pos ha]
  show (0:Int)=0∧0≤(guardsF t w s regs cf (t.states.l.getD s.toNat ⟨none,.ex 0,[]⟩).l 0 0).steps∧(guardsF t w s regs cf (t.states.l.getD s.toNat ⟨none,.ex 0,[]⟩).l 0 0).steps≤(statesB t.states.l (0,0)).1∧((guardsF t w s regs cf (t.states.l.getD s.toNat ⟨none,.ex 0,[]⟩).l 0 0).acts.length:Int)≤(statesB t.states.l (0,0)).2∧ModeOk t (guardsF t w s regs cf (t.states.l.getD s.toNat ⟨none,.ex 0,[]⟩).l 0 0).s (guardsF t w s regs cf (t.states.l.getD s.toNat ⟨none,.ex 0,[]⟩).l 0 0).regs.length∧(guardsF t w s regs cf (t.states.l.getD s.toNat ⟨none,.ex 0,[]⟩).l 0 0).steps=(guardsF t w s regs true (t.states.l.getD s.toNat ⟨none,.ex 0,[]⟩).l 0 0).steps
  rw [List.getD_eq_getElem?_getD,List.getElem?_eq_getElem hlts,Option.getD_some]
  obtain ⟨A,h0,h1,h2⟩:=statesB_in (p:=(0,0)) hmem hgs (Int.le_refl _)
  obtain ⟨r1,r2,r3,⟨r4,r5,r6⟩,r7⟩:=guardsF_le hck hc hw (s:=s) (regs:=regs) ⟨hm.2.2,hin,hm.1,hm.2.1⟩ cf t.states.l[s.toNat].l 0 0 0 0 A (hgs _ hmem) (Int.le_refl _) (Int.le_refl _) (Int.le_refl _) h0
  exact ⟨rfl,r1,by omega,by omega,⟨r5,r6,r4⟩,r7⟩
attribute [local irreducible] W Cl Bd
variable {V:K→Option (List AV)} {t:Table}
theorem machineBounds_c (ht:t.Ok V) (hr:t.Room) (s:Int) {regs:Sl Int} (hg:regs.In V false 1 (AV.int .i64)) (hgn:∀n∈regs.l,In64 n) {w:Snap} (hw:w.Ok) :
    Cl Tryz.prog G20 V 6 [t.v,.agg [.int .i64 s,regs.v],w.v] [] fun o _=>o=.ret (.bool true):=by
  refine Cl.enter rfl Tryz.func6 rfl ?_
  have hchk:=checkRC (V:=V) ht hr
  have hmode:=modeR_c (V:=V) ask20 t s regs
  have hbnd:=bound_c (V:=V) (g:=G20) rfl rfl ht (checkC ht hr)
  have hturn:=fun cf=>(turn_c (V:=V) ask20 bod20 rfl ht (checkC ht hr) hg hgn hw s cf).mono (Q':=fun o _=>∃v,o=RO.ret v∧∃jr ja,v=(turnF t w s regs.l cf).1.v jr ja (turnF t w s regs.l cf).2) fun o Δ h=>by obtain ⟨jr,ja,R,h1,-⟩:=h;exact ⟨_,h1,jr,ja,rfl⟩
  by_cases hck:checkS t=none
  rotate_left
  · have hne:(checkS t).getD 0≠0:=fun h=>hck (checkS_ne h)
    clear hturn hbnd
    generalize (checkS t).getD 0=c at hchk hne
    repeat first|refine W.callP rfl rfl rfl rfl awakeC ?_|(refine W.callV rfl rfl rfl rfl (far20_c ht hr s) ?_;rintro _ ⟨b_,rfl,hb_⟩)|refine W.callP rfl rfl rfl rfl hchk ?_|refine W.callP rfl rfl rfl rfl hmode ?_|(with_reducible first|refine za ?_|refine zb ?_|refine zc ?_)|refine ym zr ?_|refine yn 0 zr ?_|refine yn 1 zr ?_|refine yn 2 zr ?_|refine yn 3 zr ?_|(refine yo zr ?_;intro _)|(refine yp zr ?_;intro _)|refine yq zr ?_|refine ys zr ?_|refine yu zr ?_|refine yv zr ?_|(with_reducible first|refine zd ?_|refine ze ?_|refine zf ?_|refine zg ?_|refine zh ?_|refine zi ?_|refine zj ?_|refine zk ?_|refine zl ?_)|refine zz zr ?_|refine zw (by decide +kernel) ?_|refine zx zr zr zr ?_|refine zy zr zr ?_|refine W.condT zr ?_|refine W.condF zr ?_
    cases b_ with
    | true =>
      repeat' first|(with_reducible first|refine za ?_|refine zb ?_|refine zc ?_)|refine ym zr ?_|refine yn 0 zr ?_|refine yn 1 zr ?_|refine yn 2 zr ?_|refine yn 3 zr ?_|(refine yo zr ?_;intro _)|(refine yp zr ?_;intro _)|refine yq zr ?_|refine ys zr ?_|refine yu zr ?_|refine yv zr ?_|(with_reducible first|refine zd ?_|refine ze ?_|refine zf ?_|refine zg ?_|refine zh ?_|refine zi ?_|refine zj ?_|refine zk ?_|refine zl ?_)|refine zz zr ?_|refine zw (by decide +kernel) ?_|refine zx zr zr zr ?_|refine zy zr zr ?_|(refine W.condP zr ?_ ?_<;>intro _)|refine W.condT zr ?_|refine W.condF zr ?_|(refine W.cond zr ?_ ?_<;>intro _)|(refine W.gs zr zr zr zr ?_ ?_<;>intro _)|(refine W.gsB zr zr zr zr ?_ ?_<;>intro _)|refine W.done zr ?_|refine W.doneN zr ?_
      rfl
    | false =>
      repeat' first|(refine W.gs rfl rfl rfl rfl ?_ (fun h=>absurd hne h);intro _)|(with_reducible first|refine za ?_|refine zb ?_|refine zc ?_)|refine ym zr ?_|refine yn 0 zr ?_|refine yn 1 zr ?_|refine yn 2 zr ?_|refine yn 3 zr ?_|(refine yo zr ?_;intro _)|(refine yp zr ?_;intro _)|refine yq zr ?_|refine ys zr ?_|refine yu zr ?_|refine yv zr ?_|(with_reducible first|refine zd ?_|refine ze ?_|refine zf ?_|refine zg ?_|refine zh ?_|refine zi ?_|refine zj ?_|refine zk ?_|refine zl ?_)|refine zz zr ?_|refine zw (by decide +kernel) ?_|refine zx zr zr zr ?_|refine zy zr zr ?_|(refine W.condP zr ?_ ?_<;>intro _)|refine W.condT zr ?_|refine W.condF zr ?_|(refine W.cond zr ?_ ?_<;>intro _)|(refine W.gs zr zr zr zr ?_ ?_<;>intro _)|(refine W.gsB zr zr zr zr ?_ ?_<;>intro _)|refine W.done zr ?_|refine W.doneN zr ?_
      rfl
  have hc0:(checkS t).getD 0=0:=by rw [hck];rfl
  rw [hc0] at hchk
  by_cases hm:ModeOk t s regs.l.length
  rotate_left
  · rw [decide_eq_false hm] at hmode
    clear hturn hbnd
    repeat first|refine W.callP rfl rfl rfl rfl awakeC ?_|(refine W.callV rfl rfl rfl rfl (far20_c ht hr s) ?_;rintro _ ⟨b_,rfl,hb_⟩)|refine W.callP rfl rfl rfl rfl hchk ?_|refine W.callP rfl rfl rfl rfl hmode ?_|(with_reducible first|refine za ?_|refine zb ?_|refine zc ?_)|refine ym zr ?_|refine yn 0 zr ?_|refine yn 1 zr ?_|refine yn 2 zr ?_|refine yn 3 zr ?_|(refine yo zr ?_;intro _)|(refine yp zr ?_;intro _)|refine yq zr ?_|refine ys zr ?_|refine yu zr ?_|refine yv zr ?_|(with_reducible first|refine zd ?_|refine ze ?_|refine zf ?_|refine zg ?_|refine zh ?_|refine zi ?_|refine zj ?_|refine zk ?_|refine zl ?_)|refine zz zr ?_|refine zw (by decide +kernel) ?_|refine zx zr zr zr ?_|refine zy zr zr ?_|refine W.condT zr ?_|refine W.condF zr ?_
    cases b_ with
    | true =>
      repeat' first|(with_reducible first|refine za ?_|refine zb ?_|refine zc ?_)|refine ym zr ?_|refine yn 0 zr ?_|refine yn 1 zr ?_|refine yn 2 zr ?_|refine yn 3 zr ?_|(refine yo zr ?_;intro _)|(refine yp zr ?_;intro _)|refine yq zr ?_|refine ys zr ?_|refine yu zr ?_|refine yv zr ?_|(with_reducible first|refine zd ?_|refine ze ?_|refine zf ?_|refine zg ?_|refine zh ?_|refine zi ?_|refine zj ?_|refine zk ?_|refine zl ?_)|refine zz zr ?_|refine zw (by decide +kernel) ?_|refine zx zr zr zr ?_|refine zy zr zr ?_|(refine W.condP zr ?_ ?_<;>intro _)|refine W.condT zr ?_|refine W.condF zr ?_|(refine W.cond zr ?_ ?_<;>intro _)|(refine W.gs zr zr zr zr ?_ ?_<;>intro _)|(refine W.gsB zr zr zr zr ?_ ?_<;>intro _)|refine W.done zr ?_|refine W.doneN zr ?_
      rfl
    | false =>
      repeat' first|(refine W.gs rfl rfl rfl rfl (fun h=>absurd rfl h) ?_;intro _)|(with_reducible first|refine za ?_|refine zb ?_|refine zc ?_)|refine ym zr ?_|refine yn 0 zr ?_|refine yn 1 zr ?_|refine yn 2 zr ?_|refine yn 3 zr ?_|(refine yo zr ?_;intro _)|(refine yp zr ?_;intro _)|refine yq zr ?_|refine ys zr ?_|refine yu zr ?_|refine yv zr ?_|(with_reducible first|refine zd ?_|refine ze ?_|refine zf ?_|refine zg ?_|refine zh ?_|refine zi ?_|refine zj ?_|refine zk ?_|refine zl ?_)|refine zz zr ?_|refine zw (by decide +kernel) ?_|refine zx zr zr zr ?_|refine zy zr zr ?_|(refine W.condP zr ?_ ?_<;>intro _)|refine W.condT zr ?_|refine W.condF zr ?_|(refine W.cond zr ?_ ?_<;>intro _)|(refine W.gs zr zr zr zr ?_ ?_<;>intro _)|(refine W.gsB zr zr zr zr ?_ ?_<;>intro _)|refine W.done zr ?_|refine W.doneN zr ?_
      rfl
  rw [decide_eq_true hm] at hmode
  have hbv:boundV t=.tup [.agg [.int .i64 (statesB t.states.l (0,0)).1,.int .i64 (statesB t.states.l (0,0)).2],.int .i64 0]:=by unfold boundV;rw [hck]
  rw [hbv] at hbnd
  clear hbv
  have hask:askE t s regs.l.length w=snapE w:=by unfold askE;rw [if_pos hc0,if_pos hm]
  have ht1:=hturn true
  have ht2:=hturn false
  clear hturn
  by_cases hgood:w.Good
  rotate_left
  · have hs1:snapE w=100:=by unfold snapE;rw [if_neg hgood]
    have he:∀cf,turnF t w s regs.l cf=(⟨0,false,[],0,0,0,0,[]⟩,100):=fun cf=>by unfold turnF;rw [if_neg (by rw [hask,hs1];decide),hask,hs1]
    rw [he] at ht1 ht2
    simp only at ht1 ht2
    generalize statesB t.states.l (0,0)=p at hbnd
    repeat first|refine W.callP rfl rfl rfl rfl awakeC ?_|(refine W.callV rfl rfl rfl rfl (far20_c ht hr s) ?_;rintro _ ⟨b_,rfl,hb_⟩)|refine W.callP rfl rfl rfl rfl hchk ?_|refine W.callP rfl rfl rfl rfl hmode ?_|(with_reducible first|refine za ?_|refine zb ?_|refine zc ?_)|refine ym zr ?_|refine yn 0 zr ?_|refine yn 1 zr ?_|refine yn 2 zr ?_|refine yn 3 zr ?_|(refine yo zr ?_;intro _)|(refine yp zr ?_;intro _)|refine yq zr ?_|refine ys zr ?_|refine yu zr ?_|refine yv zr ?_|(with_reducible first|refine zd ?_|refine ze ?_|refine zf ?_|refine zg ?_|refine zh ?_|refine zi ?_|refine zj ?_|refine zk ?_|refine zl ?_)|refine zz zr ?_|refine zw (by decide +kernel) ?_|refine zx zr zr zr ?_|refine zy zr zr ?_|refine W.condT zr ?_|refine W.condF zr ?_
    cases b_ with
    | true =>
      repeat' first|(with_reducible first|refine za ?_|refine zb ?_|refine zc ?_)|refine ym zr ?_|refine yn 0 zr ?_|refine yn 1 zr ?_|refine yn 2 zr ?_|refine yn 3 zr ?_|(refine yo zr ?_;intro _)|(refine yp zr ?_;intro _)|refine yq zr ?_|refine ys zr ?_|refine yu zr ?_|refine yv zr ?_|(with_reducible first|refine zd ?_|refine ze ?_|refine zf ?_|refine zg ?_|refine zh ?_|refine zi ?_|refine zj ?_|refine zk ?_|refine zl ?_)|refine zz zr ?_|refine zw (by decide +kernel) ?_|refine zx zr zr zr ?_|refine zy zr zr ?_|(refine W.condP zr ?_ ?_<;>intro _)|refine W.condT zr ?_|refine W.condF zr ?_|(refine W.cond zr ?_ ?_<;>intro _)|(refine W.gs zr zr zr zr ?_ ?_<;>intro _)|(refine W.gsB zr zr zr zr ?_ ?_<;>intro _)|refine W.done zr ?_|refine W.doneN zr ?_
      rfl
    | false =>
      repeat' first|(refine W.gs rfl rfl rfl rfl (fun h=>absurd rfl h) ?_;intro _)|refine W.callP rfl rfl rfl rfl hbnd ?_|(refine W.callV rfl rfl rfl rfl ht1 ?_;rintro _ ⟨j1_,j2_,rfl⟩)|(refine W.callV rfl rfl rfl rfl ht2 ?_;rintro _ ⟨j3_,j4_,rfl⟩)|refine yn 4 zr ?_|refine yn 5 zr ?_|refine yn 6 zr ?_|refine yn 7 zr ?_|(with_reducible first|refine za ?_|refine zb ?_|refine zc ?_)|refine ym zr ?_|refine yn 0 zr ?_|refine yn 1 zr ?_|refine yn 2 zr ?_|refine yn 3 zr ?_|(refine yo zr ?_;intro _)|(refine yp zr ?_;intro _)|refine yq zr ?_|refine ys zr ?_|refine yu zr ?_|refine yv zr ?_|(with_reducible first|refine zd ?_|refine ze ?_|refine zf ?_|refine zg ?_|refine zh ?_|refine zi ?_|refine zj ?_|refine zk ?_|refine zl ?_)|refine zz zr ?_|refine zw (by decide +kernel) ?_|refine zx zr zr zr ?_|refine zy zr zr ?_|(refine W.condP zr ?_ ?_<;>intro _)|refine W.condT zr ?_|refine W.condF zr ?_|(refine W.cond zr ?_ ?_<;>intro _)|(refine W.gs zr zr zr zr ?_ ?_<;>intro _)|(refine W.gsB zr zr zr zr ?_ ?_<;>intro _)|refine W.done zr ?_|refine W.doneN zr ?_
      all_goals first|rfl|contradiction
  have ha0:askE t s regs.l.length w=0:=by rw [hask];unfold snapE;rw [if_pos hgood]
  have f1:=turn_bounds hck ht.consts.2.2 hw hgn hm ha0 true
  have f2:=turn_bounds hck ht.consts.2.2 hw hgn hm ha0 false
  generalize turnF t w s regs.l true=T at ht1 f1 f2
  generalize turnF t w s regs.l false=T' at ht2 f2
  generalize statesB t.states.l (0,0)=p at hbnd f1 f2
  obtain ⟨T,e1⟩:=T
  obtain ⟨T',e2⟩:=T'
  simp only at f1 f2 ht1 ht2
  obtain ⟨rfl,a1,a2,a3,a4,-⟩:=f1
  obtain ⟨rfl,-,-,-,-,a5⟩:=f2
  have a6:∀ja,((gS ja T.acts).l.length:Int)≤p.2:=fun ja=>by rw [gS_l];exact a3
  have hm2:∀jr,Cl Tryz.prog G20 V 30 [t.v,.agg [.int .i64 T.s,(gS jr T.regs).v]] [] fun o _=>o=.ret (.bool true):=fun jr=>by
    have h:=modeR_c (V:=V) ask20 t T.s (gS jr T.regs)
    rw [gS_l,decide_eq_true a4] at h
    exact h
  repeat first|refine W.callP rfl rfl rfl rfl awakeC ?_|(refine W.callV rfl rfl rfl rfl (far20_c ht hr s) ?_;rintro _ ⟨b_,rfl,hb_⟩)|refine W.callP rfl rfl rfl rfl hchk ?_|refine W.callP rfl rfl rfl rfl hmode ?_|(with_reducible first|refine za ?_|refine zb ?_|refine zc ?_)|refine ym zr ?_|refine yn 0 zr ?_|refine yn 1 zr ?_|refine yn 2 zr ?_|refine yn 3 zr ?_|(refine yo zr ?_;intro _)|(refine yp zr ?_;intro _)|refine yq zr ?_|refine ys zr ?_|refine yu zr ?_|refine yv zr ?_|(with_reducible first|refine zd ?_|refine ze ?_|refine zf ?_|refine zg ?_|refine zh ?_|refine zi ?_|refine zj ?_|refine zk ?_|refine zl ?_)|refine zz zr ?_|refine zw (by decide +kernel) ?_|refine zx zr zr zr ?_|refine zy zr zr ?_|refine W.condT zr ?_|refine W.condF zr ?_
  cases b_ with
  | true =>
    repeat' first|(with_reducible first|refine za ?_|refine zb ?_|refine zc ?_)|refine ym zr ?_|refine yn 0 zr ?_|refine yn 1 zr ?_|refine yn 2 zr ?_|refine yn 3 zr ?_|(refine yo zr ?_;intro _)|(refine yp zr ?_;intro _)|refine yq zr ?_|refine ys zr ?_|refine yu zr ?_|refine yv zr ?_|(with_reducible first|refine zd ?_|refine ze ?_|refine zf ?_|refine zg ?_|refine zh ?_|refine zi ?_|refine zj ?_|refine zk ?_|refine zl ?_)|refine zz zr ?_|refine zw (by decide +kernel) ?_|refine zx zr zr zr ?_|refine zy zr zr ?_|(refine W.condP zr ?_ ?_<;>intro _)|refine W.condT zr ?_|refine W.condF zr ?_|(refine W.cond zr ?_ ?_<;>intro _)|(refine W.gs zr zr zr zr ?_ ?_<;>intro _)|(refine W.gsB zr zr zr zr ?_ ?_<;>intro _)|refine W.done zr ?_|refine W.doneN zr ?_
    rfl
  | false =>
    repeat' first|(refine W.gs rfl rfl rfl rfl (fun h=>absurd rfl h) ?_;intro _)|refine W.callP rfl rfl rfl rfl hbnd ?_|(refine W.callV rfl rfl rfl rfl ht1 ?_;rintro _ ⟨j1_,j2_,rfl⟩)|(refine W.callV rfl rfl rfl rfl ht2 ?_;rintro _ ⟨j3_,j4_,rfl⟩)|refine yn 4 zr ?_|refine yn 5 zr ?_|refine yn 6 zr ?_|refine yn 7 zr ?_|refine W.callP rfl rfl rfl rfl (hm2 _) ?_|(refine W.gs rfl rfl rfl rfl ?_ (fun h=>absurd a1 h);intro _)|(refine W.gs rfl rfl rfl rfl ?_ (fun h=>absurd a2 h);intro _)|(refine W.gs rfl rfl rfl rfl ?_ (fun h=>absurd a5 h);intro _)|(refine W.gs rfl rfl rfl rfl ?_ (fun h=>absurd (a6 _) h);intro _)|(with_reducible first|refine za ?_|refine zb ?_|refine zc ?_)|refine ym zr ?_|refine yn 0 zr ?_|refine yn 1 zr ?_|refine yn 2 zr ?_|refine yn 3 zr ?_|(refine yo zr ?_;intro _)|(refine yp zr ?_;intro _)|refine yq zr ?_|refine ys zr ?_|refine yu zr ?_|refine yv zr ?_|(with_reducible first|refine zd ?_|refine ze ?_|refine zf ?_|refine zg ?_|refine zh ?_|refine zi ?_|refine zj ?_|refine zk ?_|refine zl ?_)|refine zz zr ?_|refine zw (by decide +kernel) ?_|refine zx zr zr zr ?_|refine zy zr zr ?_|(refine W.condP zr ?_ ?_<;>intro _)|refine W.condT zr ?_|refine W.condF zr ?_|(refine W.cond zr ?_ ?_<;>intro _)|(refine W.gs zr zr zr zr ?_ ?_<;>intro _)|(refine W.gsB zr zr zr zr ?_ ?_<;>intro _)|refine W.done zr ?_|refine W.doneN zr ?_
    all_goals first|rfl|contradiction
end Go.Proofs.YtoegffiapnnkiaaGreat.Abs
