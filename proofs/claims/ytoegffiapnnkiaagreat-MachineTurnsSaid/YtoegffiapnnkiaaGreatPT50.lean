/- Parts of one proof. No condition but those that each theorem names. -/
import Derived.Test.YtoegffiapnnkiaaGreatPT39
import Derived.Test.YtoegffiapnnkiaaGreatPT41
import Derived.Test.YtoegffiapnnkiaaGreatPT43
import Derived.Test.YtoegffiapnnkiaaGreatPT45
import Derived.Test.YtoegffiapnnkiaaGreatPT48
import Derived.Test.YtoegffiapnnkiaaGreatPT49
namespace Go.Proofs.YtoegffiapnnkiaaGreat.Abs
open Go
set_option linter.unusedVariables false
set_option linter.unusedSimpArgs false
set_option maxRecDepth 100000
set_option maxHeartbeats 4000000
theorem permC {α:Type} {l m:List α} (h:∀(_:DecidableEq α) (a:α),List.count a l=List.count a m):l.Perm m:=by
  have:DecidableEq α:=Classical.typeDecidableEq α
  exact List.perm_iff_count.2 fun a=>h _ a
def sing (x:K×Bk):Dm:=[x]
theorem consS (x:K×Bk) (l:Dm):x::l=sing x++l:=rfl
theorem partF_er (t:Table) (w:Snap) (b:Bod) (x:Span):partF t.er w b x=partF t w b x:=by unfold partF;rw [runF_er]
theorem rowF_er (t:Table) (w:Snap) (b:Bod) (r:Row):rowF t.er w b r=rowF t w b r:=by
  unfold rowF layF sideF
  simp only [partF_er]
theorem doF_er (t:Table) (w:Snap):∀(l:List Row) (b:Bod),doF t.er w l b=doF t w l b
  | [],b=>rfl
  | r::l,b=>by unfold doF;rw [rowF_er,doF_er t w l]
theorem guardsF_er (t:Table) (w:Snap) (s:Int) (regs:List Int) (cf:Bool):∀(l:List Guard) (i n:Int),guardsF t.er w s regs cf (l.map Guard.er) i n=guardsF t w s regs cf l i n
  | [],_,_=>rfl
  | g::l,i,n=>by
    have hw:whenF t.er w regs g.when=whenF t w regs g.when:=by unfold whenF;rw [runF_er]
    show guardsF t.er w s regs cf (g.er::l.map Guard.er) i n=_
    unfold guardsF
    show (if (whenF t.er w regs g.when).2.2=0 then (if (whenF t.er w regs g.when).1=0 then guardsF t.er w s regs cf (l.map Guard.er) (i+1) (n+(whenF t.er w regs g.when).2.1) else fireF t.er w s regs cf g.rows.l i (n+(whenF t.er w regs g.when).2.1)) else ⟨-1,false,[],3,(whenF t.er w regs g.when).2.2,n+(whenF t.er w regs g.when).2.1,s,regs⟩)=_
    rw [hw,guardsF_er t w s regs cf l]
    unfold fireF
    rw [doF_er]
theorem turnF_er (t:Table) (w:Snap) (s:Int) (regs:List Int) (cf:Bool):turnF t.er w s regs cf=turnF t w s regs cf:=by
  unfold turnF
  rw [askE_er]
  have e:(t.er.states.l.getD s.toNat ⟨none,.ex 0,[]⟩).l=(t.states.l.getD s.toNat ⟨none,.ex 0,[]⟩).l.map Guard.er:=by
    show ((t.states.l.map erG).getD s.toNat ⟨none,.ex 0,[]⟩).l=_
    rw [List.getD_eq_getElem?_getD,List.getD_eq_getElem?_getD,List.getElem?_map]
    cases t.states.l[s.toNat]?<;>rfl
  rw [e,guardsF_er]
theorem SameT.turn {x y:Table} (h:SameT x y) (w:Snap) (s:Int) (regs:List Int) (cf:Bool):turnF x w s regs cf=turnF y w s regs cf:=by
  rw [←turnF_er x,←turnF_er y,h.er]
theorem rowsB_n:∀l:List Row,(rowsB l (0,0)).2≤(l.length:Int)
  | []=>Int.le_refl _
  | r::l=>by
    have h1:=rowsB_n l
    show (rowsB l _).2≤_
    rw [rowsB_add,List.length_cons]
    simp only
    split<;>omega
theorem guardsF_size {t:Table} (hck:checkS t=none) {w:Snap} (hc:∀n∈t.consts.l,In64 n) (hw:w.Ok) {s:Int} {regs:List Int} (hb:BodOk t (bod0 s regs)) (cf:Bool):∀(l:List Guard) (i n:Int),(∀g∈l,(∀r∈g.rows.l,RowOk t r)∧g.rows.l.length≤8) →
    (guardsF t w s regs cf l i n).regs.length=regs.length∧(guardsF t w s regs cf l i n).acts.length≤8
  | [],_,_,_=>⟨rfl,Nat.zero_le _⟩
  | g::l,i,n,h=>by
    obtain ⟨h1,h2⟩:=h g (by simp)
    obtain ⟨k1,-,-,k4⟩:=doF_ok hck hc hw g.rows.l (bod0 s regs) h1 hb
    have k5:=rowsB_n g.rows.l
    have k6:=k1.len
    have k7:regs.length=t.regs.l.length:=hb.len
    have k8:((doF t w g.rows.l (bod0 s regs)).acts.length:Int)≤((0:Nat):Int)+(rowsB g.rows.l (0,0)).2:=k4
    unfold guardsF
    split
    · split
      · exact guardsF_size hck hc hw hb cf l _ _ fun x hx=>h x (by simp [hx])
      · unfold fireF
        split
        · split
          · exact ⟨rfl,Nat.zero_le _⟩
          · exact ⟨by show (doF t w g.rows.l (bod0 s regs)).regs.length=_;omega,by show (doF t w g.rows.l (bod0 s regs)).acts.length≤8;omega⟩
        · exact ⟨rfl,Nat.zero_le _⟩
    · exact ⟨rfl,Nat.zero_le _⟩
theorem turnF_size {t:Table} {w:Snap} (hc:∀n∈t.consts.l,In64 n) (hw:w.Ok) {s:Int} {regs:List Int} (hin:∀n∈regs,In64 n) (cf:Bool):(turnF t w s regs cf).1.regs.length≤regs.length∧(turnF t w s regs cf).1.acts.length≤8:=by
  unfold turnF
  split
  · rename_i h0
    obtain ⟨hck,hmo,-⟩:=askE_0 h0
    have hlts:s.toNat<t.states.l.length:=by have:=hmo.1;have:=hmo.2.1;omega
    rw [List.getD_eq_getElem?_getD,List.getElem?_eq_getElem hlts,Option.getD_some]
    have hmem:=List.getElem_mem hlts
    obtain ⟨h1,h2⟩:=guardsF_size hck hc hw (s:=s) (regs:=regs) ⟨hmo.2.2,hin,hmo.1,hmo.2.1⟩ cf t.states.l[s.toNat].l 0 0 fun g hg=>by
      have hr:=guard_runs hck hmem hg
      have hro:=statesAt_rest _ _ _ (check_formed hck).1.2 _ hmem g hg
      exact ⟨fun r hr'=>⟨(hro.2 r hr').2.2.2,hr.2 r hr',(hro.2 r hr').2.1,(hro.2 r hr').1⟩,hro.1.2⟩
    exact ⟨Nat.le_of_eq h1,h2⟩
  · exact ⟨Nat.zero_le _,Nat.zero_le _⟩
def Act.v (a:Act):AV:=.agg a.cs
def firV (n:Tn) (a:Sl Act):AV:=.agg [.int .i64 n.g,.bool n.dry,a.v,.int .u8 n.st,.int .i64 n.err,.int .i64 n.steps]
attribute [local irreducible] W Cl Bd
variable {g:Cg} {V:K→Option (List AV)}
theorem sameFiring_c (hp:Plain g 27=true) {a b:Sl Act} (ha:a.In V true 6 Act.v) (hb:b.In V true 6 Act.v) (h:a.l=b.l) (hl:a.l.length≤10000000) (n:Tn) (c:Bool) :
    Cl Tryz.prog g V 27 [firV n a,firV n b,.bool c] [] fun o _=>o=.ret (.bool true):=by
  refine Cl.enter hp Tryz.func27 rfl ?_
  have hlen:(a.l.length:Int)=(b.l.length:Int):=by rw [h]
  obtain ⟨g0,dry,ac,st,err,steps,s,regs⟩:=n
  unfold firV
  simp only
  repeat first|(with_reducible first|refine za ?_|refine zb ?_|refine zc ?_)|refine ym zr ?_|refine yn 0 zr ?_|refine yn 1 zr ?_|(refine yo zr ?_;intro _)
  rename_i ib ia
  refine W.cut (fun Γ' Δ'=>Γ'=[(3,.ptr (some (ib,0))),(4,.ptr (some (ia,0))),(52,.bool (decide (¬(a.l.length:Int)=(b.l.length:Int))))]∧Δ'=(ia,.cells [.int .i64 g0,.bool dry,b.v,.int .u8 st,.int .i64 err,.int .i64 steps] 65 6 true)::(ib,.cells [.int .i64 g0,.bool dry,a.v,.int .u8 st,.int .i64 err,.int .i64 steps] 65 6 true)::[]) ?_ ?_
  rotate_left
  · intro hA
    have hA:=hA _ _ ⟨rfl,rfl⟩
    cases dry<;>cases c
    all_goals
      repeat first|exact W.wk hA ⟨rfl,rfl,rfl⟩ (List.Sublist.refl _)|(refine W.gs rfl rfl rfl rfl (fun h=>absurd rfl h) ?_;intro _)|with_reducible refine zc ?_|refine ym zr ?_|refine yn 0 zr ?_|refine yn 1 zr ?_|refine zx zr zr zr ?_
  rintro _ _ ⟨rfl,rfl⟩
  refine W.condP rfl (fun h=>absurd hlen h) (fun _=>?_)
  repeat first|(with_reducible first|refine za ?_|refine zb ?_|refine zc ?_)|refine ym zr ?_|(with_reducible first|refine zd ?_|refine ze ?_)
  refine W.loopR (α:={ i:Nat // i≤a.l.length }) (fun i=>a.l.length-i.1) (fun i=>[(3,.ptr (some (ib,0))),(4,.ptr (some (ia,0))),(7,.int .i64 (i.1:Int))]) (fun _=>(ia,.cells [.int .i64 g0,.bool dry,b.v,.int .u8 st,.int .i64 err,.int .i64 steps] 65 6 true)::(ib,.cells [.int .i64 g0,.bool dry,a.v,.int .u8 st,.int .i64 err,.int .i64 steps] 65 6 true)::[]) ⟨0,Nat.zero_le _⟩ ⟨rfl,rfl,rfl⟩ (List.Sublist.refl _) ?_
  rintro ⟨i,hi⟩ ih
  simp only at ih hi ⊢
  by_cases hlt:i<a.l.length
  · have hi0:(0:Int)≤(i:Int):=by omega
    have hi1:(i:Int)<(a.l.length:Int):=by omega
    have hi2:(i:Int)<(b.l.length:Int):=by omega
    obtain ⟨j1,o1,c1,ha1,hV1,hp1⟩:=Sl.In.get ha hlt
    obtain ⟨j2,o2,c2,ha2,hV2,hp2⟩:=Sl.In.get hb (i:=i) (by rw [←h];exact hlt)
    have ew:IntKind.i64.wrap ((i:Int)+1)=((i+1:Nat):Int):=by rw [w64 (by omega) (by omega)];omega
    have hnext:=ih ⟨i+1,hlt⟩ (by show a.l.length-(i+1)<a.l.length-i;omega)
    have hab:b.l[i]'(by rw [←h];exact hlt)=a.l[i]:=by simp only [h]
    rw [hab] at hp2
    generalize a.l[i]=r at hp1 hp2
    obtain ⟨q1,q2,q3,q4,q5,q6⟩:=r
    clear ih
    repeat first|(with_reducible first|refine za ?_|refine zb ?_|refine zc ?_)|refine ym zr ?_|refine yn 1 zr ?_
    refine W.condP rfl (fun _=>?_) (fun h=>absurd hi1 h)
    repeat first|refine W.ia tblOk rfl rfl rfl rfl rfl rfl ha1 hi0 hi1 ?_|refine W.ldV tblOk rfl rfl rfl hV1 hp1 ?_|refine W.ia tblOk rfl rfl rfl rfl rfl rfl ha2 hi0 hi2 ?_|refine W.ldV tblOk rfl rfl rfl hV2 hp2 ?_|refine W.neS tblOk rfl rfl rfl rfl rfl (eqAct_self ..) ?_|refine W.condF rfl ?_|(with_reducible first|refine za ?_|refine zb ?_|refine zc ?_)|refine ym zr ?_|refine yn 0 zr ?_|refine yn 1 zr ?_|(with_reducible first|refine zd ?_|refine ze ?_|refine zf ?_)|refine zw (by decide +kernel) ?_
    rw [ew]
    exact W.wk hnext ⟨rfl,rfl,rfl⟩ (List.Sublist.refl _)
  · clear ih
    repeat first|(with_reducible first|refine za ?_|refine zb ?_|refine zc ?_)|refine ym zr ?_|refine yn 1 zr ?_
    refine W.condP rfl (fun h=>absurd h (by omega)) (fun _=>?_)
    repeat' first|(with_reducible first|refine za ?_|refine zb ?_|refine zc ?_)|refine ym zr ?_|(with_reducible first|refine zg ?_|refine zh ?_|refine zi ?_|refine zj ?_)|refine W.done zr ?_
    rfl
structure Book2G (g:Cg):Prop where
  B:BookG g
  acts:Plain g 28=true
theorem acts_c (B:Book2G g) (k:K) (b:AV) (jl:K) (bk:Bk) (rows:List AV) (q:Nat) (hg:0<rows.length→Grown bk rows 62 1 q∧q≤rows.length) (hm:rows.length≤1000000) (a:Option (K×Nat)) (n:Nat) (c:Cp) :
    Cl Tryz.prog g V 28 [.ptr (some (k,0)),.slice a n c] (bookB k b (hdL jl rows.length)::blL jl bk rows.length) fun o Δ=>o=.ret (.tup []) ∧
      ∃jl' bk' q',Δ=[bookB k b (hdL jl' (rows.length+1)),(jl',bk')]∧Grown bk' (rows++[.slice a n c]) 62 1 q'∧q'≤rows.length+1:=by
  refine Cl.enter B.acts Tryz.func28 rfl ?_
  unfold bookB
  cases rows with
  | nil =>
    repeat first|(refine W.bsl tblOk rfl rfl rfl rfl (by decide) rfl rfl rfl ?_;intro i0)|(refine W.appN tblOk rfl rfl rfl rfl rfl rfl rfl (by decide) (by decide) (by decide) (src_own (p:=0) rfl rfl rfl) rfl rfl rfl ?_;intro i2)|(with_reducible first|refine zb ?_|refine zc ?_)|refine ym zr ?_|refine yn 0 zr ?_|refine yu zr ?_
    refine W.dropE [_,_] (.cons_cons _ (.cons_cons _ (.cons _ .slnil))) ?_
    repeat' first|refine W.doneN zr ?_
    exact ⟨rfl,_,_,0,rfl,.inl ⟨rfl,rfl⟩,Nat.zero_le _⟩
  | cons r0 rows =>
    generalize hR:r0::rows=R at *
    have hpos:0<R.length:=by rw [←hR];simp
    obtain ⟨hg1,hq1⟩:=hg hpos
    have hold:takeL (R.length * 1) R=some R:=by rw [Nat.mul_one];exact takeL_all _
    rw [hdL_pos hpos,blL_pos hpos]
    repeat first|(refine W.bsl tblOk rfl rfl rfl rfl (by decide) rfl rfl rfl ?_;intro i0)|with_reducible refine zb ?_|refine ym zr ?_|refine yn 0 zr ?_
    refine W.fr2 ?_
    refine W.appK (len:=R.length) tblOk hg1 rfl rfl rfl rfl rfl rfl rfl (by decide) (by decide) ?hb ?hq hold (src_own (p:=1) rfl rfl rfl) rfl rfl rfl ?_
    case hb=>show (R.length+1) * 24≤_;omega
    case hq=>omega
    intro i2
    repeat first|with_reducible refine zc ?_|refine ym zr ?_|refine yv zr ?_
    refine W.dropE [_,_] (.cons_cons _ (.cons_cons _ (.cons _ (.cons _ .slnil)))) ?_
    repeat' first|refine W.doneN zr ?_
    refine ⟨rfl,i2,_,R.length * 1,?_,.inr rfl,by omega⟩
    rw [hdL_pos (m:=R.length+1) (by omega)]
theorem bookOwn2_c (B:Book2G g) (k:K) (rows:List OR) (jl:K) (bkl:Bk) (hbl:rdl bkl=some (rows.map OR.v)) (hok:∀r∈rows,r.Oks 1) (hlen:rows.length≤1000000) (acts:List OR) (jm:K) (bkm:Bk) (hbm:rdl bkm=some (acts.map OR.v)) (hokm:∀r∈acts,r.Oks 6) (hlenm:acts.length≤1000000) :
    Cl Tryz.prog g V 19 [.ptr (some (k,0))] (bookB k (hdL jl rows.length) (hdL jm acts.length)::((blL jl bkl rows.length++rows.flatMap bbLo)++(blL jm bkm acts.length++acts.flatMap bbAc))) fun o _=>o=.ret (.bool true):=by
  refine Cl.enter B.B.own Tryz.func19 rfl ?_
  have ho:=ownLo_c (V:=V) B.B.ownLongs rows jl bkl hbl hok hlen
  have ha:=ownAc_c (V:=V) B.B.ownActions acts jm bkm hbm hokm hlenm
  generalize blL jl bkl rows.length++rows.flatMap bbLo=X at ho ⊢
  generalize blL jm bkm acts.length++acts.flatMap bbAc=Y at ha ⊢
  unfold bookB
  repeat first|refine W.callP rfl rfl rfl rfl (ownInts_0 B.B.ownInts) ?_|(with_reducible first|refine za ?_|refine zb ?_|refine zc ?_)|refine ym zr ?_|refine yn 0 zr ?_
  refine W.perm (X++(_::Y)) List.perm_middle ?_
  refine W.callR rfl rfl rfl rfl ho (by rintro v Δ' h1;cases h1) ?_
  rintro _ Δ' h1
  injection h1 with h1;subst h1
  refine W.dropE (_::Y) (List.sublist_append_right _ _) ?_
  repeat first|refine W.callP rfl rfl rfl rfl (ownNumbers_0 B.B.ownNumbers) ?_|refine W.callP rfl rfl rfl rfl (ownOrders_0 B.B.ownOrders) ?_|refine W.callP rfl rfl rfl rfl (ownLevels_0 B.B.ownLevels) ?_|refine W.callP rfl rfl rfl rfl (ownHits_0 B.B.ownHits) ?_|refine W.callP rfl rfl rfl rfl (ownEvents_0 B.B.ownEvents) ?_|refine W.callP rfl rfl rfl rfl (ownFeeds_0 B.B.ownFeeds) ?_|(with_reducible first|refine za ?_|refine zb ?_|refine zc ?_)|refine ym zr ?_|refine yn 0 zr ?_
  refine W.perm (Y++[_]) (List.perm_append_comm (l₂:=[_])) ?_
  refine W.callR rfl rfl rfl rfl ha (by rintro v Δ' h1;cases h1) ?_
  rintro _ Δ' h1
  injection h1 with h1;subst h1
  refine W.dropE [_] (List.sublist_append_right _ _) ?_
  repeat' first|refine W.callP rfl rfl rfl rfl (ownTolds_0 B.B.ownTolds) ?_|refine W.callP rfl rfl rfl rfl (ownTexts_0 B.B.ownTexts) ?_|(with_reducible first|refine za ?_|refine zb ?_|refine zc ?_)|refine ym zr ?_|refine yn 0 zr ?_|with_reducible refine zj ?_|refine W.done zr ?_
  rfl
end Go.Proofs.YtoegffiapnnkiaaGreat.Abs
namespace Go.Proofs.YtoegffiapnnkiaaGreat.Abs
open Go
set_option linter.unusedVariables false
set_option linter.unusedSimpArgs false
set_option maxRecDepth 100000
set_option maxHeartbeats 4000000
def orow (i:K) (l:List Int):OR:=match l with
  | []=>.nil
  | _::_=>.blk i false true (l.flatMap iC) l.length 0
theorem orow_v (i:K) (l:List Int):(orow i l).v=(gS i l).v:=by cases l<;>rfl
theorem orow_b (i:K) (l:List Int):bL (orow i l)=gD iC 2 1 i l:=by cases l<;>rfl
theorem iC_len (l:List Int):(l.flatMap iC).length=l.length:=by
  induction l with
  | nil=>rfl
  | cons x l ih=>rw [List.flatMap_cons,List.length_append,ih];show 1+l.length=l.length+1;omega
theorem bookG20:BookG G20:=⟨rfl,rfl,rfl,rfl,rfl,rfl,rfl,rfl,rfl,rfl,rfl,rfl,rfl⟩
attribute [local irreducible] W Cl Bd
variable {V:K→Option (List AV)} {t:Table}
end Go.Proofs.YtoegffiapnnkiaaGreat.Abs
