/- Parts of one proof. No condition but those that each theorem names. -/
import Derived.Test.YtoegffiapnnkiaaGreatPT30
namespace Go.Proofs.YtoegffiapnnkiaaGreat.Abs
open Go
set_option linter.unusedVariables false
set_option linter.unusedSimpArgs false
set_option maxRecDepth 100000
set_option maxHeartbeats 4000000
structure Tn where
  g:Int
  dry:Bool
  acts:List Act
  st:Int
  err:Int
  steps:Int
  s:Int
  regs:List Int
noncomputable def whenF (t:Table) (w:Snap) (regs:List Int) (x:Span):Int×Int×Int:=(runF t regs w x.t 5000 x.f [] 0).getD (0,0,0)
noncomputable def fireF (t:Table) (w:Snap) (s:Int) (regs:List Int) (cf:Bool) (rows:List Row) (i n:Int):Tn :=
  if (doF t w rows (bod0 s regs)).err=0 then
    (if 0<(doF t w rows (bod0 s regs)).acts.length∧cf=false then ⟨i,true,[],1,0,n+(doF t w rows (bod0 s regs)).steps,s,regs⟩
     else ⟨i,false,(doF t w rows (bod0 s regs)).acts,(doF t w rows (bod0 s regs)).st,0,n+(doF t w rows (bod0 s regs)).steps,(doF t w rows (bod0 s regs)).s,(doF t w rows (bod0 s regs)).regs⟩)
  else ⟨-1,false,[],3,(doF t w rows (bod0 s regs)).err,n+(doF t w rows (bod0 s regs)).steps,s,regs⟩
noncomputable def guardsF (t:Table) (w:Snap) (s:Int) (regs:List Int) (cf:Bool):List Guard→Int→Int→Tn
  | [],_,n=>⟨-1,false,[],1,0,n,s,regs⟩
  | g::l,i,n=>if (whenF t w regs g.when).2.2=0 then (if (whenF t w regs g.when).1=0 then guardsF t w s regs cf l (i+1) (n+(whenF t w regs g.when).2.1) else fireF t w s regs cf g.rows.l i (n+(whenF t w regs g.when).2.1))
      else ⟨-1,false,[],3,(whenF t w regs g.when).2.2,n+(whenF t w regs g.when).2.1,s,regs⟩
theorem rowsB_le {t:Table} (hck:checkS t=none):∀ {l:List Row},(∀r∈l,RowOk t r)→(rowsB l (0,0)).1≤16384 * (l.length:Int)
  | [],_=>by show (0:Int)≤16384 * 0;omega
  | r::l,h=>by
    have h1:=rowsB_le hck (l:=l) fun x hx=>h x (by simp [hx])
    have h2:=body_le hck (h r (by simp))
    show (rowsB l (0+bodyS r,_)).1≤_
    rw [rowsB_add]
    simp only [List.length_cons]
    omega
noncomputable def turnF (t:Table) (w:Snap) (s:Int) (regs:List Int) (cf:Bool):Tn×Int :=
  if askE t s regs.length w=0 then (guardsF t w s regs cf (t.states.l.getD s.toNat ⟨none,.ex 0,[]⟩).l 0 0,0) else (⟨0,false,[],0,0,0,0,[]⟩,askE t s regs.length w)
def Tn.v (n:Tn) (jr ja:K) (e:Int):AV:=.tup [.agg [.int .i64 n.g,.bool n.dry,(gS ja n.acts).v,.int .u8 n.st,.int .i64 n.err,.int .i64 n.steps],.agg [.int .i64 n.s,(gS jr n.regs).v],.int .i64 e]
theorem exR {p:Prop} {D A R G:Dm} (hp:p) (e:D=A++(R++G)):∃R',p∧D=R'++(G++[]):=⟨A++R,hp,by rw [e,List.append_nil,List.append_assoc]⟩
attribute [local irreducible] W Cl Bd
variable {g:Cg} {V:K→Option (List AV)}
theorem turn_c (A:AskG g) (B:BodG g) (hp:Plain g 26=true) {t:Table} (ht:t.Ok V) (hc:Cl Tryz.prog g V 59 [t.v] [] fun o _=>o=.ret (.int .i64 ((checkS t).getD 0)))
    {regs:Sl Int} (hr:regs.In V false 1 (AV.int .i64)) (hrn:∀n∈regs.l,In64 n) {w:Snap} (hw:w.Ok) (s:Int) (cf:Bool) :
    Cl Tryz.prog g V 26 [t.v,.agg [.int .i64 s,regs.v],w.v,.bool cf] [] fun o Δ=>∃jr ja R,o=.ret ((turnF t w s regs.l cf).1.v jr ja (turnF t w s regs.l cf).2)∧Δ=R++(gD iC 2 1 jr (turnF t w s regs.l cf).1.regs++gD Act.cs 127 6 ja (turnF t w s regs.l cf).1.acts):=by
  refine Cl.enter hp Tryz.func26 rfl ?_
  have hask:=asked_c A hc s regs w
  have h0:=askE_0 (t:=t) (s:=s) (n:=regs.l.length) (w:=w)
  unfold turnF
  generalize hE:askE t s regs.l.length w=e at hask h0 ⊢
  by_cases he:e=0
  rotate_left
  · rw [if_neg he]
    clear h0
    repeat first|refine W.callP rfl rfl rfl rfl hask ?_|refine yn 4 zr ?_|(with_reducible first|refine za ?_|refine zb ?_|refine zc ?_)|refine ym zr ?_|refine yn 2 zr ?_|refine yn 3 zr ?_|(refine yo zr ?_;intro _)|(refine yp zr ?_;intro _)
    refine W.condP rfl (fun _=>?_) (fun h=>absurd he h)
    repeat' first|refine W.doneC tblOk (.cell 1 rfl rfl rfl rfl (.cell 0 rfl rfl rfl rfl (.tmp rfl .nil))) ?_|(with_reducible first|refine za ?_|refine zb ?_|refine zc ?_)|refine ym zr ?_|refine ys zr ?_|(with_reducible first|refine zj ?_|refine zk ?_)
    exact ⟨.z,.z,[_,_,_,_,_],rfl,rfl⟩
  obtain ⟨hck,hmo,-⟩:=h0 he
  subst he
  rw [if_pos rfl]
  clear h0 hE
  have hs0:0≤s:=hmo.1
  have hs1:s<(t.states.l.length:Int):=hmo.2.1
  have hlts:s.toNat<t.states.l.length:=by omega
  obtain ⟨jn,o,cs,ha,hV,hpt⟩:=Sl.In.get ht.states.2.1 hlts
  have hl:=ht.states.2.2 _ (List.getElem_mem hlts)
  have hgr:=fun g hg=>guard_runs hck (List.getElem_mem hlts) (g:=g) hg
  have hgo:=fun g hg=>(statesAt_rest _ _ _ (check_formed hck).1.2 _ (List.getElem_mem hlts) g hg)
  have hgl:=((check_formed hck).1.rest _ (List.getElem_mem hlts)).1
  rw [List.getD_eq_getElem?_getD,List.getElem?_eq_getElem hlts,Option.getD_some]
  generalize t.states.l[s.toNat]=l at hpt hl hgr hgo hgl ⊢
  rw [show ((s.toNat:Nat):Int)=s by omega] at hpt
  repeat first|refine W.callP rfl rfl rfl rfl hask ?_|refine yn 4 zr ?_|refine W.ia tblOk rfl rfl rfl rfl rfl rfl ha hs0 hs1 ?_|refine W.ldV tblOk rfl rfl rfl hV hpt ?_|(with_reducible first|refine za ?_|refine zb ?_|refine zc ?_)|refine ym zr ?_|refine yn 2 zr ?_|refine yn 3 zr ?_|(refine yo zr ?_;intro _)|(refine yp zr ?_;intro _)|(with_reducible first|refine zd ?_|refine ze ?_)|refine W.condF zr ?_
  rename_i it im iw i8 i9
  have hcp:=(modeCopyP_c (V:=V) B.copied hr (by have:=(check_code hck).2;have:=hmo.2.2;omega) s).mono (Q':=fun o Δ=>∃i,o=RO.ret (AV.agg [.int .i64 s,(gS i regs.l).v])∧∃R,Δ=R++gD iC 2 1 i regs.l) fun o Δ h=>by obtain ⟨i,R,h1,h2⟩:=h;exact ⟨i,h1,R,h2⟩
  generalize hX:guardsF t w s regs.l cf l.l 0 0=X
  refine W.loopR (α:={ q:Nat×Int // q.1≤l.l.length∧0≤q.2∧q.2≤q.1 * 4096∧X=guardsF t w s regs.l cf (l.l.drop q.1) q.1 q.2 }) (fun q=>l.l.length-q.1.1)
    (fun q=>[(3,.bool cf),(4,.ptr (some (it,0))),(5,.ptr (some (im,0))),(6,.ptr (some (iw,0))),(8,.ptr (some (i8,0))),(9,.ptr (some (i9,0))),(12,.int .i64 q.1.2),(33,l.v),(34,.int .i64 (l.l.length:Int)),(35,.int .i64 (q.1.1:Int))])
    (fun _=>(i9,.cells [.int .i64 0,.slice none 0 (.ex 0)] 30 2 true)::(i8,.cells [.int .i64 0,.bool false,.slice none 0 (.ex 0),.int .u8 0,.int .i64 0,.int .i64 0] 65 6 true)::(iw,.cells [.int .i64 w.bid,.int .i64 w.ask,.int .i64 w.last,.int .i64 w.volume,.int .i64 w.now,.int .i64 w.open_] 55 6 true)::(im,.cells [.int .i64 s,regs.v] 30 2 true)::(it,.cells [.str t.name,t.regs.v,.int .i64 t.slots,t.consts.v,t.code.v,t.states.v] 26 6 true)::[]) ⟨(0,0),Nat.zero_le _,Int.le_refl _,Int.le_refl _,hX.symm⟩ ⟨rfl,rfl,rfl,rfl,rfl,rfl,rfl,rfl,rfl,rfl⟩ (List.Sublist.refl _) ?_
  clear hX
  rintro ⟨⟨i,n⟩,hi,hn0,hn1,hinv⟩ ih
  simp only at ih hi hn0 hn1 hinv ⊢
  by_cases hlt:i<l.l.length
  rotate_left
  · clear ih
    rw [List.drop_eq_nil_of_le (by omega),guardsF] at hinv
    subst hinv
    repeat first|(with_reducible first|refine za ?_|refine zb ?_|refine zc ?_)|refine ym zr ?_
    refine W.condP rfl (fun h=>absurd h (by omega)) (fun _=>?_)
    repeat' first|(refine W.callN (val:=fun i=>.agg [.int .i64 s,(gS i regs.l).v]) rfl rfl rfl rfl hcp ?_;rintro jr _ ⟨R,rfl⟩)|refine W.doneC tblOk (.cell 1 rfl rfl rfl rfl (.cell 0 rfl rfl rfl rfl (.tmp rfl .nil))) ?_|(with_reducible first|refine za ?_|refine zb ?_|refine zc ?_)|refine ym zr ?_|refine yn 3 zr ?_|refine ys zr ?_|(with_reducible first|refine zg ?_|refine zh ?_|refine zi ?_|refine zj ?_)
    exact ⟨jr,.z,exR (A:=[_,_,_,_,_]) rfl rfl⟩
  have hi0:(0:Int)≤(i:Int):=by omega
  have hi1:(i:Int)<(l.l.length:Int):=by omega
  have ewi:IntKind.i64.wrap ((i:Int)+1)=((i+1:Nat):Int):=by rw [w64 (by omega) (by omega)];omega
  obtain ⟨jn2,o2,cs2,ha2,hV2,hpt2⟩:=Sl.In.get hl.2.1 hlt
  have hg:=hl.2.2 _ (List.getElem_mem hlt)
  have hru:=hgr _ (List.getElem_mem hlt)
  have hro:=hgo _ (List.getElem_mem hlt)
  rw [List.drop_eq_getElem_cons hlt,guardsF] at hinv
  have hnext:=fun n' h1 h2 h=>ih ⟨(i+1,n'),hlt,h1,h2,h⟩ (by show l.l.length-(i+1)<l.l.length-i;omega)
  simp only at hnext
  clear ih
  generalize l.l[i]=y at hpt2 hg hru hro hinv
  obtain ⟨H,q,hs,hq,hq1,hq2⟩:=runs_to hck hru.1 regs.l w
  have hwq:whenF t w regs.l y.when=q:=by unfold whenF;rw [hq];rfl
  rw [hwq] at hinv
  have hcode:=(check_code hck).1
  have hsr:=hru.1
  have ewn:IntKind.i64.wrap (n+q.2.1)=n+q.2.1:=w64 (by omega) (by have:=hsr.1;have:=hsr.2.2.1;omega)
  repeat first|(with_reducible first|refine za ?_|refine zb ?_|refine zc ?_)|refine ym zr ?_
  refine W.condP rfl (fun _=>?_) (fun h=>absurd hi1 h)
  repeat first|refine W.ia tblOk rfl rfl rfl rfl rfl rfl ha2 hi0 hi1 ?_|refine W.ldV tblOk rfl rfl rfl hV2 hpt2 ?_|(with_reducible first|refine za ?_|refine zb ?_|refine zc ?_)|refine ym zr ?_|refine yn 0 zr ?_|(refine yp zr ?_;intro _)|refine yq zr ?_|(with_reducible first|refine zd ?_|refine ze ?_)
  rename_i ig
  refine W.know fun hva hnd=>?_
  have hrun:=run_c (V:=withV V _) (m:=5000) B.O B.K1 B.run (Table.okM (withV_le hva) ht) (kt:=it) (rest:=[]) (withV_at hnd (bk:=.cells [.str t.name,t.regs.v,.int .i64 t.slots,t.consts.v,t.code.v,t.states.v] 26 6 true) (by simp)) (In_mono (withV_le hva) hr) hrn hmo.2.2 hw hsr.1 hsr.2.1 hsr.2.2.1 hcode hs (by have:=hsr.1;have:=hsr.2.2.1;omega) hq
  clear hva hnd
  repeat first|refine W.callLP rfl rfl rfl rfl hrun ?_|refine yn 4 zr ?_|(with_reducible first|refine za ?_|refine zb ?_|refine zc ?_)|refine ym zr ?_|refine yn 3 zr ?_
  rw [ewn]
  by_cases he:q.2.2=0
  rotate_left
  · rw [if_neg he] at hinv
    subst hinv
    clear hnext hrun
    repeat first|(with_reducible first|refine za ?_|refine zb ?_|refine zc ?_)|refine ym zr ?_|refine yn 0 zr ?_|refine yn 1 zr ?_|refine yn 2 zr ?_|refine yn 3 zr ?_|(refine yo zr ?_;intro _)|(refine yp zr ?_;intro _)|refine yq zr ?_|refine ys zr ?_|refine yu zr ?_|refine yv zr ?_|(with_reducible first|refine zd ?_|refine ze ?_|refine zf ?_|refine zg ?_|refine zh ?_|refine zi ?_|refine zj ?_|refine zk ?_|refine zl ?_)|refine zz zr ?_|refine zw (by decide +kernel) ?_|refine zx zr zr zr ?_|refine zy zr zr ?_|refine W.condT zr ?_|refine W.condF zr ?_
    refine W.condP rfl (fun _=>?_) (fun h=>absurd he h)
    repeat' first|(refine W.callN (val:=fun i=>.agg [.int .i64 s,(gS i regs.l).v]) rfl rfl rfl rfl hcp ?_;rintro jr _ ⟨R,rfl⟩)|refine yn 4 zr ?_|refine W.doneC tblOk (.cell 1 rfl rfl rfl rfl (.cell 0 rfl rfl rfl rfl (.tmp rfl .nil))) ?_|(with_reducible first|refine za ?_|refine zb ?_|refine zc ?_)|refine ym zr ?_|refine yu zr ?_|(with_reducible first|refine zj ?_|refine zk ?_|refine zl ?_)
    exact ⟨jr,.z,exR (A:=[_,_,_,_,_,_]) rfl rfl⟩
  rw [if_pos he] at hinv
  by_cases hz:q.1=0
  · rw [if_pos hz] at hinv
    have hnext:=hnext (n+q.2.1) (by omega) (by have:=hsr.1;have:=hsr.2.2.1;omega) hinv
    clear hrun
    repeat first|(with_reducible first|refine za ?_|refine zb ?_|refine zc ?_)|refine ym zr ?_|refine yn 0 zr ?_|refine yn 1 zr ?_|refine yn 2 zr ?_|refine yn 3 zr ?_|(refine yo zr ?_;intro _)|(refine yp zr ?_;intro _)|refine yq zr ?_|refine ys zr ?_|refine yu zr ?_|refine yv zr ?_|(with_reducible first|refine zd ?_|refine ze ?_|refine zf ?_|refine zg ?_|refine zh ?_|refine zi ?_|refine zj ?_|refine zk ?_|refine zl ?_)|refine zz zr ?_|refine zw (by decide +kernel) ?_|refine zx zr zr zr ?_|refine zy zr zr ?_|refine W.condT zr ?_|refine W.condF zr ?_
    refine W.condP rfl (fun h=>absurd he h) (fun _=>?_)
    repeat first|(with_reducible first|refine za ?_|refine zb ?_|refine zc ?_)|refine ym zr ?_|with_reducible refine zd ?_
    refine W.condP rfl (fun _=>?_) (fun h=>absurd hz h)
    repeat first|(with_reducible first|refine zb ?_|refine zc ?_)|refine ym zr ?_|(with_reducible first|refine zg ?_|refine zh ?_|refine zi ?_)
    exact W.wk hnext ⟨rfl,rfl,rfl,rfl,rfl,rfl,rfl,rfl,rfl,congrArg (fun z=>some (AV.int .i64 z)) ewi⟩ (.cons _ (List.Sublist.refl _))
  rw [if_neg hz] at hinv
  clear hnext hrun
  repeat first|(with_reducible first|refine za ?_|refine zb ?_|refine zc ?_)|refine ym zr ?_|refine yn 0 zr ?_|refine yn 1 zr ?_|refine yn 2 zr ?_|refine yn 3 zr ?_|(refine yo zr ?_;intro _)|(refine yp zr ?_;intro _)|refine yq zr ?_|refine ys zr ?_|refine yu zr ?_|refine yv zr ?_|(with_reducible first|refine zd ?_|refine ze ?_|refine zf ?_|refine zg ?_|refine zh ?_|refine zi ?_|refine zj ?_|refine zk ?_|refine zl ?_)|refine zz zr ?_|refine zw (by decide +kernel) ?_|refine zx zr zr zr ?_|refine zy zr zr ?_|refine W.condT zr ?_|refine W.condF zr ?_
  refine W.condP rfl (fun h=>absurd he h) (fun _=>?_)
  repeat first|(with_reducible first|refine za ?_|refine zb ?_|refine zc ?_)|refine ym zr ?_|with_reducible refine zd ?_
  refine W.condP rfl (fun h=>absurd h hz) (fun _=>?_)
  repeat first|refine yn 4 zr ?_|(with_reducible first|refine za ?_|refine zb ?_)|refine ym zr ?_|refine yn 0 zr ?_|refine yn 3 zr ?_|with_reducible refine zd ?_
  have hrows:∀r∈y.rows.l,RowOk t r:=fun r hr=>⟨(hro.2 r hr).2.2.2,hru.2 r hr,(hro.2 r hr).2.1,(hro.2 r hr).1⟩
  have hb0:BodOk t (bod0 s regs.l):=⟨hmo.2.2,hrn,hs0,hs1⟩
  obtain ⟨k1,k2,k3,-⟩:=doF_ok hck ht.consts.2.2 hw y.rows.l (bod0 s regs.l) hrows hb0
  have k4:=rowsB_le hck hrows
  have k5:=hro.1.2
  refine W.know fun hva hnd=>?_
  have hdo:=do_c (V:=withV V _) B (Table.okM (withV_le hva) ht) hck (kt:=it) (withV_at hnd (bk:=.cells [.str t.name,t.regs.v,.int .i64 t.slots,t.consts.v,t.code.v,t.states.v] 26 6 true) (by simp)) hw (In_mono (withV_le hva) hr) hb0 (In_mono (withV_le hva) hg.2.2.2.2.1) hrows hro.1.2
  clear hva hnd
  unfold fireF at hinv
  generalize doF t w y.rows.l (bod0 s regs.l)=b' at hdo hinv k1 k2 k3
  have k2:0≤b'.steps:=k2
  have k3:b'.steps≤(rowsB y.rows.l (0,0)).1:=by have:b'.steps≤0+(rowsB y.rows.l (0,0)).1:=k3;omega
  have ewb:IntKind.i64.wrap ((n+q.2.1)+b'.steps)=(n+q.2.1)+b'.steps:=w64 (by omega) (by have:=hsr.1;have:=hsr.2.2.1;omega)
  refine W.callL rfl rfl rfl rfl hdo (by rintro v Δ' ⟨_,_,_,h,-⟩;cases h) ?_
  rintro v_ Δ_ ⟨k,jb,ja,h1_,rfl⟩
  injection h1_ with h1_;subst h1_
  clear hdo
  unfold bodD
  generalize hG:gD iC 2 1 jb b'.regs++gD Act.cs 127 6 ja b'.acts=G
  refine W.perm (bodB k it w jb ja b'::([_,_,_,_,_,_]++G)) (.cons _ List.perm_append_comm) ?_
  refine W.dropE (bodB k it w jb ja b'::_::_::_::G) (.cons_cons _ (.cons _ (.cons_cons _ (.cons_cons _ (.cons _ (.cons_cons _ (.cons _ (List.Sublist.refl _)))))))) ?_
  repeat first|(with_reducible first|refine za ?_|refine zb ?_|refine zc ?_)|refine ym zr ?_|refine yn 0 zr ?_|with_reducible refine ze ?_
  simp only [ewb]
  by_cases hb:b'.err=0
  rotate_left
  · rw [if_neg hb] at hinv
    subst hinv
    refine W.condP rfl (fun _=>?_) (fun h=>absurd hb h)
    refine W.dropE [bodB k it w jb ja b',_,_,_] (.cons_cons _ (.cons_cons _ (.cons_cons _ (.cons_cons _ (List.nil_sublist _))))) ?_
    repeat first|with_reducible refine za ?_
    refine W.drawL _ (i0:=k) (q:=12) (v:=.int .i64 b'.err) 3 7 8 (by decide +kernel) tbl tblOk rfl rfl (by simp [sameA]) ?_ ?_ ?_
    · show W _ _ _ _ _ [.o false _ [_,_,_]] _ _ _ _
      repeat' first|with_reducible refine zc ?_|refine ym zr ?_|refine W.doneN zr ?_
      exact ⟨rfl,_,_,.head _,rfl,rfl⟩
    · intro j hj1 hj2
      obtain rfl|rfl:j=7∨j=8:=by omega
      · show W _ _ _ _ _ [.o false _ [_,_,_,_,_,_,_]] _ _ _ _
        repeat' first|with_reducible refine zc ?_|refine ym zr ?_|refine yn 0 zr ?_|refine yn 3 zr ?_|refine W.doneN zr ?_
        exact ⟨_,_,.head _,rfl,rfl⟩
      · show W _ _ _ _ _ [.o false _ [_,_,_,_,_,_,_,_]] _ _ _ _
        repeat' first|(refine W.callN (val:=fun i=>.agg [.int .i64 s,(gS i regs.l).v]) rfl rfl rfl rfl hcp ?_;rintro jr _ ⟨R,rfl⟩)|with_reducible refine zc ?_|refine ym zr ?_|refine yn 0 zr ?_|refine yn 3 zr ?_|refine W.doneN zr ?_
        exact ⟨_,_,.head _,rfl,rfl⟩
    repeat' first|(refine W.callN (val:=fun i=>.agg [.int .i64 s,(gS i regs.l).v]) rfl rfl rfl rfl hcp ?_;rintro jr _ ⟨R,rfl⟩)|refine W.doneC tblOk (.cell 1 rfl rfl rfl rfl (.cell 0 rfl rfl rfl rfl (.tmp rfl .nil))) ?_|with_reducible refine zc ?_|refine ym zr ?_|refine yn 0 zr ?_|refine yn 3 zr ?_|refine yu zr ?_|(with_reducible first|refine zj ?_|refine zk ?_|refine zl ?_)
    exact ⟨jr,.z,exR (A:=[_,_,_,_]) rfl rfl⟩
  rw [if_pos hb] at hinv
  refine W.condP rfl (fun h=>absurd hb h) (fun _=>?_)
  by_cases hap:(0:Int)<((gS ja b'.acts).l.length:Int)
  · have hap2:0<b'.acts.length:=by rw [gS_l] at hap;omega
    cases cf with
    | false =>
    rw [if_pos ⟨hap2,rfl⟩] at hinv
    subst hinv
    refine W.dropE [bodB k it w jb ja b',_,_,_] (.cons_cons _ (.cons_cons _ (.cons_cons _ (.cons_cons _ (List.nil_sublist _))))) ?_
    repeat' first|(refine W.gs rfl rfl rfl rfl ?_ (fun h=>absurd hap h);intro _)|(refine W.callN (val:=fun i=>.agg [.int .i64 s,(gS i regs.l).v]) rfl rfl rfl rfl hcp ?_;rintro jr _ ⟨R,rfl⟩)|refine W.doneC tblOk (.cell 1 rfl rfl rfl rfl (.cell 0 rfl rfl rfl rfl (.tmp rfl .nil))) ?_|(with_reducible first|refine za ?_|refine zb ?_|refine zc ?_)|refine ym zr ?_|refine yn 0 zr ?_|refine yn 3 zr ?_|refine yu zr ?_|(with_reducible first|refine zj ?_|refine zk ?_|refine zl ?_)|refine W.condT zr ?_
    exact ⟨jr,.z,exR (A:=[_,_,_,_]) rfl rfl⟩
    | true =>
    rw [if_neg (fun h=>by cases h.2)] at hinv
    subst hinv
    repeat first|(refine W.gs rfl rfl rfl rfl ?_ (fun h=>absurd hap h);intro _)|(with_reducible first|refine za ?_|refine zb ?_|refine zc ?_)|refine ym zr ?_|refine yn 0 zr ?_|(with_reducible first|refine zd ?_|refine zf ?_)|refine W.condF zr ?_
    refine W.drawL _ (i0:=k) (q:=7) (v:=.agg [.int .i64 b'.s,(gS jb b'.regs).v]) 14 15 16 (by decide +kernel) tbl tblOk rfl rfl (by simp [sameA,sameL,slv_same']) ?_ ?_ ?_
    · show W _ _ _ _ _ [.o false _ [_,_,_,_,_,_,_,_,_,_,_,_,_,_]] _ _ _ _
      repeat' first|with_reducible refine zc ?_|refine ym zr ?_|refine yn 0 zr ?_|refine W.doneN zr ?_
      exact ⟨rfl,_,_,.head _,rfl,rfl⟩
    · intro j hj1 hj2
      obtain rfl|rfl:j=15∨j=16:=by omega
      · show W _ _ _ _ _ [.o false _ [_,_,_,_,_,_,_,_,_,_,_,_,_,_,_]] _ _ _ _
        repeat' first|with_reducible refine zc ?_|refine ym zr ?_|refine yn 0 zr ?_|refine W.doneN zr ?_
        exact ⟨_,_,.head _,rfl,rfl⟩
      · show W _ _ _ _ _ [.o false _ [_,_,_,_,_,_,_,_,_,_,_,_,_,_,_,_]] _ _ _ _
        repeat' first|with_reducible refine zc ?_|refine ym zr ?_|refine yn 0 zr ?_|refine yu zr ?_|refine W.doneN zr ?_
        exact ⟨_,_,.tail _ (.head _),rfl,rfl⟩
    repeat' first|refine W.doneC tblOk (.cell 1 rfl rfl rfl rfl (.cell 0 rfl rfl rfl rfl (.tmp rfl .nil))) ?_|with_reducible refine zc ?_|refine ym zr ?_|refine yn 0 zr ?_|refine yu zr ?_|(with_reducible first|refine zj ?_|refine zk ?_|refine zl ?_)
    exact ⟨jb,ja,[_,_,_,_],rfl,by rw [hG];rfl⟩
  · have hap2:¬0<b'.acts.length:=by rw [gS_l] at hap;omega
    rw [if_neg (fun h=>hap2 h.1)] at hinv
    subst hinv
    repeat first|(refine W.gs rfl rfl rfl rfl (fun h=>absurd h hap) ?_;intro _)|(with_reducible first|refine za ?_|refine zb ?_|refine zc ?_)|refine ym zr ?_|refine yn 0 zr ?_|(with_reducible first|refine zd ?_|refine zf ?_)|refine zx zr zr zr ?_|refine W.condF zr ?_
    refine W.drawL _ (i0:=k) (q:=7) (v:=.agg [.int .i64 b'.s,(gS jb b'.regs).v]) 14 15 16 (by decide +kernel) tbl tblOk rfl rfl (by simp [sameA,sameL,slv_same']) ?_ ?_ ?_
    · show W _ _ _ _ _ [.o false _ [_,_,_,_,_,_,_,_,_,_,_,_,_,_]] _ _ _ _
      repeat' first|with_reducible refine zc ?_|refine ym zr ?_|refine yn 0 zr ?_|refine W.doneN zr ?_
      exact ⟨rfl,_,_,.head _,rfl,rfl⟩
    · intro j hj1 hj2
      obtain rfl|rfl:j=15∨j=16:=by omega
      · show W _ _ _ _ _ [.o false _ [_,_,_,_,_,_,_,_,_,_,_,_,_,_,_]] _ _ _ _
        repeat' first|with_reducible refine zc ?_|refine ym zr ?_|refine yn 0 zr ?_|refine W.doneN zr ?_
        exact ⟨_,_,.head _,rfl,rfl⟩
      · show W _ _ _ _ _ [.o false _ [_,_,_,_,_,_,_,_,_,_,_,_,_,_,_,_]] _ _ _ _
        repeat' first|with_reducible refine zc ?_|refine ym zr ?_|refine yn 0 zr ?_|refine yu zr ?_|refine W.doneN zr ?_
        exact ⟨_,_,.tail _ (.head _),rfl,rfl⟩
    repeat' first|refine W.doneC tblOk (.cell 1 rfl rfl rfl rfl (.cell 0 rfl rfl rfl rfl (.tmp rfl .nil))) ?_|with_reducible refine zc ?_|refine ym zr ?_|refine yn 0 zr ?_|refine yu zr ?_|(with_reducible first|refine zj ?_|refine zk ?_|refine zl ?_)
    exact ⟨jb,ja,[_,_,_,_],rfl,by rw [hG];rfl⟩
end Go.Proofs.YtoegffiapnnkiaaGreat.Abs
