/- Parts of one proof. No condition but those that each theorem names. -/
import Derived.Test.YtoegffiapnnkiaaGreatPT38
namespace Go.Proofs.YtoegffiapnnkiaaGreat.Abs
open Go
set_option linter.unusedVariables false
set_option linter.unusedSimpArgs false
set_option maxRecDepth 100000
set_option maxHeartbeats 4000000
theorem part_sub {cs l r:List AV} {o n i m:Nat} (h:partB cs o (true,n)=some (.agg l)) (hi:subL l i m=some r):partB cs (o+i) (true,m)=some (.agg r):=by
  have h:aggO (subL cs o n)=some (.agg l):=h
  show aggO (subL cs (o+i) m)=_
  cases hs:subL cs o n with
  | none=>rw [hs] at h;cases h
  | some l' =>
    rw [hs] at h
    have h:some (AV.agg l')=some (.agg l):=h
    injection h with h;injection h with h;subst h
    obtain ⟨h1,h2,h3⟩:=subL_eq hs
    obtain ⟨k1,k2,k3⟩:=subL_eq hi
    have e:subL cs (o+i) m=some r:=by
      have h4:subL cs (o+i) m=some ((cs.drop (o+i)).take m):=by
        have a1:(cs.take (o+i)).length=o+i:=by rw [List.length_take];omega
        have a2:((cs.drop (o+i)).take m).length=m:=by rw [List.length_take,List.length_drop];omega
        have a3:=subL_mk (cs.take (o+i)) ((cs.drop (o+i)).take m) (cs.drop (o+i+m))
        rw [a1,a2] at a3
        rw [←a3]
        congr 1
        rw [←List.drop_drop (i:=m),List.take_append_drop,List.take_append_drop]
      rw [h4,k1,h1,List.drop_take,List.take_take,List.drop_drop,Nat.min_eq_left (by omega)]
    rw [e];rfl
attribute [local irreducible] W Cl Bd
variable {g:Cg} {V:K→Option (List AV)}
theorem goR_c (B:BodRG g) {t:Table} (ht:t.Ok V) (hck:checkS t=none) {w:Snap} (hw:w.Ok) {s:Int} {regs:Sl Int} (hg:regs.In V false 1 (AV.int .i64)) (hb:BodOk t (bod0 s regs.l)) {l:Sl Guard} (hl0:t.states.l[s.toNat]?=some l) (cf:Bool) :
    Cl Tryz.prog g V 80 [t.v,.agg [.int .i64 s,regs.v],w.v,.bool cf] [] fun o Δ=>∃jr ja R,o=.ret ((guardsF t w s regs.l cf l.l 0 0).w jr ja)∧Δ=R++(gD iC 2 1 jr (guardsF t w s regs.l cf l.l 0 0).regs++gD Act.cs 127 6 ja (guardsF t w s regs.l cf l.l 0 0).acts):=by
  refine Cl.enter B.go Tryz.func80 rfl ?_
  obtain ⟨hlts,hle⟩:=List.getElem?_eq_some_iff.1 hl0
  have hs0:0≤s:=hb.s.1
  have hs1:s<(t.states.l.length:Int):=hb.s.2
  obtain ⟨jn,o,cs,ha,hV,hpt⟩:=Sl.In.get ht.states.2.1 hlts
  have hl:=ht.states.2.2 _ (List.getElem_mem hlts)
  have hgr:=fun g hg=>guard_runs hck (List.getElem_mem hlts) (g:=g) hg
  have hgl:=((check_formed hck).1.rest _ (List.getElem_mem hlts)).1
  rw [hle] at hpt hl hgr hgl
  rw [show ((s.toNat:Nat):Int)=s by omega] at hpt
  have hrb:regs.l.length≤10000000:=by have:=(check_code hck).2;have:=hb.len;simp only [bod0] at this;omega
  have hcp:=copiedR_c (V:=V) B.copied hg hrb s
  generalize hX:guardsF t w s regs.l cf l.l 0 0=X
  repeat first|refine yn 4 zr ?_|refine W.ia tblOk rfl rfl rfl rfl rfl rfl ha hs0 hs1 ?_|refine W.ldV tblOk rfl rfl rfl hV hpt ?_|(with_reducible first|refine za ?_|refine zb ?_|refine zc ?_)|refine ym zr ?_|refine yn 3 zr ?_|(refine yo zr ?_;intro _)|(refine yp zr ?_;intro _)|with_reducible refine ze ?_
  rename_i it im iw i8 i9
  refine W.loopR (α:={ q:Nat×Int // q.1≤l.l.length∧0≤q.2∧q.2≤q.1 * 4096∧X=guardsF t w s regs.l cf (l.l.drop q.1) q.1 q.2 }) (fun q=>l.l.length-q.1.1)
    (fun q=>[(3,.bool cf),(4,.ptr (some (it,0))),(5,.ptr (some (im,0))),(6,.ptr (some (iw,0))),(8,.ptr (some (i8,0))),(9,.ptr (some (i9,0))),(10,.int .i64 q.1.2),(11,l.v),(12,.int .i64 (q.1.1:Int))])
    (fun _=>(i9,.cells [.int .i64 0,.slice none 0 (.ex 0)] 30 2 true)::(i8,.cells [.int .i64 0,.bool false,.slice none 0 (.ex 0),.int .u8 0,.int .i64 0,.int .i64 0] 65 6 true)::(iw,.cells [.int .i64 w.bid,.int .i64 w.ask,.int .i64 w.last,.int .i64 w.volume,.int .i64 w.now,.int .i64 w.open_] 55 6 true)::(im,.cells [.int .i64 s,regs.v] 30 2 true)::(it,.cells [.str t.name,t.regs.v,.int .i64 t.slots,t.consts.v,t.code.v,t.states.v] 26 6 true)::[]) ⟨(0,0),Nat.zero_le _,Int.le_refl _,Int.le_refl _,hX.symm⟩ ⟨rfl,rfl,rfl,rfl,rfl,rfl,rfl,rfl,rfl⟩ (List.Sublist.refl _) ?_
  clear hX
  rintro ⟨⟨i,n⟩,hi,hn0,hn1,hinv⟩ ih
  simp only at ih hi hn0 hn1 hinv ⊢
  by_cases hlt:i<l.l.length
  rotate_left
  · clear ih
    rw [List.drop_eq_nil_of_le (by omega),guardsF] at hinv
    subst hinv
    repeat first|(with_reducible first|refine za ?_|refine zb ?_|refine zc ?_)|refine ym zr ?_
    refine W.condP rfl (fun h=>absurd h (by omega)) (fun _=>?_)
    repeat' first|(refine W.callN (val:=fun i=>.agg [.int .i64 s,(gS i regs.l).v]) rfl rfl rfl rfl hcp ?_;rintro jr _ ⟨R,rfl⟩)|refine W.doneC tblOk (.cell 1 rfl rfl rfl rfl (.cell 0 rfl rfl rfl rfl .nil)) ?_|(with_reducible first|refine za ?_|refine zb ?_|refine zc ?_)|refine ym zr ?_|refine yn 3 zr ?_|refine ys zr ?_|(with_reducible first|refine zg ?_|refine zh ?_|refine zi ?_|refine zj ?_)
    exact ⟨jr,.z,exR (A:=[_,_,_,_,_]) rfl rfl⟩
  have hi0:(0:Int)≤(i:Int):=by omega
  have hi1:(i:Int)<(l.l.length:Int):=by omega
  have ewi:IntKind.i64.wrap ((i:Int)+1)=((i+1:Nat):Int):=by rw [w64 (by omega) (by omega)];omega
  obtain ⟨jn2,o2,cs2,ha2,hV2,hpt2⟩:=Sl.In.get hl.2.1 hlt
  have hru:=hgr _ (List.getElem_mem hlt)
  rw [List.drop_eq_getElem_cons hlt,guardsF] at hinv
  have hnext:=fun n' h1 h2 h=>ih ⟨(i+1,n'),hlt,h1,h2,h⟩ (by show l.l.length-(i+1)<l.l.length-i;omega)
  simp only at hnext
  clear ih
  have hyi:l.l[i]?=some l.l[i]:=List.getElem?_eq_getElem hlt
  generalize l.l[i]=y at hpt2 hru hinv hyi
  obtain ⟨H,q,hs,hq,hq1,hq2⟩:=runs_to hck hru.1 regs.l w
  have hwq:whenF t w regs.l y.when=q:=by unfold whenF;rw [hq];rfl
  rw [hwq] at hinv
  have hcode:=(check_code hck).1
  have hsr:=hru.1
  have ewn:IntKind.i64.wrap (n+q.2.1)=n+q.2.1:=w64 (by omega) (by have:=hsr.1;have:=hsr.2.2.1;omega)
  have hrun:=spanRun_c (V:=V) (m:=5000) B.O B.R B.C ht hg hb.in_ hb.len hw hsr.1 hsr.2.1 hsr.2.2.1 hcode hs (by have:=hsr.1;have:=hsr.2.2.1;omega) hq
  have hfire:=fun (h1:0≤n+q.2.1) (h2:n+q.2.1≤100000000)=>(fireR_c (V:=V) B ht hck hw hg hb i ⟨l,hl0,hyi⟩ cf (n+q.2.1) ⟨h1,h2⟩).mono (Q':=fun o Δ=>∃p:K×K,o=RO.ret ((fireF t w s regs.l cf y.rows.l i (n+q.2.1)).w p.1 p.2)∧∃R,Δ=R++(gD iC 2 1 p.1 (fireF t w s regs.l cf y.rows.l i (n+q.2.1)).regs++gD Act.cs 127 6 p.2 (fireF t w s regs.l cf y.rows.l i (n+q.2.1)).acts)) fun o Δ h=>by obtain ⟨jr,ja,R,h1,h2⟩:=h;exact ⟨(jr,ja),h1,R,h2⟩
  repeat first|(with_reducible first|refine za ?_|refine zb ?_|refine zc ?_)|refine ym zr ?_
  refine W.condP rfl (fun _=>?_) (fun h=>absurd hi1 h)
  repeat first|refine yn 4 zr ?_|refine W.ia tblOk rfl rfl rfl rfl rfl rfl ha2 hi0 hi1 ?_|refine W.ldV tblOk rfl rfl rfl hV2 (part_sub hpt2 (i:=0) (m:=2) rfl) ?_|refine W.callP rfl rfl rfl rfl hrun ?_|(with_reducible first|refine za ?_|refine zb ?_|refine zc ?_)|refine ym zr ?_|refine yn 2 zr ?_|refine yn 3 zr ?_|(with_reducible first|refine zd ?_|refine ze ?_)|refine zw (by decide +kernel) ?_
  rw [ewn]
  clear hrun
  by_cases he:q.2.2=0
  rotate_left
  · rw [if_neg he] at hinv
    subst hinv
    clear hnext hfire
    repeat first|(with_reducible first|refine za ?_|refine zb ?_|refine zc ?_)|refine ym zr ?_|refine yn 0 zr ?_|refine yn 1 zr ?_|refine yn 2 zr ?_|refine yn 3 zr ?_|(refine yo zr ?_;intro _)|(refine yp zr ?_;intro _)|refine yq zr ?_|refine ys zr ?_|refine yu zr ?_|refine yv zr ?_|(with_reducible first|refine zd ?_|refine ze ?_|refine zf ?_|refine zg ?_|refine zh ?_|refine zi ?_|refine zj ?_|refine zk ?_|refine zl ?_)|refine zz zr ?_|refine zw (by decide +kernel) ?_|refine zx zr zr zr ?_|refine zy zr zr ?_|refine W.condT zr ?_|refine W.condF zr ?_
    refine W.condP rfl (fun _=>?_) (fun h=>absurd he h)
    repeat' first|(refine W.callN (val:=fun i=>.agg [.int .i64 s,(gS i regs.l).v]) rfl rfl rfl rfl hcp ?_;rintro jr _ ⟨R,rfl⟩)|refine W.doneC tblOk (.cell 1 rfl rfl rfl rfl (.cell 0 rfl rfl rfl rfl .nil)) ?_|(with_reducible first|refine za ?_|refine zb ?_|refine zc ?_)|refine ym zr ?_|refine yn 3 zr ?_|refine ys zr ?_|(with_reducible first|refine zj ?_|refine zk ?_|refine zl ?_)
    exact ⟨jr,.z,exR (A:=[_,_,_,_,_]) rfl rfl⟩
  rw [if_pos he] at hinv
  by_cases hz:q.1=0
  · rw [if_pos hz] at hinv
    have hnext:=hnext (n+q.2.1) (by omega) (by have:=hsr.1;have:=hsr.2.2.1;omega) hinv
    clear hfire
    repeat first|(with_reducible first|refine za ?_|refine zb ?_|refine zc ?_)|refine ym zr ?_|refine yn 0 zr ?_|refine yn 1 zr ?_|refine yn 2 zr ?_|refine yn 3 zr ?_|(refine yo zr ?_;intro _)|(refine yp zr ?_;intro _)|refine yq zr ?_|refine ys zr ?_|refine yu zr ?_|refine yv zr ?_|(with_reducible first|refine zd ?_|refine ze ?_|refine zf ?_|refine zg ?_|refine zh ?_|refine zi ?_|refine zj ?_|refine zk ?_|refine zl ?_)|refine zz zr ?_|refine zw (by decide +kernel) ?_|refine zx zr zr zr ?_|refine zy zr zr ?_|refine W.condT zr ?_|refine W.condF zr ?_
    refine W.condP rfl (fun h=>absurd he h) (fun _=>?_)
    repeat first|(with_reducible first|refine za ?_|refine zb ?_|refine zc ?_)|refine ym zr ?_|with_reducible refine zd ?_
    refine W.condP rfl (fun h=>absurd hz h) (fun _=>?_)
    repeat first|(with_reducible first|refine zb ?_|refine zc ?_)|refine ym zr ?_|(with_reducible first|refine zd ?_|refine zf ?_)
    exact W.wk hnext ⟨rfl,rfl,rfl,rfl,rfl,rfl,rfl,rfl,congrArg (fun z=>some (AV.int .i64 z)) ewi⟩ (List.Sublist.refl _)
  rw [if_neg hz] at hinv
  clear hnext
  have hfire:=hfire (by omega) (by have:=hsr.1;have:=hsr.2.2.1;have:=hgl;omega)
  rw [←hinv] at hfire
  clear hinv
  repeat first|(with_reducible first|refine za ?_|refine zb ?_|refine zc ?_)|refine ym zr ?_|refine yn 0 zr ?_|refine yn 1 zr ?_|refine yn 2 zr ?_|refine yn 3 zr ?_|(refine yo zr ?_;intro _)|(refine yp zr ?_;intro _)|refine yq zr ?_|refine ys zr ?_|refine yu zr ?_|refine yv zr ?_|(with_reducible first|refine zd ?_|refine ze ?_|refine zf ?_|refine zg ?_|refine zh ?_|refine zi ?_|refine zj ?_|refine zk ?_|refine zl ?_)|refine zz zr ?_|refine zw (by decide +kernel) ?_|refine zx zr zr zr ?_|refine zy zr zr ?_|refine W.condT zr ?_|refine W.condF zr ?_
  refine W.condP rfl (fun h=>absurd he h) (fun _=>?_)
  repeat first|(with_reducible first|refine za ?_|refine zb ?_|refine zc ?_)|refine ym zr ?_|with_reducible refine zd ?_
  refine W.condP rfl (fun _=>?_) (fun h=>absurd hz h)
  repeat' first|(refine W.callN (val:=fun p:K×K=>X.w p.1 p.2) rfl rfl rfl rfl hfire ?_;rintro p _ ⟨R,rfl⟩)|refine yn 4 zr ?_|refine W.doneC tblOk (.cell 1 rfl rfl rfl rfl (.cell 0 rfl rfl rfl rfl .nil)) ?_|(with_reducible first|refine za ?_|refine zb ?_|refine zc ?_)|refine ym zr ?_|refine yn 2 zr ?_|refine yn 3 zr ?_|refine ys zr ?_|(with_reducible first|refine zj ?_|refine zk ?_|refine zl ?_)
  exact ⟨p.1,p.2,[_,_,_,_,_]++R,rfl,rfl⟩
theorem turnR_c (A:AskG g) (B:BodRG g) (hp:Plain g 25=true) {t:Table} (ht:t.Ok V) (hc:Cl Tryz.prog g V 29 [t.v] [] fun o _=>o=.ret (.int .i64 ((checkS t).getD 0)))
    {regs:Sl Int} (hr:regs.In V false 1 (AV.int .i64)) (hrn:∀n∈regs.l,In64 n) {w:Snap} (hw:w.Ok) (s:Int) (cf:Bool) :
    Cl Tryz.prog g V 25 [t.v,.agg [.int .i64 s,regs.v],w.v,.bool cf] [] fun o Δ=>∃jr ja R,o=.ret ((turnF t w s regs.l cf).1.v jr ja (turnF t w s regs.l cf).2)∧Δ=R++(gD iC 2 1 jr (turnF t w s regs.l cf).1.regs++gD Act.cs 127 6 ja (turnF t w s regs.l cf).1.acts):=by
  refine Cl.enter hp Tryz.func25 rfl ?_
  have hask:=askedR_c A hc s regs w
  have h0:=askE_0 (t:=t) (s:=s) (n:=regs.l.length) (w:=w)
  unfold turnF
  generalize hE:askE t s regs.l.length w=e at hask h0 ⊢
  by_cases he:e=0
  rotate_left
  · rw [if_neg he]
    clear h0
    repeat first|refine W.callP rfl rfl rfl rfl hask ?_|refine yn 4 zr ?_|(with_reducible first|refine za ?_|refine zb ?_|refine zc ?_)|refine ym zr ?_|refine yn 2 zr ?_|refine yn 3 zr ?_|(refine yo zr ?_;intro _)|(refine yp zr ?_;intro _)
    refine W.condP rfl (fun _=>?_) (fun h=>absurd he h)
    repeat' first|refine W.doneC tblOk (.cell 1 rfl rfl rfl rfl (.cell 0 rfl rfl rfl rfl (.tmp rfl .nil))) ?_|(with_reducible first|refine za ?_|refine zb ?_|refine zc ?_)|refine ym zr ?_|refine ys zr ?_|(with_reducible first|refine zj ?_|refine zk ?_)
    exact ⟨.z,.z,[_,_,_,_,_],rfl,rfl⟩
  obtain ⟨hck,hmo,-⟩:=h0 he
  subst he
  rw [if_pos rfl]
  clear h0 hE
  have hlts:s.toNat<t.states.l.length:=by have:=hmo.1;have:=hmo.2.1;omega
  have hb0:BodOk t (bod0 s regs.l):=⟨hmo.2.2,hrn,hmo.1,hmo.2.1⟩
  rw [List.getD_eq_getElem?_getD,List.getElem?_eq_getElem hlts,Option.getD_some]
  have hgo:=(goR_c (V:=V) B ht hck hw hr hb0 (List.getElem?_eq_getElem hlts) cf).mono (Q':=fun o Δ=>∃p:K×K,o=RO.ret ((guardsF t w s regs.l cf t.states.l[s.toNat].l 0 0).w p.1 p.2)∧∃R,Δ=R++(gD iC 2 1 p.1 (guardsF t w s regs.l cf t.states.l[s.toNat].l 0 0).regs++gD Act.cs 127 6 p.2 (guardsF t w s regs.l cf t.states.l[s.toNat].l 0 0).acts)) fun o Δ h=>by obtain ⟨jr,ja,R,h1,h2⟩:=h;exact ⟨(jr,ja),h1,R,h2⟩
  generalize guardsF t w s regs.l cf t.states.l[s.toNat].l 0 0=X at hgo ⊢
  repeat first|refine W.callP rfl rfl rfl rfl hask ?_|refine yn 4 zr ?_|(refine W.callN (val:=fun p:K×K=>X.w p.1 p.2) rfl rfl rfl rfl hgo ?_;rintro p _ ⟨R,rfl⟩)|(with_reducible first|refine za ?_|refine zb ?_|refine zc ?_)|refine ym zr ?_|refine yn 2 zr ?_|refine yn 3 zr ?_|(refine yo zr ?_;intro _)|(refine yp zr ?_;intro _)|refine ys zr ?_|with_reducible refine zd ?_|refine W.condF zr ?_
  rename_i i12 i13
  refine W.drawG _ [(1,2,3)] 0 (by decide +kernel) tbl tblOk ⟨⟨_,_,_,i13,0,.agg [.int .i64 X.s,(gS p.1 X.regs).v],rfl,rfl,by simp [sameA,sameL,slv_same'],?_,?_⟩,trivial⟩ (.inl rfl) ?_
  · show W _ _ _ _ _ [.o false _ [_]] _ _ _ _
    repeat' first|with_reducible refine zc ?_|refine yn 1 zr ?_|refine W.doneN zr ?_
    exact ⟨rfl,_,_,.head _,rfl,rfl⟩
  · intro j hj1 hj2
    obtain rfl|rfl:j=2∨j=3:=by have h1:2≤j:=hj1;have h2:j≤3:=hj2;omega
    · show W _ _ _ _ _ [.o false _ [_,_]] _ _ _ _
      repeat' first|with_reducible refine zc ?_|refine yn 0 zr ?_|refine yn 1 zr ?_|refine W.doneN zr ?_
      exact ⟨_,_,.head _,rfl,rfl⟩
    · show W _ _ _ _ _ [.o false _ [_,_,_]] _ _ _ _
      repeat' first|with_reducible refine zc ?_|refine yn 0 zr ?_|refine yn 1 zr ?_|refine yv zr ?_|refine W.doneN zr ?_
      trace_state
      exact ⟨_,_,.tail _ (.head _),rfl,rfl⟩
  repeat' first|refine W.doneC tblOk (.cell 1 rfl rfl rfl rfl (.cell 0 rfl rfl rfl rfl (.tmp rfl .nil))) ?_|with_reducible refine zc ?_|refine ym zr ?_|refine yn 0 zr ?_|refine yn 1 zr ?_|refine yv zr ?_|with_reducible refine zj ?_
  exact ⟨p.1,p.2,[_,_,_,_,_,_,_]++R,rfl,rfl⟩
end Go.Proofs.YtoegffiapnnkiaaGreat.Abs
