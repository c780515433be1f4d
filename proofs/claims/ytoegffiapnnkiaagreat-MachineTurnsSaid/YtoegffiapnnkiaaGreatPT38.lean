/- Parts of one proof. No condition but those that each theorem names. -/
import Derived.Test.YtoegffiapnnkiaaGreatPT36
import Derived.Test.YtoegffiapnnkiaaGreatPT37
namespace Go.Proofs.YtoegffiapnnkiaaGreat.Abs
open Go
set_option linter.unusedVariables false
set_option linter.unusedSimpArgs false
set_option maxRecDepth 100000
set_option maxHeartbeats 4000000
theorem sl_same {α:Type} (s:Sl α):sameA s.v s.v=true:=by
  obtain ⟨a,c,l⟩:=s
  cases a with
  | none=>cases c<;>simp [Sl.v,sameA]
  | some p=>obtain ⟨i,o⟩:=p;cases c<;>simp [Sl.v,sameA,K.beq_refl]
theorem tab_same (t:Table):sameA t.v t.v=true:=by simp [Table.v,sameA,sameL,sl_same,sameN_refl]
def Tn.w (n:Tn) (jr ja:K):AV:=.tup [.agg [.int .i64 n.g,.bool n.dry,(gS ja n.acts).v,.int .u8 n.st,.int .i64 n.err,.int .i64 n.steps],.agg [.int .i64 n.s,(gS jr n.regs).v]]
attribute [local irreducible] W Cl Bd
variable {g:Cg} {V:K→Option (List AV)}
theorem copiedR_c (hp:Plain g 61=true) {regs:Sl Int} (hr:regs.In V false 1 (AV.int .i64)) (hl:regs.l.length≤10000000) (s:Int) :
    Cl Tryz.prog g V 61 [.agg [.int .i64 s,regs.v]] [] fun o Δ=>∃i,o=.ret (.agg [.int .i64 s,(gS i regs.l).v])∧∃R,Δ=R++gD iC 2 1 i regs.l:=by
  refine Cl.enter hp Tryz.func61 rfl ?_
  have hb:(([]:List Int).length+regs.l.length) * 8≤140737488355328:=by simp;omega
  repeat first|(with_reducible first|refine za ?_|refine zb ?_|refine zc ?_)|refine ym zr ?_|refine yn 0 zr ?_|refine yn 1 zr ?_|refine yn 2 zr ?_|(refine yo zr ?_;intro _)|(refine yp zr ?_;intro _)|refine yq zr ?_
  refine W.appG (i:=.z) (l:=[]) (m:=regs.l) (enc:=iC) (Δ1:=[_,_,_]) (Δ0:=[]) tblOk rfl rfl rfl rfl rfl rfl rfl (by decide) hb (fun _=>rfl) (srcI hr) (fun h=>src_none h) (leaf_all _ leafI _) rfl rfl fun n1=>?_
  repeat' first|refine W.doneC tblOk (.cell 0 rfl rfl rfl rfl .nil) ?_|(with_reducible first|refine za ?_|refine zb ?_|refine zc ?_)|refine ym zr ?_|refine yn 0 zr ?_|refine yq zr ?_|refine ys zr ?_|with_reducible refine zj ?_
  exact ⟨n1,rfl,[_,_,_],by rw [List.append_nil];rfl⟩
theorem fireR_c (B:BodRG g) {t:Table} (ht:t.Ok V) (hck:checkS t=none) {w:Snap} (hw:w.Ok) {s:Int} {regs:Sl Int} (hg:regs.In V false 1 (AV.int .i64)) (hb:BodOk t (bod0 s regs.l)) (i:Nat) {y:Guard}
    (hy:∃l:Sl Guard,t.states.l[s.toNat]?=some l∧l.l[i]?=some y) (cf:Bool) (n:Int) (hn:0≤n∧n≤100000000) :
    Cl Tryz.prog g V 123 [t.v,.int .i64 (i:Int),.agg [.int .i64 s,regs.v],w.v,.bool cf,.int .i64 n] [] fun o Δ=>∃jr ja R,o=.ret ((fireF t w s regs.l cf y.rows.l i n).w jr ja)∧Δ=R++(gD iC 2 1 jr (fireF t w s regs.l cf y.rows.l i n).regs++gD Act.cs 127 6 ja (fireF t w s regs.l cf y.rows.l i n).acts):=by
  refine Cl.enter B.fire Tryz.func123 rfl ?_
  obtain ⟨l,hl1,hl2⟩:=hy
  obtain ⟨hlts,rfl⟩:=List.getElem?_eq_some_iff.1 hl1
  obtain ⟨hlti,hyl⟩:=List.getElem?_eq_some_iff.1 hl2
  have hs0:0≤s:=hb.s.1
  have hs1:s<(t.states.l.length:Int):=hb.s.2
  obtain ⟨jn,o,cs,ha,hV,hpt⟩:=Sl.In.get ht.states.2.1 hlts
  have hl:=ht.states.2.2 _ (List.getElem_mem hlts)
  have hgr:=guard_runs hck (List.getElem_mem hlts) (g:=y) (by rw [←hyl];exact List.getElem_mem hlti)
  have hro:=statesAt_rest _ _ _ (check_formed hck).1.2 _ (List.getElem_mem hlts) y (by rw [←hyl];exact List.getElem_mem hlti)
  obtain ⟨jn2,o2,cs2,ha2,hV2,hpt2⟩:=Sl.In.get hl.2.1 hlti
  have hyo:=hl.2.2 _ (List.getElem_mem hlti)
  rw [hyl] at hpt2 hyo
  clear hl1 hl2 hyl
  generalize t.states.l[s.toNat]=l at hpt hl hlti ha2 hpt2 hro hgr
  rw [show ((s.toNat:Nat):Int)=s by omega] at hpt
  have hi1:(i:Int)<(l.l.length:Int):=by omega
  have hi0:(0:Int)≤(i:Int):=by omega
  have hrow:y.rows.In V true 11 Row.v:=hyo.2.2.2.2.1
  have hrows:∀r∈y.rows.l,RowOk t r:=fun r hr=>⟨(hro.2 r hr).2.2.2,hgr.2 r hr,(hro.2 r hr).2.1,(hro.2 r hr).1⟩
  have hord:∀r∈y.rows.l,(if r.k=1 then 1≤r.o∧r.o≤5 else r.o=0):=fun r hr=>(hro.2 r hr).2.2.1
  have hrl:=hro.1.2
  have hrb:regs.l.length≤10000000:=by have:=(check_code hck).2;have:=hb.len;simp only [bod0] at this;omega
  have hcp:=copiedR_c (V:=V) B.copied hg hrb s
  have hlike:=doD_like t w y.rows.l (bod0 s regs.l) fun r hr=>⟨hrows r hr,hord r hr⟩
  obtain ⟨k1,k2,k3,k4⟩:=doF_ok hck ht.consts.2.2 hw y.rows.l (bod0 s regs.l) hrows hb
  have kle:=rowsB_le hck hrows
  repeat first|(with_reducible first|refine za ?_|refine zb ?_|refine zc ?_)|(refine yo zr ?_;intro _)|(refine yp zr ?_;intro _)
  rename_i it im iw i12 i13
  refine W.drawG _ [(0,3,4),(1,3,4)] 0 (by decide +kernel) tbl tblOk ⟨⟨_,_,_,it,0,t.v,rfl,rfl,tab_same t,?_,?_⟩,⟨_,_,_,iw,0,w.v,rfl,rfl,by simp [sameA,sameL,Snap.v],?_,?_⟩,trivial⟩ (.inl rfl) ?_
  · show W _ _ _ _ _ [.o false _ []] _ _ _ _
    repeat' first|with_reducible refine zc ?_|refine W.doneN zr ?_
    exact ⟨rfl,_,_,.tail _ (.tail _ (.tail _ (.tail _ (.head _)))),rfl,rfl⟩
  · intro j hj1 hj2
    obtain rfl|rfl:j=3∨j=4:=by have h1:3≤j:=hj1;have h2:j≤4:=hj2;omega
    · show W _ _ _ _ _ [.o false _ [_,_,_]] _ _ _ _
      repeat' first|refine yn 4 zr ?_|with_reducible refine zc ?_|refine yn 2 zr ?_|refine yn 3 zr ?_|refine W.doneN zr ?_
      exact ⟨_,_,.tail _ (.tail _ (.tail _ (.tail _ (.head _)))),rfl,rfl⟩
    · show W _ _ _ _ _ [.o false _ [_,_,_,_]] _ _ _ _
      repeat' first|refine yn 4 zr ?_|(refine W.callN (val:=fun i=>.agg [.int .i64 s,(gS i regs.l).v]) rfl rfl rfl rfl hcp ?_;rintro jr _ ⟨R,rfl⟩)|with_reducible refine zc ?_|refine yn 2 zr ?_|refine yn 3 zr ?_|refine W.doneN zr ?_
      exact ⟨_,_,List.mem_append_left _ (.tail _ (.tail _ (.tail _ (.tail _ (.head _))))),rfl,rfl⟩
  · show W _ _ _ _ _ [.o false _ [_]] _ _ _ _
    repeat' first|refine yn 4 zr ?_|with_reducible refine zc ?_|refine W.doneN zr ?_
    exact ⟨rfl,_,_,.tail _ (.tail _ (.head _)),rfl,rfl⟩
  · intro j hj1 hj2
    obtain rfl|rfl:j=3∨j=4:=by have h1:3≤j:=hj1;have h2:j≤4:=hj2;omega
    · show W _ _ _ _ _ [.o false _ [_,_,_]] _ _ _ _
      repeat' first|refine yn 4 zr ?_|with_reducible refine zc ?_|refine yn 2 zr ?_|refine yn 3 zr ?_|refine W.doneN zr ?_
      exact ⟨_,_,.tail _ (.tail _ (.head _)),rfl,rfl⟩
    · show W _ _ _ _ _ [.o false _ [_,_,_,_]] _ _ _ _
      repeat' first|refine yn 4 zr ?_|(refine W.callN (val:=fun i=>.agg [.int .i64 s,(gS i regs.l).v]) rfl rfl rfl rfl hcp ?_;rintro jr _ ⟨R,rfl⟩)|with_reducible refine zc ?_|refine yn 2 zr ?_|refine yn 3 zr ?_|refine W.doneN zr ?_
      exact ⟨_,_,List.mem_append_left _ (.tail _ (.tail _ (.head _))),rfl,rfl⟩
  repeat first|(refine W.callN (val:=fun i=>.agg [.int .i64 s,(gS i regs.l).v]) rfl rfl rfl rfl hcp ?_;rintro jr _ ⟨R,rfl⟩)|refine yn 4 zr ?_|refine yn 5 zr ?_|refine W.ia tblOk rfl rfl rfl rfl rfl rfl ha hs0 hs1 ?_|refine W.ldV tblOk rfl rfl rfl hV hpt ?_|refine W.ia tblOk rfl rfl rfl rfl rfl rfl ha2 hi0 hi1 ?_|refine W.ldV tblOk rfl rfl rfl hV2 (part_field hpt2 (i:=4) rfl) ?_|(with_reducible first|refine za ?_|refine zb ?_|refine zc ?_)|refine ym zr ?_|refine yn 2 zr ?_|refine yn 3 zr ?_|(refine yo zr ?_;intro _)|with_reducible refine ze ?_
  rename_i kb
  generalize hF:doF t w y.rows.l (bod0 s regs.l)=F at hlike k1 k2 k3 k4
  generalize hD:doD t w y.rows.l (bod0 s regs.l)=D at hlike
  obtain ⟨f1,f2,f3⟩:=hlike
  have k2:0≤F.steps:=k2
  have k3:F.steps≤(rowsB y.rows.l (0,0)).1:=by have:F.steps≤0+(rowsB y.rows.l (0,0)).1:=k3;omega
  generalize hE:((i13,.cells [.int .i64 0,.slice none 0 (.ex 0)] 30 2 true)::(i12,.cells [.int .i64 0,.bool false,.slice none 0 (.ex 0),.int .u8 0,.int .i64 0,.int .i64 0] 65 6 true)::(iw,.cells [.int .i64 w.bid,.int .i64 w.ask,.int .i64 w.last,.int .i64 w.volume,.int .i64 w.now,.int .i64 w.open_] 55 6 true)::(im,.cells [.int .i64 s,regs.v] 30 2 true)::(it,.cells [.str t.name,t.regs.v,.int .i64 t.slots,t.consts.v,t.code.v,t.states.v] 26 6 true)::[]:Dm)=E
  refine W.perm (_::(gD iC 2 1 jr regs.l++(E++R))) (.cons _ ?_) ?_
  · rw [←hE]
    exact .trans List.perm_append_comm (List.Perm.of_eq (List.append_assoc _ _ _))
  refine W.dropE (bodRD kb t w jr .z (bod0 s regs.l)++E) (.cons_cons _ ?_) ?_
  · show ((gD iC 2 1 jr regs.l++[])++E).Sublist _
    rw [List.append_nil]
    exact (List.Sublist.refl _).append (List.sublist_append_left E R)
  refine W.cut2 (fun Γ' Δ'=>∃ja,Γ'=[(1,.int .i64 (i:Int)),(4,.bool cf),(5,.int .i64 n),(8,.ptr (some (im,0))),(12,.ptr (some (i12,0))),(13,.ptr (some (i13,0))),(14,.ptr (some (kb,0)))]∧Δ'=bodRD kb t w jr ja D++E) ?_ ?_
  · rintro _ _ ⟨ja,rfl,rfl⟩
    have hst:0≤D.steps∧D.steps≤16384 * 8:=by rw [f2];omega
    have ewb:IntKind.i64.wrap (n+D.steps)=n+D.steps:=w64 (by omega) (by omega)
    unfold bodRD bodR
    generalize hG:(gD iC 2 1 jr D.regs++gD Act.cs 127 6 ja D.acts)=G
    subst hE
    refine W.perm (_::([_,_,_,_,_]++G)) (.cons _ List.perm_append_comm) ?_
    unfold fireF
    rw [hF]
    repeat first|(with_reducible first|refine za ?_|refine zb ?_|refine zc ?_)|refine ym zr ?_|refine yn 0 zr ?_
    simp only [ewb]
    by_cases he:D.err=0
    rotate_left
    · rw [if_neg (by rw [←f1];exact he),←f1,←f2]
      refine W.condP rfl (fun _=>?_) (fun h=>absurd he h)
      refine W.dropE [_,_,_,_,_,_] (List.sublist_append_left [_,_,_,_,_,_] G) ?_
      repeat first|with_reducible refine za ?_
      refine W.drawG _ [(3,7,8)] 0 (by decide +kernel) tbl tblOk ⟨⟨_,_,_,kb,17,.int .i64 D.err,rfl,rfl,by simp [sameA],?_,?_⟩,trivial⟩ (.inl rfl) ?_
      · show W _ _ _ _ _ [.o false _ [_,_,_]] _ _ _ _
        repeat' first|with_reducible refine zc ?_|refine ym zr ?_|refine W.doneN zr ?_
        exact ⟨rfl,_,_,.head _,rfl,rfl⟩
      · intro j hj1 hj2
        obtain rfl|rfl:j=7∨j=8:=by have h1:7≤j:=hj1;have h2:j≤8:=hj2;omega
        · show W _ _ _ _ _ [.o false _ [_,_,_,_,_,_,_]] _ _ _ _
          repeat' first|refine yn 4 zr ?_|with_reducible refine zc ?_|refine ym zr ?_|refine yn 0 zr ?_|refine W.doneN zr ?_
          exact ⟨_,_,.head _,rfl,rfl⟩
        · show W _ _ _ _ _ [.o false _ [_,_,_,_,_,_,_,_]] _ _ _ _
          repeat' first|(refine W.callN (val:=fun i=>.agg [.int .i64 s,(gS i regs.l).v]) rfl rfl rfl rfl hcp ?_;rintro jr' _ ⟨R',rfl⟩)|refine yn 4 zr ?_|with_reducible refine zc ?_|refine ym zr ?_|refine yn 0 zr ?_|refine W.doneN zr ?_
          exact ⟨_,_,.head _,rfl,rfl⟩
      repeat' first|(refine W.callN (val:=fun i=>.agg [.int .i64 s,(gS i regs.l).v]) rfl rfl rfl rfl hcp ?_;rintro jr' _ ⟨R',rfl⟩)|refine yn 4 zr ?_|refine W.doneC tblOk (.cell 1 rfl rfl rfl rfl (.cell 0 rfl rfl rfl rfl .nil)) ?_|with_reducible refine zc ?_|refine ym zr ?_|refine yn 0 zr ?_|refine yu zr ?_|(with_reducible first|refine zj ?_|refine zk ?_)
      exact ⟨jr',.z,exR (A:=[_,_,_,_,_,_]) rfl rfl⟩
    have hDF:=f3 (by rw [←f1];exact he)
    subst hDF
    rw [if_pos he]
    refine W.condP rfl (fun h=>absurd he h) (fun _=>?_)
    by_cases hap:(0:Int)<((gS ja D.acts).l.length:Int)
    · have hap2:0<D.acts.length:=by rw [gS_l] at hap;omega
      cases cf with
      | false =>
        rw [if_pos ⟨hap2,rfl⟩]
        refine W.dropE [_,_,_,_,_,_] (List.sublist_append_left [_,_,_,_,_,_] G) ?_
        repeat' first|(refine W.gs rfl rfl rfl rfl ?_ (fun h=>absurd hap h);intro _)|(refine W.callN (val:=fun i=>.agg [.int .i64 s,(gS i regs.l).v]) rfl rfl rfl rfl hcp ?_;rintro jr' _ ⟨R',rfl⟩)|refine yn 4 zr ?_|refine W.doneC tblOk (.cell 1 rfl rfl rfl rfl (.cell 0 rfl rfl rfl rfl .nil)) ?_|(with_reducible first|refine za ?_|refine zb ?_|refine zc ?_)|refine ym zr ?_|refine yn 0 zr ?_|refine yu zr ?_|(with_reducible first|refine zd ?_|refine zj ?_|refine zk ?_)|refine W.condT zr ?_
        exact ⟨jr',.z,exR (A:=[_,_,_,_,_,_]) rfl rfl⟩
      | true =>
        rw [if_neg (fun h=>by cases h.2)]
        repeat first|(refine W.gs rfl rfl rfl rfl ?_ (fun h=>absurd hap h);intro _)|(with_reducible first|refine za ?_|refine zb ?_|refine zc ?_)|refine ym zr ?_|refine yn 0 zr ?_|with_reducible refine zd ?_|refine W.condF zr ?_
        refine W.drawG _ [(14,15,16)] 0 (by decide +kernel) tbl tblOk ⟨⟨_,_,_,kb,12,.agg [.int .i64 D.s,(gS jr D.regs).v],rfl,rfl,by simp [sameA,sameL,slv_same'],?_,?_⟩,trivial⟩ (.inl rfl) ?_
        · show W _ _ _ _ _ [.o false _ [_,_,_,_,_,_,_,_,_,_,_,_,_,_]] _ _ _ _
          repeat' first|with_reducible refine zc ?_|refine ym zr ?_|refine yn 0 zr ?_|refine W.doneN zr ?_
          exact ⟨rfl,_,_,.head _,rfl,rfl⟩
        · intro j hj1 hj2
          obtain rfl|rfl:j=15∨j=16:=by have h1:15≤j:=hj1;have h2:j≤16:=hj2;omega
          · show W _ _ _ _ _ [.o false _ [_,_,_,_,_,_,_,_,_,_,_,_,_,_,_]] _ _ _ _
            repeat' first|with_reducible refine zc ?_|refine ym zr ?_|refine yn 0 zr ?_|refine W.doneN zr ?_
            exact ⟨_,_,.head _,rfl,rfl⟩
          · show W _ _ _ _ _ [.o false _ [_,_,_,_,_,_,_,_,_,_,_,_,_,_,_,_]] _ _ _ _
            repeat' first|with_reducible refine zc ?_|refine ym zr ?_|refine yn 0 zr ?_|refine yu zr ?_|refine W.doneN zr ?_
            exact ⟨_,_,.tail _ (.head _),rfl,rfl⟩
        repeat' first|refine W.doneC tblOk (.cell 1 rfl rfl rfl rfl (.cell 0 rfl rfl rfl rfl .nil)) ?_|with_reducible refine zc ?_|refine ym zr ?_|refine yn 0 zr ?_|refine yu zr ?_|with_reducible refine zj ?_
        exact ⟨jr,ja,[_,_,_,_,_,_],rfl,by rw [hG];rfl⟩
    · have hap2:¬0<D.acts.length:=by rw [gS_l] at hap;omega
      rw [if_neg (fun h=>hap2 h.1)]
      repeat first|(refine W.gs rfl rfl rfl rfl (fun h=>absurd h hap) ?_;intro _)|(with_reducible first|refine za ?_|refine zb ?_|refine zc ?_)|refine ym zr ?_|refine yn 0 zr ?_|with_reducible refine zd ?_|refine zx zr zr zr ?_|refine W.condF zr ?_
      refine W.drawG _ [(14,15,16)] 0 (by decide +kernel) tbl tblOk ⟨⟨_,_,_,kb,12,.agg [.int .i64 D.s,(gS jr D.regs).v],rfl,rfl,by simp [sameA,sameL,slv_same'],?_,?_⟩,trivial⟩ (.inl rfl) ?_
      · show W _ _ _ _ _ [.o false _ [_,_,_,_,_,_,_,_,_,_,_,_,_,_]] _ _ _ _
        repeat' first|with_reducible refine zc ?_|refine ym zr ?_|refine yn 0 zr ?_|refine W.doneN zr ?_
        exact ⟨rfl,_,_,.head _,rfl,rfl⟩
      · intro j hj1 hj2
        obtain rfl|rfl:j=15∨j=16:=by have h1:15≤j:=hj1;have h2:j≤16:=hj2;omega
        · show W _ _ _ _ _ [.o false _ [_,_,_,_,_,_,_,_,_,_,_,_,_,_,_]] _ _ _ _
          repeat' first|with_reducible refine zc ?_|refine ym zr ?_|refine yn 0 zr ?_|refine W.doneN zr ?_
          exact ⟨_,_,.head _,rfl,rfl⟩
        · show W _ _ _ _ _ [.o false _ [_,_,_,_,_,_,_,_,_,_,_,_,_,_,_,_]] _ _ _ _
          repeat' first|with_reducible refine zc ?_|refine ym zr ?_|refine yn 0 zr ?_|refine yu zr ?_|refine W.doneN zr ?_
          exact ⟨_,_,.tail _ (.head _),rfl,rfl⟩
      repeat' first|refine W.doneC tblOk (.cell 1 rfl rfl rfl rfl (.cell 0 rfl rfl rfl rfl .nil)) ?_|with_reducible refine zc ?_|refine ym zr ?_|refine yn 0 zr ?_|refine yu zr ?_|with_reducible refine zj ?_
      exact ⟨jr,ja,[_,_,_,_,_,_],rfl,by rw [hG];rfl⟩
  intro hA
  refine W.loopR (α:={ q:Nat×Bod×K // q.1≤y.rows.l.length∧(q.2.1.err=0→BodOk t q.2.1∧0≤q.2.1.steps∧q.2.1.steps≤q.1 * 16384∧q.2.1.acts.length≤q.1∧D=doD t w (y.rows.l.drop q.1) q.2.1)∧(q.2.1.err≠0→D=q.2.1) }) (fun q=>y.rows.l.length-q.1.1)
    (fun q=>[(1,.int .i64 (i:Int)),(4,.bool cf),(5,.int .i64 n),(8,.ptr (some (im,0))),(12,.ptr (some (i12,0))),(13,.ptr (some (i13,0))),(14,.ptr (some (kb,0))),(15,y.rows.v),(16,.int .i64 (q.1.1:Int))])
    (fun q=>bodRD kb t w jr q.1.2.2 q.1.2.1++E) ⟨(0,bod0 s regs.l,.z),Nat.zero_le _,fun _=>⟨hb,Int.le_refl _,Int.le_refl _,Nat.le_refl _,hD.symm⟩,fun h=>absurd rfl h⟩ ⟨rfl,rfl,rfl,rfl,rfl,rfl,rfl,rfl,rfl⟩ (List.Sublist.refl _) ?_
  rintro ⟨⟨m,b,ja⟩,hm,hok,hbad⟩ ih
  simp only at ih hm hok hbad ⊢
  unfold bodRD bodR
  by_cases hgo:m<y.rows.l.length∧b.err=0
  · obtain ⟨hlt,he0⟩:=hgo
    have hm0:(0:Int)≤(m:Int):=by omega
    have hm1:(m:Int)<(y.rows.l.length:Int):=by omega
    obtain ⟨hbo,hst0,hst1,hal,hinv⟩:=hok he0
    have ewm:IntKind.i64.wrap ((m:Int)+1)=((m+1:Nat):Int):=by rw [w64 (by omega) (by omega)];omega
    obtain ⟨jn3,o3,cs3,ha3,hV3,hpt3⟩:=Sl.In.get hrow hlt
    have hr:=hrows _ (List.getElem_mem hlt)
    have hor:=hord _ (List.getElem_mem hlt)
    rw [List.drop_eq_getElem_cons hlt,doD] at hinv
    have hrow1:=rowR0_c (V:=V) B ht hck hw kb jr ja b hbo ⟨hst0,by omega⟩ (by omega) hr
    have lk:=rowD_like t w b hr hor
    have r1:=row_ok hck ht.consts.2.2 hw hbo hr
    have r2:=row_steps hck w b hr
    have r3:=row_acts (w:=w) (b:=b) hr
    have r4:=body_le hck hr
    have hnext:=fun b' ja' h2 h3=>ih ⟨(m+1,b',ja'),hlt,h2,h3⟩ (by show y.rows.l.length-(m+1)<y.rows.l.length-m;omega)
    simp only at hnext
    clear ih hok hbad
    generalize y.rows.l[m]=r at hpt3 hr hinv hrow1 r1 r2 r3 r4 lk
    generalize rowF t w b r=bf at lk r1 r2 r3
    generalize rowD t w b r=b' at hinv hrow1 lk
    obtain ⟨l1,l2,l3⟩:=lk
    unfold bodRD bodR at hrow1
    have hnext:=hnext b'
    repeat first|(refine W.gs rfl rfl rfl rfl ?_ (fun h=>absurd hm1 h);intro _)|(with_reducible first|refine za ?_|refine zb ?_|refine zc ?_)|refine ym zr ?_|refine yn 0 zr ?_
    refine W.condP rfl (fun _=>?_) (fun h=>absurd he0 h)
    repeat first|refine W.ia tblOk rfl rfl rfl rfl rfl rfl ha3 hm0 hm1 ?_|refine W.ldV tblOk rfl rfl rfl hV3 hpt3 ?_|(with_reducible first|refine za ?_|refine zb ?_)|refine ym zr ?_|(with_reducible first|refine zd ?_|refine ze ?_)
    refine W.callR (Δ:=_::(gD iC 2 1 jr b.regs++gD Act.cs 127 6 ja b.acts)) (R:=E) rfl rfl rfl rfl hrow1 (by rintro v Δ' ⟨h,-⟩;cases h) ?_
    rintro v_ Δ_ ⟨h1_,ja',rfl⟩
    injection h1_ with h1_;subst h1_
    clear hrow1
    have hnext:=hnext ja' (fun h0=>by
      have e:=l3 (by rw [←l1];exact h0)
      rw [if_pos h0] at hinv
      rw [e]
      exact ⟨r1,by omega,by omega,by rw [r3];split<;>omega,by rw [←e];exact hinv⟩) (fun h0=>by rw [if_neg h0] at hinv;exact hinv)
    repeat first|(with_reducible first|refine zb ?_|refine zc ?_)|refine ym zr ?_|with_reducible refine zf ?_
    exact W.wk hnext ⟨rfl,rfl,rfl,rfl,rfl,rfl,rfl,rfl,congrArg (fun z=>some (AV.int .i64 z)) ewm⟩ (List.Sublist.refl _)
  · clear ih
    have hDb:D=b:=by
      by_cases he:b.err=0
      · have hml:m=y.rows.l.length:=by
          have:¬m<y.rows.l.length:=fun h=>hgo ⟨h,he⟩
          omega
        have:=(hok he).2.2.2.2
        rw [hml,List.drop_length] at this
        exact this
      · exact hbad he
    clear hok hbad
    subst hDb
    by_cases hlt:m<y.rows.l.length
    · have he:¬D.err=0:=fun h=>hgo ⟨hlt,h⟩
      have hm1:(m:Int)<(y.rows.l.length:Int):=by omega
      repeat first|exact W.wk (hA _ _ ⟨ja,rfl,rfl⟩) ⟨rfl,rfl,rfl,rfl,rfl,rfl,rfl⟩ (List.Sublist.refl _)|(refine W.gs rfl rfl rfl rfl ?_ (fun h=>absurd hm1 h);intro _)|refine W.condP rfl (fun h=>absurd h he) (fun _=>?_)|(with_reducible first|refine za ?_|refine zb ?_|refine zc ?_)|refine ym zr ?_|refine yn 0 zr ?_|(with_reducible first|refine zg ?_|refine zh ?_|refine zi ?_)
    · have hm1:¬(m:Int)<(y.rows.l.length:Int):=by omega
      repeat first|exact W.wk (hA _ _ ⟨ja,rfl,rfl⟩) ⟨rfl,rfl,rfl,rfl,rfl,rfl,rfl⟩ (List.Sublist.refl _)|(refine W.gs rfl rfl rfl rfl (fun h=>absurd h hm1) ?_;intro _)|(with_reducible first|refine za ?_|refine zb ?_|refine zc ?_)|refine ym zr ?_|(with_reducible first|refine zg ?_|refine zh ?_|refine zi ?_)|refine zx zr zr zr ?_|refine W.condF zr ?_
end Go.Proofs.YtoegffiapnnkiaaGreat.Abs
