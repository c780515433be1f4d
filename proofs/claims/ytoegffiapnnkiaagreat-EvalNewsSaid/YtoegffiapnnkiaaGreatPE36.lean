/- Parts of one proof. No condition but those that each theorem names. -/
import Derived.Test.YtoegffiapnnkiaaGreatPE35
namespace Go.Proofs.YtoegffiapnnkiaaGreat.Abs
open Go
set_option linter.unusedVariables false
set_option linter.unusedSimpArgs false
set_option maxRecDepth 100000
set_option maxHeartbeats 4000000
attribute [local irreducible] W Cl Bd
variable {g:Cg} {V:K→Option (List AV)}
theorem srcX {Δ:Dm} {s:Sl Instr} (h:s.In V true 2 Instr.v):∀F st,Mem V F Δ st→srcCells 2 s.l.length s.v st.hp=some (s.l.flatMap Instr.cs):=src_in (enc:=Instr.cs) (fun _=>rfl) (fun _=>rfl) h
theorem srcR {Δ:Dm} {s:Sl Row} (h:s.In V true 11 Row.v):∀F st,Mem V F Δ st→srcCells 11 s.l.length s.v st.hp=some (s.l.flatMap Row.cs):=src_in (enc:=Row.cs) (fun _=>rfl) (fun _=>rfl) h
theorem copyR_c (hp:Plain g 14=true) {t:Table} (ht:t.Ok V) (hr:t.Room) :
    Cl Tryz.prog g V 14 [t.v] [] fun o Δ=>∃c:Table,o=.ret c.v∧CpT Δ c t∧∃i,c.regs=gS i t.regs.l∧∀z∈gD iC 2 1 i t.regs.l,z∈Δ:=by
  refine Cl.enter hp Tryz.func14 rfl ?_
  have hlen:=ht.states.1
  unfold Len at hlen
  repeat first|(with_reducible first|refine za ?_|refine zb ?_|refine zc ?_)|refine ym zr ?_|refine yn 0 zr ?_|refine yn 1 zr ?_|refine yn 2 zr ?_|(refine yo zr ?_;intro _)|(refine yp zr ?_;intro _)|refine yq zr ?_
  refine W.appG (i:=.z) (l:=[]) (m:=t.regs.l) (enc:=iC) (Δ1:=[_,_,_]) (Δ0:=[]) tblOk rfl rfl rfl rfl rfl rfl rfl (by decide) (by simpa using hr.regs) (fun _=>rfl) (srcI ht.regs.2.1) (fun h=>src_none h) (leaf_all _ leafI _) rfl rfl fun n1=>?_
  repeat first|(with_reducible first|refine za ?_|refine zb ?_|refine zc ?_)|refine ym zr ?_|refine yn 0 zr ?_|refine yn 2 zr ?_|refine yq zr ?_
  refine W.appG (i:=.z) (l:=[]) (m:=t.consts.l) (enc:=iC) (Δ1:=[_,_,_]) tblOk rfl rfl rfl rfl rfl rfl rfl (by decide) (by simpa using hr.consts) (fun _=>rfl) (srcI ht.consts.2.1) (fun h=>src_none h) (leaf_all _ leafI _) rfl rfl fun n2=>?_
  repeat first|(with_reducible first|refine za ?_|refine zb ?_|refine zc ?_)|refine ym zr ?_|refine yn 0 zr ?_|refine yn 2 zr ?_|refine yq zr ?_
  refine W.appG (i:=.z) (l:=[]) (m:=t.code.l) (enc:=Instr.cs) (Δ1:=[_,_,_]) tblOk rfl rfl rfl rfl rfl rfl rfl (by decide) (by simpa using hr.code) (fun _=>rfl) (srcX ht.code.2.1) (fun h=>src_none h) (leaf_all _ leafX _) rfl rfl fun n3=>?_
  repeat first|(with_reducible first|refine za ?_|refine zb ?_|refine zc ?_)|refine ym zr ?_|refine yq zr ?_|with_reducible refine ze ?_
  have q1:(gS n1 ([]++t.regs.l)).l=t.regs.l:=gS_l _ _
  have q2:(gS n2 ([]++t.consts.l)).l=t.consts.l:=gS_l _ _
  have q3:(gS n3 ([]++t.code.l)).l=t.code.l:=gS_l _ _
  obtain ⟨D1,hD1,r1,r2,r3,r4⟩:∃D1,D1=gD Instr.cs 86 2 n3 ([]++t.code.l)++(gD iC 2 1 n2 ([]++t.consts.l)++(gD iC 2 1 n1 ([]++t.regs.l)++[]))∧RowIn D1 iC 2 1 (gS n1 ([]++t.regs.l))∧RowIn D1 iC 2 1 (gS n2 ([]++t.consts.l))∧RowIn D1 Instr.cs 86 2 (gS n3 ([]++t.code.l))∧∀z∈gD iC 2 1 n1 t.regs.l,z∈D1 :=
    ⟨_,rfl,gS_in fun z hz=>List.mem_append_right _ (List.mem_append_right _ (List.mem_append_left _ hz)),gS_in fun z hz=>List.mem_append_right _ (List.mem_append_left _ hz),gS_in fun z hz=>List.mem_append_left _ hz,fun z hz=>List.mem_append_right _ (List.mem_append_right _ (List.mem_append_left _ hz))⟩
  refine W.perm (_::_::_::(gD Instr.cs 86 2 n3 ([]++t.code.l)++(gD iC 2 1 n2 ([]++t.consts.l)++(gD iC 2 1 n1 ([]++t.regs.l)++[])))) (List.Perm.refl _) ?_
  rw [←hD1]
  clear hD1
  have q4:gS n1 ([]++t.regs.l)=gS n1 t.regs.l:=rfl
  generalize gS n1 ([]++t.regs.l)=s1 at q1 r1 q4 ⊢
  generalize gS n2 ([]++t.consts.l)=s2 at q2 r2 ⊢
  generalize gS n3 ([]++t.code.l)=s3 at q3 r3 ⊢
  refine W.loopR (α:={ q:Nat×List (Sl Guard)×K×Dm // q.1≤t.states.l.length∧q.2.1.length=q.1∧∀k (h1:k<q.2.1.length) (h2:k<t.states.l.length),CpS q.2.2.2 q.2.1[k] t.states.l[k] }) (fun q=>t.states.l.length-q.1.1) (fun q=>[(1,_),(2,_),(3,_),(4,.int .i64 (q.1.1:Int))])
    (fun q=>(_,.cells [.str t.name,s1.v,.int .i64 t.slots,s2.v,s3.v,(gS q.1.2.2.1 q.1.2.1).v] 26 _ true)::_::_::(gD slC 129 1 q.1.2.2.1 q.1.2.1++(q.1.2.2.2++D1))) ⟨(0,[],.z,[]),by simp,rfl,fun k h1=>by simp at h1⟩ ⟨rfl,rfl,rfl,rfl⟩ (List.Sublist.refl _) ?_
  rintro ⟨⟨i,xs,nm,Dn⟩,hi1,hi2,hi3⟩ ih
  simp only at ih hi1 hi2 hi3 ⊢
  repeat first|(with_reducible first|refine za ?_|refine zb ?_|refine zc ?_)|refine ym zr ?_|refine yn 2 zr ?_
  refine W.condP rfl ?_ ?_<;>intro hlt
  rotate_left
  · clear ih
    repeat' first|refine W.doneC tblOk (.cell 0 rfl rfl rfl rfl .nil) ?_|(with_reducible first|refine za ?_|refine zb ?_|refine zc ?_)|refine yn 0 zr ?_|refine ys zr ?_|(with_reducible first|refine zg ?_|refine zh ?_|refine zi ?_|refine zj ?_)
    have hi:i=t.states.l.length:=by omega
    refine ⟨⟨t.name,s1,t.slots,s2,s3,gS nm xs⟩,rfl,⟨rfl,rfl,⟨q1,r1.mono ?_⟩,⟨q2,r2.mono ?_⟩,⟨q3,r3.mono ?_⟩,?_⟩,n1,q4,fun z hz=>by have:=r4 z hz;simp [this]⟩
    · intro z hz;simp [hz]
    · intro z hz;simp [hz]
    · intro z hz;simp [hz]
    · have hg:=gS_l nm xs
      refine ⟨by show (gS nm xs).l.length=_;rw [hg,hi2,hi],gS_in fun z hz=>by simp [hz],?_⟩
      show ∀i (h1:i<(gS nm xs).l.length) (h2:i<t.states.l.length),CpS _ (gS nm xs).l[i] t.states.l[i]
      rw [hg]
      exact fun k h1 h2=>(hi3 k h1 h2).mono fun z hz=>by simp [hz]
  have hlt:i<t.states.l.length:=by omega
  obtain ⟨jn,o,cs,ha,hV,hpt⟩:=Sl.In.get ht.states.2.1 hlt
  have hl:=ht.states.2.2 _ (List.getElem_mem hlt)
  have hrg:=hr.guards _ (List.getElem_mem hlt)
  have hrr:=hr.rows _ (List.getElem_mem hlt)
  have hst:∀x:Sl Guard,CpS Dn x t.states.l[i]→True:=fun _ _=>trivial
  have hfin:∀(D:Dm) (x:Sl Guard),(∀z∈Dn,z∈D)→CpS D x t.states.l[i]→∀k (h1:k<(xs++[x]).length) (h2:k<t.states.l.length),CpS D (xs++[x])[k] t.states.l[k]:=fun D x hD hx=>by
    subst hi2
    exact snoc_all (R:=CpS D) (fun k h1 h2=>(hi3 k h1 h2).mono hD) hlt hx
  generalize t.states.l[i]=l at hpt hl hrg hrr hfin
  have hll:=hl.1
  unfold Len at hll
  clear hst
  repeat first|(with_reducible first|refine za ?_|refine zb ?_|refine zc ?_)|refine ym zr ?_|(with_reducible first|refine zd ?_|refine ze ?_)
  refine W.loopR (α:={ q:Nat×List Guard×K×Dm // q.1≤l.l.length∧q.2.1.length=q.1∧∀k (h1:k<q.2.1.length) (h2:k<l.l.length),CpG q.2.2.2 q.2.1[k] l.l[k] }) (fun q=>l.l.length-q.1.1) (fun q=>[(1,_),(2,_),(3,_),(4,.int .i64 (i:Int)),(5,(gS q.1.2.2.1 q.1.2.1).v),(6,.int .i64 (q.1.1:Int))])
    (fun q=>_::_::_::(gD Guard.cs 132 5 q.1.2.2.1 q.1.2.1++(q.1.2.2.2++(gD slC 129 1 nm xs++(Dn++D1))))) ⟨(0,[],.z,[]),by simp,rfl,fun k h1=>by simp at h1⟩ ⟨rfl,rfl,rfl,rfl,rfl,rfl⟩ (List.Sublist.refl _) ?_
  rintro ⟨⟨k,gs,nm2,D2⟩,hk1,hk2,hk3⟩ ih2
  simp only at ih2 hk1 hk2 hk3 ⊢
  repeat first|refine W.ia tblOk rfl rfl rfl rfl rfl rfl ha (by omega) (by omega) ?_|refine W.ldV tblOk rfl rfl rfl hV hpt ?_|(with_reducible first|refine za ?_|refine zb ?_|refine zc ?_)|refine ym zr ?_|refine yn 2 zr ?_
  refine W.condP rfl ?_ ?_<;>intro hlt2
  rotate_left
  · clear ih2
    have hk:k=l.l.length:=by omega
    repeat first|(refine W.bsl tblOk rfl rfl rfl rfl (by decide) rfl rfl rfl ?_;intro _)|with_reducible refine zb ?_|refine ym zr ?_|refine yn 0 zr ?_|(with_reducible first|refine zg ?_|refine zh ?_|refine zi ?_)
    refine W.sw2 [_,_,_,_] (gD Guard.cs 132 5 nm2 gs) D2 (gD slC 129 1 nm xs) (Dn++D1) ?_
    refine W.appG (i:=nm) (l:=xs) (m:=[gS nm2 gs]) (enc:=slC) (Δ1:=[_,_,_,_]) tblOk rfl rfl rfl rfl rfl rfl rfl (by decide) (by have:=hr.states;simp only [List.length_singleton,hi2];omega) (fun _=>rfl) (src_own (p:=0) rfl rfl rfl) (fun h=>by cases h) (leaf_all _ leafS _) rfl rfl fun n5=>?_
    repeat first|(with_reducible first|refine zb ?_|refine zc ?_)|refine ym zr ?_|refine ys zr ?_|with_reducible refine zf ?_
    rw [wN (by omega)]
    have hg:=gS_l nm2 gs
    have h9:=ih ⟨(i+1,xs++[gS nm2 gs],n5,gD Guard.cs 132 5 nm2 gs++(D2++Dn)),by show i+1≤_;omega,by show (xs++[gS nm2 gs]).length=i+1;simp [hi2],hfin _ _ (fun z hz=>by simp [hz]) (CpS.mk' hg (by rw [hk2,hk]) (gS_in fun z hz=>by simp [hz]) (fun k h1 h2=>(hk3 k h1 h2).mono fun z hz=>by simp [hz]))⟩ (by show t.states.l.length-(i+1)<t.states.l.length-i;omega)
    refine W.weak _ _ ?_ ?_ h9
    · exact ⟨rfl,rfl,rfl,rfl⟩
    · show List.Sublist (_::_::_::(gD slC 129 1 n5 (xs++[gS nm2 gs])++((gD Guard.cs 132 5 nm2 gs++(D2++Dn))++D1))) _
      rw [List.append_assoc,List.append_assoc]
      exact .cons_cons _ (.cons _ (List.Sublist.refl _))
  have hlt2:k<l.l.length:=by omega
  obtain ⟨jn2,o2,cs2,ha2,hV2,hpt2⟩:=Sl.In.get hl.2.1 hlt2
  have hg:=hl.2.2 _ (List.getElem_mem hlt2)
  have hrx:=hrr _ (List.getElem_mem hlt2)
  have hfin2:∀(D:Dm) (x:Guard),(∀z∈D2,z∈D)→CpG D x l.l[k]→∀j (h1:j<(gs++[x]).length) (h2:j<l.l.length),CpG D (gs++[x])[j] l.l[j]:=fun D x hD hx=>by
    subst hk2
    exact snoc_all (R:=CpG D) (fun k h1 h2=>(hk3 k h1 h2).mono hD) hlt2 hx
  generalize l.l[k]=x at hpt2 hg hrx hfin2
  repeat first|refine W.ia tblOk rfl rfl rfl rfl rfl rfl ha (by omega) (by omega) ?_|refine W.ldV tblOk rfl rfl rfl hV hpt ?_|refine W.ia tblOk rfl rfl rfl rfl rfl rfl ha2 (by omega) (by omega) ?_|refine W.ldV tblOk rfl rfl rfl hV2 hpt2 ?_|(with_reducible first|refine za ?_|refine zb ?_|refine zc ?_)|refine ym zr ?_|refine yn 0 zr ?_|refine yn 2 zr ?_|(refine yp zr ?_;intro _)|refine yq zr ?_|(with_reducible first|refine zd ?_|refine ze ?_)
  refine W.appG (i:=.z) (l:=[]) (m:=x.rows.l) (enc:=Row.cs) (Δ1:=[_,_,_,_]) tblOk rfl rfl rfl rfl rfl rfl rfl (by decide) (by simpa using hrx) (fun _=>rfl) (srcR hg.2.2.2.2.1) (fun h=>src_none h) (leaf_all _ leafR _) rfl rfl fun n4=>?_
  refine W.sw [_,_,_,_] (gD Row.cs 148 11 n4 ([]++x.rows.l)) (gD Guard.cs 132 5 nm2 gs) (D2++(gD slC 129 1 nm xs++(Dn++D1))) ?_
  repeat first|(refine W.bsl tblOk rfl rfl rfl rfl (by decide) rfl rfl rfl ?_;intro _)|(with_reducible first|refine zb ?_|refine zc ?_)|refine ym zr ?_|refine yn 0 zr ?_|refine yq zr ?_
  refine W.appG (i:=nm2) (l:=gs) (m:=[⟨x.when,x.fields,x.regs,gS n4 ([]++x.rows.l)⟩]) (enc:=Guard.cs) (Δ1:=[_,_,_,_,_]) tblOk rfl rfl rfl rfl rfl rfl rfl (by decide) (by simp only [List.length_singleton,hk2];omega) (fun _=>rfl) (src_own (p:=0) rfl rfl rfl) (fun h=>by cases h) (leaf_all _ leafG _) rfl rfl fun n6=>?_
  repeat first|(with_reducible first|refine zb ?_|refine zc ?_)|refine ym zr ?_|with_reducible refine zf ?_
  rw [wN (by omega)]
  have hg4:(gS n4 ([]++x.rows.l)).l=x.rows.l:=gS_l _ _
  have h9:=ih2 ⟨(k+1,gs++[⟨x.when,x.fields,x.regs,gS n4 ([]++x.rows.l)⟩],n6,gD Row.cs 148 11 n4 ([]++x.rows.l)++D2),by show k+1≤_;omega,by show (gs++[_]).length=k+1;simp [hk2],hfin2 _ _ (fun z hz=>by simp [hz]) ⟨⟨rfl,rfl,rfl,hg4⟩,gS_in fun z hz=>List.mem_append_left _ hz⟩⟩ (by show l.l.length-(k+1)<l.l.length-k;omega)
  refine W.weak _ _ ?_ ?_ h9
  · exact ⟨rfl,rfl,rfl,rfl,rfl,rfl⟩
  · show List.Sublist (_::_::_::(gD Guard.cs 132 5 n6 (gs++[⟨x.when,x.fields,x.regs,gS n4 ([]++x.rows.l)⟩])++((gD Row.cs 148 11 n4 ([]++x.rows.l)++D2)++(gD slC 129 1 nm xs++(Dn++D1))))) _
    rw [List.append_assoc]
    exact .cons _ (.cons _ (List.Sublist.refl _))
end Go.Proofs.YtoegffiapnnkiaaGreat.Abs
