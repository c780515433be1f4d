/- Parts of one proof. No condition but those that each theorem names. -/
import Derived.Test.YtoegffiapnnkiaaGreatPE50
namespace Go.Proofs.YtoegffiapnnkiaaGreat.Abs
open Go Go.RowKit
set_option linter.unusedVariables false
set_option linter.unusedSimpArgs false
set_option maxRecDepth 100000
set_option maxHeartbeats 4000000
attribute [local irreducible] W Cl Bd
variable {V:K→Option (List AV)} {t:Table}
theorem evalNews_c (ht:t.Ok V) (hr:t.Room) {w:Snap} (hw:w.Ok) :
    Cl Tryz.prog G21 V 7 [t.v,w.v] [] fun o _=>o=.ret (.bool true):=by
  refine Cl.enter rfl Tryz.func7 rfl ?_
  repeat first|refine W.callP rfl rfl rfl rfl awakeC21 ?_|(refine W.callV rfl rfl rfl rfl (far21_c ht hr) ?_;rintro _ ⟨b_,rfl,hb_⟩)|(with_reducible first|refine za ?_|refine zb ?_|refine zc ?_)|refine ym zr ?_|refine yn 0 zr ?_|refine yn 1 zr ?_|refine yn 2 zr ?_|refine yn 3 zr ?_|(refine yo zr ?_;intro _)|(refine yp zr ?_;intro _)|refine yq zr ?_|refine ys zr ?_|refine yu zr ?_|refine yv zr ?_|(with_reducible first|refine zd ?_|refine ze ?_|refine zf ?_|refine zg ?_|refine zh ?_|refine zi ?_|refine zj ?_|refine zk ?_|refine zl ?_)|refine zz zr ?_|refine zw (by decide +kernel) ?_|refine zx zr zr zr ?_|refine zy zr zr ?_|refine W.condT zr ?_|refine W.condF zr ?_
  cases b_ with
  | true =>
    repeat' first|(with_reducible first|refine za ?_|refine zb ?_|refine zc ?_)|refine ym zr ?_|refine yn 0 zr ?_|refine yn 1 zr ?_|refine yn 2 zr ?_|refine yn 3 zr ?_|(refine yo zr ?_;intro _)|(refine yp zr ?_;intro _)|refine yq zr ?_|refine ys zr ?_|refine yu zr ?_|refine yv zr ?_|(with_reducible first|refine zd ?_|refine ze ?_|refine zf ?_|refine zg ?_|refine zh ?_|refine zi ?_|refine zj ?_|refine zk ?_|refine zl ?_)|refine zz zr ?_|refine zw (by decide +kernel) ?_|refine zx zr zr zr ?_|refine zy zr zr ?_|(refine W.condP zr ?_ ?_<;>intro _)|refine W.condT zr ?_|refine W.condF zr ?_|(refine W.cond zr ?_ ?_<;>intro _)|(refine W.gs zr zr zr zr ?_ ?_<;>intro _)|(refine W.gsB zr zr zr zr ?_ ?_<;>intro _)|refine W.done zr ?_|refine W.doneN zr ?_
    rfl
  | false =>
  have hlen:=hb_ rfl
  clear hb_
  repeat first|(refine W.callN rfl rfl rfl rfl (copyR_c rfl ht hr) ?_;intro c Δ' hcp)|(with_reducible first|refine za ?_|refine zb ?_|refine zc ?_)|refine ym zr ?_|refine yn 0 zr ?_|refine yn 1 zr ?_|refine yn 2 zr ?_|refine yn 3 zr ?_|(refine yo zr ?_;intro _)|(refine yp zr ?_;intro _)|refine yq zr ?_|refine ys zr ?_|refine yu zr ?_|refine yv zr ?_|(with_reducible first|refine zd ?_|refine ze ?_|refine zf ?_|refine zg ?_|refine zh ?_|refine zi ?_|refine zj ?_|refine zk ?_|refine zl ?_)|refine zz zr ?_|refine zw (by decide +kernel) ?_|refine zx zr zr zr ?_|refine zy zr zr ?_|refine W.condT zr ?_|refine W.condF zr ?_
  obtain ⟨hcp,ix,hix,hixm⟩:=hcp
  have hpre:=hcp.same.check
  have hE:newE c w=newE t w:=by unfold newE;rw [hpre]
  have hev0:ev0 c w=ev0 t w:=by unfold ev0;rw [hcp.regs.1]
  refine W.know fun hva hnd=>?_
  have hx:=CpT.ok (CpT.mono hcp (fun z hz=>by simp [hz])) ht hnd
  have hnew:=evNew_c ask21 rfl rfl rfl calls21 hx (hcp.room hr) (checkC21 hx (hcp.room hr)) w
  have hnewR:=dvNew_c (V:=V) ask21 rfl rfl rfl ht (checkRC21 ht hr) w
  have hst:=sameT_c (g:=G21) rfl rfl hx (Table.okM (withV_le hva) ht) hcp.same
  clear hva hnd hx
  rw [hE,hev0,hcp.regs.1] at hnew
  rename_i it iw ic
  by_cases h0:newE t w=0
  rotate_left
  · have n1:=hnew.mono (Q':=fun o _=>o=RO.ret (.tup [.ptr none,.int .i64 (newE t w)])) fun o Δ h=>by
      rcases h with ⟨-,h⟩|⟨h,-⟩
      · exact h
      · exact absurd h h0
    have n2:=hnewR.mono (Q':=fun o _=>o=RO.ret (.tup [.ptr none,.int .i64 (newE t w)])) fun o Δ h=>by
      rcases h with ⟨-,h⟩|⟨h,-⟩
      · exact h
      · exact absurd h h0
    clear hnew hnewR
    generalize newE t w=z at n1 n2
    repeat' first|refine W.callLP rfl rfl rfl rfl n1 ?_|refine W.callP rfl rfl rfl rfl n2 ?_|refine W.callLP rfl rfl rfl rfl hst ?_|(refine W.gs rfl rfl rfl rfl (fun h=>absurd rfl h) ?_;intro _)|refine W.condF rfl ?_|(with_reducible first|refine za ?_|refine zb ?_|refine zc ?_)|refine ym zr ?_|refine yn 0 zr ?_|refine yn 1 zr ?_|refine yn 2 zr ?_|refine yn 3 zr ?_|(refine yo zr ?_;intro _)|(refine yp zr ?_;intro _)|refine yq zr ?_|refine ys zr ?_|refine yu zr ?_|refine yv zr ?_|(with_reducible first|refine zd ?_|refine ze ?_|refine zf ?_|refine zg ?_|refine zh ?_|refine zi ?_|refine zj ?_|refine zk ?_|refine zl ?_)|refine zz zr ?_|refine zw (by decide +kernel) ?_|refine zx zr zr zr ?_|refine zy zr zr ?_|(refine W.condP zr ?_ ?_<;>intro _)|refine W.condT zr ?_|refine W.condF zr ?_|(refine W.cond zr ?_ ?_<;>intro _)|(refine W.gs zr zr zr zr ?_ ?_<;>intro _)|(refine W.gsB zr zr zr zr ?_ ?_<;>intro _)|refine W.done zr ?_|refine W.doneN zr ?_
    rfl
  have n1:=hnew.mono (Q':=fun o Δ=>∃k,o=RO.ret (.tup [.ptr (some (k,0)),.int .i64 0])∧∃(T:Table) (jr km:K) (D R:Dm),CpT D T c∧Δ.Perm (evB k T jr km (ev0 t w)::(km,.mp [] 0)::(gD iC 2 1 jr t.regs.l++(D++R)))) fun o Δ h=>by
    rcases h with ⟨h,-⟩|⟨-,h⟩
    · exact absurd h0 h
    · exact h
  have n2:=hnewR.mono (Q':=fun o Δ=>∃k,o=RO.ret (.tup [.ptr (some (k,0)),.int .i64 0])∧∃(jr jo:K) (kn:KR) (R:Dm),kn.map (·.2)=matF noF 0 t.states.l∧Δ.Perm (dvB k t jr jo kn (ev0 t w)::(gD iC 2 1 jr t.regs.l++(knD jo kn++R)))) fun o Δ h=>by
    rcases h with ⟨h,-⟩|⟨-,h⟩
    · exact absurd h0 h
    · exact h
  have hck:checkS t=none:=by
    unfold newE at h0
    by_cases h:(checkS t).getD 0=0
    · exact checkS_ne h
    · rw [if_neg h] at h0
      exact absurd h0 h
  clear hnew hnewR hst
  refine W.callL rfl rfl rfl rfl n1 (by rintro v Δ_ ⟨k,h1,-⟩;cases h1) ?_
  rintro v_ Δ_ ⟨k,h1_,T,jr,km,D,R1,hcT,hpm⟩
  injection h1_ with h1_;subst h1_
  refine W.perm _ (hpm.symm.append_right _) ?_
  clear n1 hpm
  refine W.perm _ List.perm_append_comm ?_
  repeat first|(with_reducible first|refine za ?_|refine zb ?_|refine zc ?_)|refine ym zr ?_|refine yn 0 zr ?_|refine yn 1 zr ?_|refine yn 2 zr ?_|refine yn 3 zr ?_|(refine yo zr ?_;intro _)|(refine yp zr ?_;intro _)|refine yq zr ?_|refine ys zr ?_|refine yu zr ?_|refine yv zr ?_|(with_reducible first|refine zd ?_|refine ze ?_|refine zf ?_|refine zg ?_|refine zh ?_|refine zi ?_|refine zj ?_|refine zk ?_|refine zl ?_)|refine zz zr ?_|refine zw (by decide +kernel) ?_|refine zx zr zr zr ?_|refine zy zr zr ?_|refine W.condT zr ?_|refine W.condF zr ?_
  refine W.callR (Δ:=[]) (R:=_) rfl rfl rfl rfl n2 (by rintro v Δ_ ⟨k,h1,-⟩;cases h1) ?_
  rintro v_ Δ_ ⟨kx,h1_,jr',jo,kn,R2,hkn,hpm⟩
  injection h1_ with h1_;subst h1_
  refine W.perm _ (List.perm_append_comm.trans (hpm.symm.append_right _)) ?_
  clear n2 hpm
  repeat first|(with_reducible first|refine za ?_|refine zb ?_|refine zc ?_)|refine ym zr ?_|refine yn 0 zr ?_|refine yn 1 zr ?_|refine yn 2 zr ?_|refine yn 3 zr ?_|(refine yo zr ?_;intro _)|(refine yp zr ?_;intro _)|refine yq zr ?_|refine ys zr ?_|refine yu zr ?_|refine yv zr ?_|(with_reducible first|refine zd ?_|refine ze ?_|refine zf ?_|refine zg ?_|refine zh ?_|refine zi ?_|refine zj ?_|refine zk ?_|refine zl ?_)|refine zz zr ?_|refine zw (by decide +kernel) ?_|refine zx zr zr zr ?_|refine zy zr zr ?_|refine W.condT zr ?_|refine W.condF zr ?_
  refine W.know fun hva hnd=>?_
  have hst:=sameT_c (g:=G21) rfl rfl (CpT.ok (CpT.mono hcp (fun z hz=>by simp [hz])) ht hnd) (Table.okM (withV_le hva) ht) hcp.same
  clear hva hnd
  repeat first|refine W.callLP rfl rfl rfl rfl hst ?_|(refine W.gs rfl rfl rfl rfl (fun h=>absurd rfl h) ?_;intro _)|refine W.condF rfl ?_|(with_reducible first|refine za ?_|refine zb ?_|refine zc ?_)|refine ym zr ?_|refine yn 0 zr ?_|refine yn 1 zr ?_|refine yn 2 zr ?_|refine yn 3 zr ?_|(refine yo zr ?_;intro _)|(refine yp zr ?_;intro _)|refine yq zr ?_|refine ys zr ?_|refine yu zr ?_|refine yv zr ?_|(with_reducible first|refine zd ?_|refine ze ?_|refine zf ?_|refine zg ?_|refine zh ?_|refine zi ?_|refine zj ?_|refine zk ?_|refine zl ?_)|refine zz zr ?_|refine zw (by decide +kernel) ?_|refine zx zr zr zr ?_|refine zy zr zr ?_|refine W.condT zr ?_|refine W.condF zr ?_
  clear hst
  have hsz:=(check_small hck).2.2
  have hcz:=(check_code hck).1
  have hcl:c.regs.l.length=t.regs.l.length:=by rw [hcp.regs.1]
  have hcc:c.code.l.length≤4096:=by rw [hcp.code.1];exact hcz
  obtain ⟨cD,Y,hcD,hY⟩:=part_two hixm hcp.code.2
  have hct:=hcT.trans hcp.same
  generalize hF:(evB k T jr km (ev0 t w)::dvB kx t jr' jo kn (ev0 t w)::(gD iC 2 1 jr t.regs.l++(gD iC 2 1 jr' t.regs.l++(knD jo kn++(D++(R1++R2))))))=F
  refine W.dropE ((ic,.cells [.str c.name,c.regs.v,.int .i64 c.slots,c.consts.v,c.code.v,c.states.v] 26 6 true)::((Δ'++(evB k T jr km (ev0 t w)::(km,.mp [] 0)::(gD iC 2 1 jr t.regs.l++(D++R1))))++(dvB kx t jr' jo kn (ev0 t w)::(gD iC 2 1 jr' t.regs.l++(knD jo kn++R2))))) (.cons_cons _ (.cons _ (.cons _ (List.Sublist.refl _)))) ?_
  refine W.perm ((ic,.cells [.str c.name,c.regs.v,.int .i64 c.slots,c.consts.v,c.code.v,c.states.v] 26 6 true)::(gD iC 2 1 ix t.regs.l++(cD c.code.l++(Y++((km,.mp [] 0)::F))))) (.cons _ ?_) ?_
  · refine List.Perm.trans ?_ ((hY.symm.append_right _).append_right _)
    rw [←hF]
    exact permC fun _ a=>by simp only [consS,List.count_append,List.count_nil];omega
  generalize hE:((km,Bk.mp [] 0)::F)=E
  refine W.loopR (α:={ q:Nat×List Int // q.1≤t.regs.l.length∧q.2.length=t.regs.l.length }) (fun q=>t.regs.l.length-q.1.1) (fun q=>[(7,.ptr (some (ic,0))),(8,.ptr (some (k,0))),(10,.ptr (some (kx,0))),(13,.int .i64 (q.1.1:Int))])
    (fun q=>(ic,.cells [.str c.name,c.regs.v,.int .i64 c.slots,c.consts.v,c.code.v,c.states.v] 26 6 true)::(gD iC 2 1 ix q.1.2++(cD c.code.l++(Y++E)))) ⟨(0,t.regs.l),Nat.zero_le _,rfl⟩ ⟨rfl,rfl,rfl,rfl⟩ (List.Sublist.refl _) ?_
  rintro ⟨⟨i,ms⟩,hi,hms⟩ ih
  simp only at ih hi hms ⊢
  by_cases hlt:i<t.regs.l.length
  · have hnext:=ih ⟨(i+1,ms.set i (-99)),hlt,by show (ms.set _ _).length=_;rw [List.length_set];exact hms⟩ (by show t.regs.l.length-(i+1)<t.regs.l.length-i;omega)
    clear ih
    have hpos:0<ms.length:=by omega
    have hi0:(0:Int)≤(i:Int):=by omega
    have hi1:(i:Int)<(c.regs.l.length:Int):=by omega
    have hca:c.regs.a=some (ix,0):=by rw [hix];exact gS_pos (by omega)
    have hset:=set_enc (enc:=iC) (sz:=1) (fun _=>rfl) (l:=ms) (n:=i) (by omega) (-99)
    have ewi:IntKind.i64.wrap ((i:Int)+1)=((i+1:Nat):Int):=by rw [w64 (by omega) (by omega)];omega
    simp only [gD_pos (l:=ms.set i (-99)) (by rw [List.length_set];exact hpos),List.singleton_append] at hnext
    rw [gD_pos hpos,List.singleton_append]
    repeat first|(with_reducible first|refine za ?_|refine zb ?_|refine zc ?_)|refine ym zr ?_|refine yn 0 zr ?_|refine yn 1 zr ?_|refine yn 2 zr ?_|refine yn 3 zr ?_|(refine yo zr ?_;intro _)|(refine yp zr ?_;intro _)|refine yq zr ?_|refine ys zr ?_|refine yu zr ?_|refine yv zr ?_|(with_reducible first|refine zd ?_|refine ze ?_|refine zf ?_|refine zg ?_|refine zh ?_|refine zi ?_|refine zj ?_|refine zk ?_|refine zl ?_)|refine zz zr ?_|refine zw (by decide +kernel) ?_|refine zx zr zr zr ?_|refine zy zr zr ?_|refine W.condT zr ?_|refine W.condF zr ?_
    refine W.condP rfl (fun _=>?_) (fun h=>absurd hi1 h)
    repeat first|refine W.ia tblOk rfl rfl rfl rfl rfl rfl hca hi0 hi1 ?_|(refine W.fr1 ?_;refine W.stF tblOk rfl rfl rfl rfl rfl rfl rfl hset ?_)|(with_reducible first|refine za ?_|refine zb ?_|refine zc ?_)|refine ym zr ?_|refine yn 0 zr ?_|refine yn 1 zr ?_|refine yn 2 zr ?_|refine yn 3 zr ?_|(refine yo zr ?_;intro _)|(refine yp zr ?_;intro _)|refine yq zr ?_|refine ys zr ?_|refine yu zr ?_|refine yv zr ?_|(with_reducible first|refine zd ?_|refine ze ?_|refine zf ?_|refine zg ?_|refine zh ?_|refine zi ?_|refine zj ?_|refine zk ?_|refine zl ?_)|refine zz zr ?_|refine zw (by decide +kernel) ?_|refine zx zr zr zr ?_|refine zy zr zr ?_|refine W.condT zr ?_|refine W.condF zr ?_
    rw [ewi]
    refine W.fr1 ?_
    exact W.wk hnext ⟨rfl,rfl,rfl,rfl⟩ (List.Sublist.refl _)
  clear ih
  repeat first|(with_reducible first|refine za ?_|refine zb ?_|refine zc ?_)|refine ym zr ?_|refine yn 0 zr ?_|refine yn 1 zr ?_|refine yn 2 zr ?_|refine yn 3 zr ?_|(refine yo zr ?_;intro _)|(refine yp zr ?_;intro _)|refine yq zr ?_|refine ys zr ?_|refine yu zr ?_|refine yv zr ?_|(with_reducible first|refine zd ?_|refine ze ?_|refine zf ?_|refine zg ?_|refine zh ?_|refine zi ?_|refine zj ?_|refine zk ?_|refine zl ?_)|refine zz zr ?_|refine zw (by decide +kernel) ?_|refine zx zr zr zr ?_|refine zy zr zr ?_|refine W.condT zr ?_|refine W.condF zr ?_
  refine W.condP rfl (fun h=>absurd h (by omega)) (fun _=>?_)
  repeat first|(with_reducible first|refine za ?_|refine zb ?_|refine zc ?_)|refine ym zr ?_|refine yn 0 zr ?_|refine yn 1 zr ?_|refine yn 2 zr ?_|refine yn 3 zr ?_|(refine yo zr ?_;intro _)|(refine yp zr ?_;intro _)|refine yq zr ?_|refine ys zr ?_|refine yu zr ?_|refine yv zr ?_|(with_reducible first|refine zd ?_|refine ze ?_|refine zf ?_|refine zg ?_|refine zh ?_|refine zi ?_|refine zj ?_|refine zk ?_|refine zl ?_)|refine zz zr ?_|refine zw (by decide +kernel) ?_|refine zx zr zr zr ?_|refine zy zr zr ?_|refine W.condT zr ?_|refine W.condF zr ?_
  refine W.loopR (α:={ q:Nat×List Instr // q.1≤c.code.l.length∧q.2.length=c.code.l.length }) (fun q=>c.code.l.length-q.1.1) (fun q=>[(7,.ptr (some (ic,0))),(8,.ptr (some (k,0))),(10,.ptr (some (kx,0))),(14,.int .i64 (q.1.1:Int))])
    (fun q=>(ic,.cells [.str c.name,c.regs.v,.int .i64 c.slots,c.consts.v,c.code.v,c.states.v] 26 6 true)::(cD q.1.2++(Y++E))) ⟨(0,c.code.l),Nat.zero_le _,rfl⟩ ⟨rfl,rfl,rfl,rfl⟩ (.cons_cons _ (List.sublist_append_right _ _)) ?_
  rintro ⟨⟨m,xs⟩,hm,hxs⟩ ih
  simp only at ih hm hxs ⊢
  by_cases hlm:m<c.code.l.length
  · have hnext:=ih ⟨(m+1,xs.set m ⟨0,0⟩),hlm,by show (xs.set _ _).length=_;rw [List.length_set];exact hxs⟩ (by show c.code.l.length-(m+1)<c.code.l.length-m;omega)
    clear ih
    obtain ⟨j,f,hja,hcDe⟩:=hcD (by omega)
    have hm0:(0:Int)≤(m:Int):=by omega
    have hm1:(m:Int)<(c.code.l.length:Int):=by omega
    have hset:=set_enc (enc:=Instr.cs) (sz:=2) (fun _=>rfl) (l:=xs) (n:=m) (by omega) ⟨0,0⟩
    have ewm:IntKind.i64.wrap ((m:Int)+1)=((m+1:Nat):Int):=by rw [w64 (by omega) (by omega)];omega
    simp only [hcDe,List.singleton_append] at hnext
    rw [hcDe,List.singleton_append]
    repeat first|(with_reducible first|refine za ?_|refine zb ?_|refine zc ?_)|refine ym zr ?_|refine yn 0 zr ?_|refine yn 1 zr ?_|refine yn 2 zr ?_|refine yn 3 zr ?_|(refine yo zr ?_;intro _)|(refine yp zr ?_;intro _)|refine yq zr ?_|refine ys zr ?_|refine yu zr ?_|refine yv zr ?_|(with_reducible first|refine zd ?_|refine ze ?_|refine zf ?_|refine zg ?_|refine zh ?_|refine zi ?_|refine zj ?_|refine zk ?_|refine zl ?_)|refine zz zr ?_|refine zw (by decide +kernel) ?_|refine zx zr zr zr ?_|refine zy zr zr ?_|refine W.condT zr ?_|refine W.condF zr ?_
    refine W.condP rfl (fun _=>?_) (fun h=>absurd hm1 h)
    repeat first|refine W.ia tblOk rfl rfl rfl rfl rfl rfl hja hm0 hm1 ?_|(refine W.fr1 ?_;refine W.stF tblOk rfl rfl rfl rfl rfl rfl rfl hset ?_)|(with_reducible first|refine za ?_|refine zb ?_|refine zc ?_)|refine ym zr ?_|refine yn 0 zr ?_|refine yn 1 zr ?_|refine yn 2 zr ?_|refine yn 3 zr ?_|(refine yo zr ?_;intro _)|(refine yp zr ?_;intro _)|refine yq zr ?_|refine ys zr ?_|refine yu zr ?_|refine yv zr ?_|(with_reducible first|refine zd ?_|refine ze ?_|refine zf ?_|refine zg ?_|refine zh ?_|refine zi ?_|refine zj ?_|refine zk ?_|refine zl ?_)|refine zz zr ?_|refine zw (by decide +kernel) ?_|refine zx zr zr zr ?_|refine zy zr zr ?_|refine W.condT zr ?_|refine W.condF zr ?_
    rw [ewm]
    refine W.fr1 ?_
    exact W.wk hnext ⟨rfl,rfl,rfl,rfl⟩ (List.Sublist.refl _)
  clear ih
  repeat first|(with_reducible first|refine za ?_|refine zb ?_|refine zc ?_)|refine ym zr ?_|refine yn 0 zr ?_|refine yn 1 zr ?_|refine yn 2 zr ?_|refine yn 3 zr ?_|(refine yo zr ?_;intro _)|(refine yp zr ?_;intro _)|refine yq zr ?_|refine ys zr ?_|refine yu zr ?_|refine yv zr ?_|(with_reducible first|refine zd ?_|refine ze ?_|refine zf ?_|refine zg ?_|refine zh ?_|refine zi ?_|refine zj ?_|refine zk ?_|refine zl ?_)|refine zz zr ?_|refine zw (by decide +kernel) ?_|refine zx zr zr zr ?_|refine zy zr zr ?_|refine W.condT zr ?_|refine W.condF zr ?_
  refine W.condP rfl (fun h=>absurd h (by omega)) (fun _=>?_)
  repeat first|(with_reducible first|refine za ?_|refine zb ?_|refine zc ?_)|refine ym zr ?_|refine yn 0 zr ?_|refine yn 1 zr ?_|refine yn 2 zr ?_|refine yn 3 zr ?_|(refine yo zr ?_;intro _)|(refine yp zr ?_;intro _)|refine yq zr ?_|refine ys zr ?_|refine yu zr ?_|refine yv zr ?_|(with_reducible first|refine zd ?_|refine ze ?_|refine zf ?_|refine zg ?_|refine zh ?_|refine zi ?_|refine zj ?_|refine zk ?_|refine zl ?_)|refine zz zr ?_|refine zw (by decide +kernel) ?_|refine zx zr zr zr ?_|refine zy zr zr ?_|refine W.condT zr ?_|refine W.condF zr ?_
  refine W.dropE E (.cons _ ((List.sublist_append_right Y E).trans (List.sublist_append_right _ _))) ?_
  clear hY hcD
  subst hE
  have fk:evB k T jr km (ev0 t w)∈F:=by rw [←hF];simp
  have fkx:dvB kx t jr' jo kn (ev0 t w)∈F:=by rw [←hF];simp
  have fr:∀z∈gD iC 2 1 jr t.regs.l,z∈F:=fun z hz=>by rw [←hF];simp [hz]
  have fr':∀z∈gD iC 2 1 jr' t.regs.l,z∈F:=fun z hz=>by rw [←hF];simp [hz]
  have fkn:∀z∈knD jo kn,z∈F:=fun z hz=>by rw [←hF];simp [hz]
  have fD:∀z∈D,z∈F:=fun z hz=>by rw [←hF];simp [hz]
  refine W.know fun hva hnd=>?_
  have hl:=looks_at (L:=[]) (c:=0) ht hck (fun i hi=>hva i (List.mem_cons_of_mem _ hi)) (List.nodup_cons.1 hnd).2 hct fD fk fr fkx fr' fkn (by show t.regs.l.length≤_;omega) hkn
  clear hva hnd
  refine W.callK rfl rfl rfl rfl hl ?_
  clear hl
  repeat first|(refine W.bsl tblOk rfl rfl rfl rfl (by decide) rfl rfl rfl ?_;intro i9)|(with_reducible first|refine za ?_|refine zb ?_|refine zc ?_)|refine ym zr ?_|refine yn 0 zr ?_|refine yn 1 zr ?_|refine yn 2 zr ?_|refine yn 3 zr ?_|(refine yo zr ?_;intro _)|(refine yp zr ?_;intro _)|refine yq zr ?_|refine ys zr ?_|refine yu zr ?_|refine yv zr ?_|(with_reducible first|refine zd ?_|refine ze ?_|refine zf ?_|refine zg ?_|refine zh ?_|refine zi ?_|refine zj ?_|refine zk ?_|refine zl ?_)|refine zz zr ?_|refine zw (by decide +kernel) ?_|refine zx zr zr zr ?_|refine zy zr zr ?_|refine W.condT zr ?_|refine W.condF zr ?_
  refine W.know fun hva hnd=>?_
  have h1:=evTurn0_c (g:=G21) (V:=withV V _) rfl (k:=k) (jr:=jr) (km:=km) (T:=T) (e:=ev0 t w) (withV_at (V:=V) hnd (show evB k T jr km (ev0 t w)∈_ by simp [fk])) (by show ¬(0:Int)=1;decide)
  clear hva hnd
  refine W.callLP rfl rfl rfl rfl (h1 _ _) ?_
  clear h1
  repeat first|(refine W.bsl tblOk rfl rfl rfl rfl (by decide) rfl rfl rfl ?_;intro i9')|(with_reducible first|refine za ?_|refine zb ?_|refine zc ?_)|refine ym zr ?_|refine yn 0 zr ?_|refine yn 1 zr ?_|refine yn 2 zr ?_|refine yn 3 zr ?_|(refine yo zr ?_;intro _)|(refine yp zr ?_;intro _)|refine yq zr ?_|refine ys zr ?_|refine yu zr ?_|refine yv zr ?_|(with_reducible first|refine zd ?_|refine ze ?_|refine zf ?_|refine zg ?_|refine zh ?_|refine zi ?_|refine zj ?_|refine zk ?_|refine zl ?_)|refine zz zr ?_|refine zw (by decide +kernel) ?_|refine zx zr zr zr ?_|refine zy zr zr ?_|refine W.condT zr ?_|refine W.condF zr ?_
  refine W.know fun hva hnd=>?_
  have h1:=dvTurn0_c (g:=G21) (V:=withV V _) rfl (k:=kx) (jr:=jr') (jo:=jo) (kn:=kn) (t:=t) (e:=ev0 t w) (withV_at (V:=V) hnd (show dvB kx t jr' jo kn (ev0 t w)∈_ by simp [fkx])) (by show ¬(0:Int)=1;decide)
  clear hva hnd
  refine W.callLP rfl rfl rfl rfl (h1 _ _) ?_
  clear h1
  have hsf:=sameFiring_c (g:=G21) (V:=V) rfl (a:=⟨none,.ex 0,[]⟩) (b:=⟨none,.ex 0,[]⟩) (fun i x hx=>by simp at hx) (fun i x hx=>by simp at hx) rfl (Nat.zero_le _) ⟨-1,false,[],0,0,0,0,[]⟩ true
  repeat first|refine W.callP rfl rfl rfl rfl hsf ?_|(with_reducible first|refine za ?_|refine zb ?_|refine zc ?_)|refine ym zr ?_|refine yn 0 zr ?_|refine yn 1 zr ?_|refine yn 2 zr ?_|refine yn 3 zr ?_|(refine yo zr ?_;intro _)|(refine yp zr ?_;intro _)|refine yq zr ?_|refine ys zr ?_|refine yu zr ?_|refine yv zr ?_|(with_reducible first|refine zd ?_|refine ze ?_|refine zf ?_|refine zg ?_|refine zh ?_|refine zi ?_|refine zj ?_|refine zk ?_|refine zl ?_)|refine zz zr ?_|refine zw (by decide +kernel) ?_|refine zx zr zr zr ?_|refine zy zr zr ?_|refine W.condT zr ?_|refine W.condF zr ?_
  clear fk fkx fr fr' fkn fD hsf
  subst hF
  refine W.dropE ((km,.mp [] 0)::evB k T jr km (ev0 t w)::dvB kx t jr' jo kn (ev0 t w)::(gD iC 2 1 jr t.regs.l++(gD iC 2 1 jr' t.regs.l++(knD jo kn++(D++(R1++R2)))))) (.cons _ (.cons _ (.cons _ (.cons _ (List.Sublist.refl _))))) ?_
  refine W.fr1 ?_
  refine W.know fun hva hnd=>?_
  have hnd2:=(List.nodup_cons.1 (List.nodup_cons.1 hnd).2).2
  have hT:=CpT.ok (V:=V) (CpT.mono hct (fun z hz=>by simp [hz])) ht hnd2
  have hs1:=evStart_c (g:=G21) (k:=k) (jr:=jr) (km:=km) rfl rfl hT.regs.2.1 (by rw [hct.regs.1];omega) (ev0 t w) [] 0
  clear hva hnd hnd2 hT
  refine W.callHe (Δ:=[_,_]) (R:=_::_) rfl rfl rfl rfl hs1 (by rintro v Δ_ ⟨h,-⟩;cases h) ?_
  rintro v_ Δ_ ⟨h1_,jr2,R3,hpm⟩
  injection h1_ with h1_;subst h1_
  clear hs1
  have he1:evR T (ev0 t w)=evR t (ev0 t w):=by unfold evR;rw [hct.regs.1]
  rw [hct.regs.1,he1] at hpm
  refine W.perm _ (hpm.symm.append_right _) ?_
  clear hpm he1
  refine W.perm ([dvB kx t jr' jo kn (ev0 t w)]++(evB k T jr2 km (evR t (ev0 t w))::(km,.mp [] 0)::(gD iC 2 1 jr2 t.regs.l++(R3++(gD iC 2 1 jr t.regs.l++(gD iC 2 1 jr' t.regs.l++(knD jo kn++(D++(R1++R2))))))))) (permC fun _ a=>by simp only [consS,List.count_append,List.count_nil];omega) ?_
  have hs2:=dvStart_c (g:=G21) (V:=V) (k:=kx) (jr:=jr') (jo:=jo) (kn:=kn) rfl rfl rfl ht (by omega) (check_small hck).1 (check_small hck).2.1 (ev0 t w)
  repeat first|(with_reducible first|refine za ?_|refine zb ?_|refine zc ?_)|refine ym zr ?_|refine yn 0 zr ?_|refine yn 1 zr ?_|refine yn 2 zr ?_|refine yn 3 zr ?_|(refine yo zr ?_;intro _)|(refine yp zr ?_;intro _)|refine yq zr ?_|refine ys zr ?_|refine yu zr ?_|refine yv zr ?_|(with_reducible first|refine zd ?_|refine ze ?_|refine zf ?_|refine zg ?_|refine zh ?_|refine zi ?_|refine zj ?_|refine zk ?_|refine zl ?_)|refine zz zr ?_|refine zw (by decide +kernel) ?_|refine zx zr zr zr ?_|refine zy zr zr ?_|refine W.condT zr ?_|refine W.condF zr ?_
  refine W.callR rfl rfl rfl rfl hs2 (by rintro v Δ_ ⟨h,-⟩;cases h) ?_
  rintro v_ Δ_ ⟨h1_,jr3,jo3,kn3,R4,hkn3,hpm⟩
  injection h1_ with h1_;subst h1_
  refine W.perm _ (hpm.symm.append_right _) ?_
  clear hpm hs2
  generalize hF:(evB k T jr2 km (evR t (ev0 t w))::dvB kx t jr3 jo3 kn3 (evR t (ev0 t w))::(gD iC 2 1 jr2 t.regs.l++(gD iC 2 1 jr3 t.regs.l++(knD jo3 kn3++(D++(R4++(R3++(gD iC 2 1 jr t.regs.l++(gD iC 2 1 jr' t.regs.l++(knD jo kn++(R1++R2)))))))))))=F
  refine W.perm ((km,.mp [] 0)::F) (by rw [←hF];exact permC fun _ a=>by simp only [consS,List.count_append,List.count_nil];omega) ?_
  have fk:evB k T jr2 km (evR t (ev0 t w))∈F:=by rw [←hF];simp
  have fkx:dvB kx t jr3 jo3 kn3 (evR t (ev0 t w))∈F:=by rw [←hF];simp
  have fr:∀z∈gD iC 2 1 jr2 t.regs.l,z∈F:=fun z hz=>by rw [←hF];simp [hz]
  have fr':∀z∈gD iC 2 1 jr3 t.regs.l,z∈F:=fun z hz=>by rw [←hF];simp [hz]
  have fkn:∀z∈knD jo3 kn3,z∈F:=fun z hz=>by rw [←hF];simp [hz]
  have fD:∀z∈D,z∈F:=fun z hz=>by rw [←hF];simp [hz]
  repeat first|(with_reducible first|refine za ?_|refine zb ?_|refine zc ?_)|refine ym zr ?_|refine yn 0 zr ?_|refine yn 1 zr ?_|refine yn 2 zr ?_|refine yn 3 zr ?_|(refine yo zr ?_;intro _)|(refine yp zr ?_;intro _)|refine yq zr ?_|refine ys zr ?_|refine yu zr ?_|refine yv zr ?_|(with_reducible first|refine zd ?_|refine ze ?_|refine zf ?_|refine zg ?_|refine zh ?_|refine zi ?_|refine zj ?_|refine zk ?_|refine zl ?_)|refine zz zr ?_|refine zw (by decide +kernel) ?_|refine zx zr zr zr ?_|refine zy zr zr ?_|refine W.condT zr ?_|refine W.condF zr ?_
  refine W.know fun hva hnd=>?_
  have hl:=looks_at (L:=[]) (c:=0) ht hck (fun i hi=>hva i (List.mem_cons_of_mem _ hi)) (List.nodup_cons.1 hnd).2 hct fD fk fr fkx fr' fkn (by show t.regs.l.length≤_;omega) hkn3
  clear hva hnd
  refine W.callK rfl rfl rfl rfl hl ?_
  clear hl
  repeat' first|(with_reducible first|refine za ?_|refine zb ?_|refine zc ?_)|refine ym zr ?_|refine yn 0 zr ?_|refine yn 1 zr ?_|refine yn 2 zr ?_|refine yn 3 zr ?_|(refine yo zr ?_;intro _)|(refine yp zr ?_;intro _)|refine yq zr ?_|refine ys zr ?_|refine yu zr ?_|refine yv zr ?_|(with_reducible first|refine zd ?_|refine ze ?_|refine zf ?_|refine zg ?_|refine zh ?_|refine zi ?_|refine zj ?_|refine zk ?_|refine zl ?_)|refine zz zr ?_|refine zw (by decide +kernel) ?_|refine zx zr zr zr ?_|refine zy zr zr ?_|(refine W.condP zr ?_ ?_<;>intro _)|refine W.condT zr ?_|refine W.condF zr ?_|(refine W.cond zr ?_ ?_<;>intro _)|(refine W.gs zr zr zr zr ?_ ?_<;>intro _)|(refine W.gsB zr zr zr zr ?_ ?_<;>intro _)|refine W.done zr ?_|refine W.doneN zr ?_
  rfl
end Go.Proofs.YtoegffiapnnkiaaGreat.Abs
