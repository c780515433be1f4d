/- Parts of one proof. No condition but those that each theorem names. -/
import Derived.Test.YtoegffiapnnkiaaGreatPE21
namespace Go.Proofs.YtoegffiapnnkiaaGreat.Abs
open Go
set_option linter.unusedVariables false
set_option linter.unusedSimpArgs false
set_option maxRecDepth 100000
set_option maxHeartbeats 4000000
attribute [local irreducible] W Cl Bd
variable {g:Cg} {V:K→Option (List AV)}
theorem spanS_ne {t:Table} {f z:Int}:(spanS t f z).getD 0=0→spanS t f z=none:=fun h=>by
  unfold spanS at h ⊢
  (repeat' split)<;>simp_all
theorem spansErr_ne {t:Table}:∀(l:List Span),(spansErr t l).getD 0=0→spansErr t l=none
  | [],_=>rfl
  | x::l,h=>by
    have h1:=spanS_ne (t:=t) (f:=x.f) (z:=x.t)
    simp only [spansErr] at h ⊢
    cases hs:spanS t x.f x.t with
    | none=>rw [hs,Option.none_or] at h;rw [Option.none_or];exact spansErr_ne l h
    | some c=>rw [hs] at h h1;exact absurd (h1 h) (by simp)
theorem masks_eq {t:Table} {x:Span} (h0:0≤x.f) (h2:x.t≤t.code.l.length):masksS t x=readsS (codeAt t) (x.t-x.f).toNat x.f 0 0:=by
  unfold masksS
  rw [show min x.t (t.code.l.length:Int)=x.t by omega,show max x.f 0=x.f by omega]
theorem checkR_c (hp:Plain g 29=true) (hr:Plain g 84=true) {t:Table} (ht:t.Ok V)
    (hformed:Cl Tryz.prog g V 82 [t.v] [] fun o _=>o=.ret (.bool (decide (Formed t))))
    (hspan:t.code.l.length≤4096→∀f z:Int,0≤f→f<z→z≤t.code.l.length→Cl Tryz.prog g V 83 [t.v,.agg [.int .i64 f,.int .i64 z]] [] fun o _=>o=.ret (.int .i64 ((spanS t f z).getD 0)))
    (hrows:t.code.l.length≤4096→∀x:Row,(∀y∈x.spans,0≤y.f∧y.f<y.t∧y.t≤t.code.l.length)→Cl Tryz.prog g V 85 [t.v,x.v] [] fun o _=>o=.ret (.int .i64 ((spansErr t x.spans).getD 0))) :
    Cl Tryz.prog g V 29 [t.v] [] fun o _=>o=.ret (.int .i64 ((checkS t).getD 0)):=by
  refine Cl.enter hp Tryz.func29 rfl ?_
  repeat' first|refine W.callP rfl rfl rfl rfl hformed ?_|(with_reducible first|refine za ?_|refine zb ?_|refine zc ?_)|refine ym zr ?_|refine yn 0 zr ?_|(refine yo zr ?_;intro _)|(with_reducible first|refine zd ?_|refine ze ?_|refine zj ?_|refine zk ?_)|(refine W.cond zr ?_ ?_<;>intro _)|refine W.done zr ?_
  · rename_i hq
    have hF:¬Formed t:=by simpa using hq
    rw [show checkS t=some 190 by unfold checkS;rw [if_neg hF]];rfl
  rename_i hq
  have hF:Formed t:=by simpa using hq
  have hE:checkS t=statesErr t t.states.l:=by unfold checkS;rw [if_pos hF]
  rw [hE]
  generalize hR:statesErr t t.states.l=R
  have hin:=hF.in
  have hc4:t.code.l.length≤4096:=hF.1.2.2.2.2.2.1
  have hspan:=hspan hc4
  have hrows:=hrows hc4
  have hlen:=ht.states.1
  unfold Len at hlen
  refine W.loopR (α:={ i:Nat // i≤t.states.l.length∧R=statesErr t (t.states.l.drop i) }) (fun i=>t.states.l.length-i.1) (fun i=>[(1,_),(4,.int .i64 (i.1:Int))]) (fun _=>_) ⟨0,by omega,hR.symm⟩ ⟨rfl,rfl⟩ (List.Sublist.refl _) ?_
  rintro ⟨i,hi1,hi2⟩ ih
  simp only at ih hi1 hi2 ⊢
  repeat first|(with_reducible first|refine za ?_|refine zb ?_|refine zc ?_)|refine ym zr ?_|refine yn 0 zr ?_
  refine W.condP rfl ?_ ?_<;>intro hlt
  rotate_left
  · clear ih
    rw [List.drop_eq_nil_of_le (by omega),statesErr] at hi2
    repeat' first|(with_reducible first|refine za ?_|refine zb ?_|refine zc ?_)|refine ym zr ?_|(with_reducible first|refine zg ?_|refine zh ?_|refine zi ?_|refine zj ?_)|refine W.done zr ?_
    rw [hi2];rfl
  have hlt:i<t.states.l.length:=by omega
  obtain ⟨jn,o,cs,ha,hV,hpt⟩:=Sl.In.get ht.states.2.1 hlt
  have hl:=ht.states.2.2 _ (List.getElem_mem hlt)
  have hin1:=hin _ (List.getElem_mem hlt)
  rw [List.drop_eq_getElem_cons hlt,statesErr] at hi2
  generalize t.states.l[i]=l at hpt hl hi2 hin1
  have hll:=hl.1
  unfold Len at hll
  repeat first|(with_reducible first|refine za ?_|refine zb ?_|refine zc ?_)|refine ym zr ?_|(with_reducible first|refine zd ?_|refine ze ?_)
  refine W.loopR (α:={ k:Nat // k≤l.l.length∧R=(guardsErr t (l.l.drop k)).or (statesErr t (t.states.l.drop (i+1))) }) (fun k=>l.l.length-k.1) (fun k=>[(1,_),(4,.int .i64 (i:Int)),(5,.int .i64 (k.1:Int))]) (fun _=>_) ⟨0,by omega,hi2⟩ ⟨rfl,rfl,rfl⟩ (List.Sublist.refl _) ?_
  clear hi2
  rintro ⟨k,hk1,hk2⟩ ih2
  simp only at ih2 hk1 hk2 ⊢
  repeat first|refine W.ia tblOk rfl rfl rfl rfl rfl rfl ha (by omega) (by omega) ?_|refine W.ldV tblOk rfl rfl rfl hV hpt ?_|(with_reducible first|refine za ?_|refine zb ?_|refine zc ?_)|refine ym zr ?_|refine yn 0 zr ?_
  refine W.condP rfl ?_ ?_<;>intro hlt2
  rotate_left
  · clear ih2
    rw [List.drop_eq_nil_of_le (by omega),guardsErr,Option.none_or] at hk2
    repeat first|(with_reducible first|refine zb ?_|refine zc ?_)|refine ym zr ?_|(with_reducible first|refine zf ?_|refine zg ?_|refine zh ?_|refine zi ?_)
    rw [wN (by omega)]
    have h9:=ih ⟨i+1,by omega,hk2⟩ (by show t.states.l.length-(i+1)<t.states.l.length-i;omega)
    refine W.weak _ _ ?_ ?_ h9
    · exact ⟨rfl,rfl⟩
    · exact List.Sublist.refl _
  have hlt2:k<l.l.length:=by omega
  obtain ⟨jn2,o2,cs2,ha2,hV2,hpt2⟩:=Sl.In.get hl.2.1 hlt2
  have hg:=hl.2.2 _ (List.getElem_mem hlt2)
  have hin2:=hin1 _ (List.getElem_mem hlt2)
  rw [List.drop_eq_getElem_cons hlt2,guardsErr,guardErr] at hk2
  generalize l.l[k]=x at hpt2 hg hk2 hin2
  have hx:=hg.2.2.2.1
  unfold Len at hx
  obtain ⟨hw0,hrowsin⟩:=hin2
  have hcs:=hspan x.when.f x.when.t (by omega) (by omega) (by omega)
  have hsne:=spanS_ne (t:=t) (f:=x.when.f) (z:=x.when.t)
  repeat' first|refine W.ia tblOk rfl rfl rfl rfl rfl rfl ha (by omega) (by omega) ?_|refine W.ldV tblOk rfl rfl rfl hV hpt ?_|refine W.ia tblOk rfl rfl rfl rfl rfl rfl ha2 (by omega) (by omega) ?_|refine W.ldV tblOk rfl rfl rfl hV2 hpt2 ?_|refine W.callP rfl rfl rfl rfl hcs ?_|refine W.callP rfl rfl rfl rfl (readsR_c (t:=t) hr ht (f:=x.when.f) (z:=x.when.t) (by omega) (by omega) (by omega) (by omega)) ?_|(with_reducible first|refine za ?_|refine zb ?_|refine zc ?_)|refine ym zr ?_|refine yn 0 zr ?_|refine yn 1 zr ?_|(refine yp zr ?_;intro _)|refine yq zr ?_|(with_reducible first|refine zd ?_|refine ze ?_|refine zj ?_|refine zk ?_|refine zl ?_)|refine zx zr zr zr ?_|(refine W.condP zr ?_ ?_<;>intro _)|refine W.condT zr ?_|(refine W.gs zr zr zr zr ?_ ?_<;>intro _)|refine W.done zr ?_
  · rename_i hq
    cases hs:spanS t x.when.f x.when.t with
    | none=>rw [hs] at hq;exact absurd rfl hq
    | some c=>rw [hk2,hs];rfl
  all_goals have hs0:spanS t x.when.f x.when.t=none:=hsne (by first|exact Classical.not_not.1 ‹¬¬(spanS t x.when.f x.when.t).getD 0=0›|assumption)
  all_goals rw [hs0,Option.none_or] at hk2
  all_goals have hmr:=masks_eq (t:=t) (x:=x.when) (by omega) (by omega)
  · have hm:maskErr t x=some 193:=by unfold maskErr;rw [hmr,if_neg (fun q=>(‹¬_=x.fields›) q.1)]
    rw [hk2,hm];rfl
  · have hm:maskErr t x=some 193:=by unfold maskErr;rw [hmr,if_neg (fun q=>(‹¬_=x.regs›) q.2)]
    rw [hk2,hm];rfl
  have hm:maskErr t x=none:=by unfold maskErr;rw [hmr,if_pos ⟨Classical.not_not.1 ‹¬¬_=x.fields›,Classical.not_not.1 ‹¬¬_=x.regs›⟩]
  rw [hm,Option.none_or] at hk2
  refine W.loopR (α:={ j:Nat // j≤x.rows.l.length∧R=((rowsErr t (x.rows.l.drop j)).or (guardsErr t (l.l.drop (k+1)))).or (statesErr t (t.states.l.drop (i+1))) }) (fun j=>x.rows.l.length-j.1) (fun j=>[(1,_),(4,.int .i64 (i:Int)),(5,.int .i64 (k:Int)),(6,_),(10,.int .i64 (j.1:Int))]) (fun _=>_) ⟨0,by omega,hk2⟩ ⟨rfl,rfl,rfl,rfl,rfl⟩ (List.Sublist.refl _) ?_
  clear hk2
  rintro ⟨j,hj1,hj2⟩ ih3
  simp only at ih3 hj1 hj2 ⊢
  repeat first|(with_reducible first|refine za ?_|refine zb ?_|refine zc ?_)|refine ym zr ?_|refine yn 0 zr ?_
  refine W.condP rfl ?_ ?_<;>intro hlt3
  rotate_left
  · clear ih3
    rw [List.drop_eq_nil_of_le (by omega),rowsErr,Option.none_or] at hj2
    repeat first|(with_reducible first|refine zb ?_|refine zc ?_)|refine ym zr ?_|(with_reducible first|refine zf ?_|refine zg ?_|refine zh ?_|refine zi ?_)
    rw [wN (by omega)]
    have h9:=ih2 ⟨k+1,by omega,hj2⟩ (by show l.l.length-(k+1)<l.l.length-k;omega)
    refine W.weak _ _ ?_ ?_ h9
    · exact ⟨rfl,rfl,rfl⟩
    · first|exact List.Sublist.refl _|exact .cons _ (List.Sublist.refl _)
  have hlt3:j<x.rows.l.length:=by omega
  obtain ⟨jn3,o3,cs3,ha3,hV3,hpt3⟩:=Sl.In.get hg.2.2.2.2.1 hlt3
  have hrow:=hrowsin _ (List.getElem_mem hlt3)
  rw [List.drop_eq_getElem_cons hlt3,rowsErr] at hj2
  generalize x.rows.l[j]=r at hpt3 hj2 hrow
  have hcr:=hrows r hrow
  have hrne:=spansErr_ne (t:=t) r.spans
  clear ih2 ih
  repeat' first|refine W.ia tblOk rfl rfl rfl rfl rfl rfl ha3 (by omega) (by omega) ?_|refine W.ldV tblOk rfl rfl rfl hV3 hpt3 ?_|refine W.callP rfl rfl rfl rfl hcr ?_|(with_reducible first|refine za ?_|refine zb ?_|refine zc ?_)|refine ym zr ?_|refine yn 0 zr ?_|refine yn 1 zr ?_|(with_reducible first|refine zd ?_|refine ze ?_|refine zf ?_|refine zj ?_|refine zk ?_|refine zl ?_)|refine zw (by decide +kernel) ?_|(refine W.condP zr ?_ ?_<;>intro _)|refine W.done zr ?_
  · rename_i hq
    cases hs:spansErr t r.spans with
    | none=>rw [hs] at hq;exact absurd rfl hq
    | some c=>rw [hj2,hs];rfl
  have hr0:=hrne (Classical.not_not.1 ‹¬¬(spansErr t r.spans).getD 0=0›)
  rw [hr0,Option.none_or] at hj2
  rw [wN (by omega)]
  have h9:=ih3 ⟨j+1,by omega,hj2⟩ (by show x.rows.l.length-(j+1)<x.rows.l.length-j;omega)
  refine W.weak _ _ ?_ ?_ h9
  · exact ⟨rfl,rfl,rfl,rfl,rfl⟩
  · first|exact List.Sublist.refl _|exact .cons _ (List.Sublist.refl _)
end Go.Proofs.YtoegffiapnnkiaaGreat.Abs
