/- Parts of one proof. No condition but those that each theorem names. -/
import Derived.Test.YtoegffiapnnkiaaGreatPE19
import Derived.Test.YtoegffiapnnkiaaGreatPE20
namespace Go.Proofs.YtoegffiapnnkiaaGreat.Abs
open Go
set_option linter.unusedVariables false
set_option linter.unusedSimpArgs false
set_option maxRecDepth 100000
set_option maxHeartbeats 4000000
attribute [local irreducible] W Cl Bd
variable {g:Cg} {V:K→Option (List AV)}
theorem spanR_c (hp:Plain g 83=true) (hst:Plain g 127=true) (hfi:Plain g 128=true) (hc:Plain g 165=true) (hs:Plain g 166=true) {t:Table} (ht:t.Ok V) {f z:Int} (h0:0≤f) (h1:f<z) (h2:z≤t.code.l.length) (h3:t.code.l.length≤4096) :
    Cl Tryz.prog g V 83 [t.v,.agg [.int .i64 f,.int .i64 z]] [] fun o _=>o=.ret (.int .i64 ((spanS t f z).getD 0)):=by
  refine Cl.enter hp Tryz.func83 rfl ?_
  repeat first|(with_reducible first|refine za ?_|refine zb ?_|refine zc ?_)|refine ym zr ?_|refine yn 0 zr ?_|(refine yo zr ?_;intro _)|with_reducible refine ze ?_
  refine W.loopR (α:={ i:Int // f≤i∧i≤z∧standAll t z (z-f).toNat f=standAll t z (z-i).toNat i }) (fun i=>(z-i.1).toNat) (fun i=>[(2,_),(3,_),(5,.int .i64 i.1)]) (fun _=>_) ⟨f,by omega,by omega,rfl⟩ ⟨rfl,rfl,rfl⟩ (List.Sublist.refl _) ?_
  rintro ⟨i,hi0,hi1,hi2⟩ ih
  simp only at ih ⊢
  repeat first|(with_reducible first|refine za ?_|refine zb ?_|refine zc ?_)|refine ym zr ?_|refine yn 0 zr ?_
  refine W.condP rfl ?_ ?_<;>intro hlt
  · have e1:IntKind.i64.wrap (i+1)=i+1:=w64 (by omega) (by omega)
    repeat' first|refine W.callP rfl rfl rfl rfl (standsR_c hst (t:=t) (a:=i) (z:=z) ht (by omega) (by omega)) ?_|(with_reducible first|refine za ?_|refine zb ?_|refine zc ?_)|refine ym zr ?_|refine yn 0 zr ?_|refine yn 1 zr ?_|(with_reducible first|refine zd ?_|refine ze ?_|refine zf ?_|refine zj ?_|refine zk ?_|refine zl ?_)|(refine W.cond zr ?_ ?_<;>intro _)|refine W.done zr ?_
    · rename_i hq
      have hq:Stands t (codeAt t i) i z=false:=by simpa using hq
      have:spanS t f z=some 191:=by
        unfold spanS
        rw [hi2,show (z-i).toNat=(z-(i+1)).toNat+1 by omega,standAll,hq];rfl
      rw [this];rfl
    · rename_i hq
      have hq:Stands t (codeAt t i) i z=true:=by simpa using hq
      rw [e1]
      have h9:=ih ⟨i+1,by omega,by omega,by rw [hi2,show (z-i).toNat=(z-(i+1)).toNat+1 by omega,standAll,hq,Bool.true_and]⟩ (by show (z-(i+1)).toNat<(z-i).toNat;omega)
      refine W.weak _ _ ?_ ?_ h9
      · exact ⟨rfl,rfl,rfl⟩
      · exact List.Sublist.refl _
  · have hall:standAll t z (z-f).toNat f=true:=by rw [hi2,show (z-i).toNat=0 by omega];rfl
    have hS:=span_fit (t:=t) (f:=f) (z:=z) (by omega) hall
    clear ih
    repeat' first|refine W.callP rfl rfl rfl rfl (fit_c hfi hc hs (t:=t) (f:=f) (z:=z) ht h0 h1 h2 h3 hall) ?_|(with_reducible first|refine za ?_|refine zb ?_|refine zc ?_)|refine ym zr ?_|refine yn 0 zr ?_|refine yn 1 zr ?_|(with_reducible first|refine zd ?_|refine zg ?_|refine zh ?_|refine zi ?_|refine zj ?_|refine zk ?_)|(refine W.cond zr ?_ ?_<;>intro _)|refine W.done zr ?_
    · rename_i hq
      have hq:fitR t f z=false:=by simpa using hq
      rw [hS,hq];rfl
    · rename_i hq
      have hq:fitR t f z=true:=by simpa using hq
      rw [hS,hq];rfl
theorem hasL_a {k o:Int} (h:k=1) (h':o=2):hasL k o=[true,true,false,false]:=by simp [hasL,h,h']
theorem hasL_b {k o:Int} (h:k=1) (h':¬o=2):hasL k o=[true,true,true,false]:=by simp [hasL,h,h']
theorem hasL_c {k o:Int} (h:k=2):hasL k o=[false,true,true,false]:=by simp [hasL,h]
theorem hasL_d {k o:Int} (h:k=4):hasL k o=[false,false,false,true]:=by simp [hasL,h]
theorem hasL_e {k o:Int} (h:¬k=1) (h2:¬k=2) (h4:¬k=4):hasL k o=[false,false,false,false]:=by simp [hasL,h,h2,h4]
theorem rowsR_c (hp:Plain g 85=true) (hh:Plain g 129=true) {t:Table} (x:Row) (hspan:∀y∈x.spans,Cl Tryz.prog g V 83 [t.v,.agg [.int .i64 y.f,.int .i64 y.t]] [] fun o _=>o=.ret (.int .i64 ((spanS t y.f y.t).getD 0))) :
    Cl Tryz.prog g V 85 [t.v,x.v] [] fun o _=>o=.ret (.int .i64 ((spansErr t x.spans).getD 0)):=by
  have hcase:(x.k=1∧x.o=2)∨(x.k=1∧¬x.o=2)∨x.k=2∨x.k=4∨(¬x.k=1∧¬x.k=2∧¬x.k=4):=by omega
  have hz:∀y∈x.spans,(spanS t y.f y.t).getD 0=0→spanS t y.f y.t=none:=fun y _ h=>by
    unfold spanS at h ⊢
    (repeat' split)<;>simp_all
  refine Cl.enter hp Tryz.func85 rfl ?_
  rcases hcase with ⟨hk,ho⟩|⟨hk,ho⟩|hk|hk|⟨hk1,hk2,hk4⟩
  · have hl2:x.spans=[x.side,x.qty]:=by simp [Row.spans,hk,ho]
    rw [hl2] at hspan hz ⊢
    have hc0:=hspan x.side (by simp)
    have hz0:=hz x.side (by simp)
    have hc1:=hspan x.qty (by simp)
    have hz1:=hz x.qty (by simp)
    repeat' first|refine W.condDT rfl (by decide) ?_|refine W.condDF rfl (by decide) ?_|refine W.condT rfl ?_|refine W.condF rfl ?_|(refine W.callR (Δ:=[]) rfl rfl rfl rfl (has_c hh x) (by rintro v Δ' ⟨i,h,-⟩;cases h) ?_;rintro v_ Δ_ ⟨i_,hv_,hm_⟩;injection hv_ with hv_;subst hv_;rw [hasL_a hk ho] at hm_;refine W.keep _ hm_ ?_)|(refine W.bsl tblOk rfl rfl rfl rfl (by decide) rfl rfl rfl ?_;intro _)|with_reducible refine W.loop ?_|refine W.ia tblOk rfl rfl rfl rfl rfl rfl rfl (by decide) (by decide) ?_|refine W.callP rfl rfl rfl rfl hc0 ?_|refine W.callP rfl rfl rfl rfl hc1 ?_|(with_reducible first|refine za ?_|refine zb ?_|refine zc ?_)|refine ym zr ?_|refine yn 0 zr ?_|refine yn 1 zr ?_|refine yn 3 zr ?_|(refine yo zr ?_;intro _)|(with_reducible first|refine zd ?_|refine ze ?_|refine zf ?_|refine zg ?_|refine zh ?_|refine zi ?_|refine zj ?_|refine zk ?_|refine zl ?_)|refine zw (by decide +kernel) ?_|(refine W.condP zr ?_ ?_<;>intro _)|refine W.done zr ?_
    all_goals (show RO.ret (AV.int _ _)=RO.ret (AV.int _ _);congr 2)
    all_goals first
      | (simp_all [spansErr];done)
      | (cases h0:spanS t x.side.f x.side.t<;>simp_all [spansErr];done)
      | (cases h0:spanS t x.side.f x.side.t<;>cases h1:spanS t x.qty.f x.qty.t<;>simp_all [spansErr];done)
      | trace_state
  · have hl2:x.spans=[x.side,x.qty,x.price]:=by simp [Row.spans,hk,ho]
    rw [hl2] at hspan hz ⊢
    have hc0:=hspan x.side (by simp)
    have hz0:=hz x.side (by simp)
    have hc1:=hspan x.qty (by simp)
    have hz1:=hz x.qty (by simp)
    have hc2:=hspan x.price (by simp)
    have hz2:=hz x.price (by simp)
    repeat' first|refine W.condDT rfl (by decide) ?_|refine W.condDF rfl (by decide) ?_|refine W.condT rfl ?_|refine W.condF rfl ?_|(refine W.callR (Δ:=[]) rfl rfl rfl rfl (has_c hh x) (by rintro v Δ' ⟨i,h,-⟩;cases h) ?_;rintro v_ Δ_ ⟨i_,hv_,hm_⟩;injection hv_ with hv_;subst hv_;rw [hasL_b hk ho] at hm_;refine W.keep _ hm_ ?_)|(refine W.bsl tblOk rfl rfl rfl rfl (by decide) rfl rfl rfl ?_;intro _)|with_reducible refine W.loop ?_|refine W.ia tblOk rfl rfl rfl rfl rfl rfl rfl (by decide) (by decide) ?_|refine W.callP rfl rfl rfl rfl hc0 ?_|refine W.callP rfl rfl rfl rfl hc1 ?_|refine W.callP rfl rfl rfl rfl hc2 ?_|(with_reducible first|refine za ?_|refine zb ?_|refine zc ?_)|refine ym zr ?_|refine yn 0 zr ?_|refine yn 1 zr ?_|refine yn 3 zr ?_|(refine yo zr ?_;intro _)|(with_reducible first|refine zd ?_|refine ze ?_|refine zf ?_|refine zg ?_|refine zh ?_|refine zi ?_|refine zj ?_|refine zk ?_|refine zl ?_)|refine zw (by decide +kernel) ?_|(refine W.condP zr ?_ ?_<;>intro _)|refine W.done zr ?_
    all_goals (show RO.ret (AV.int _ _)=RO.ret (AV.int _ _);congr 2)
    all_goals first
      | (simp_all [spansErr];done)
      | (cases h0:spanS t x.side.f x.side.t<;>simp_all [spansErr];done)
      | (cases h0:spanS t x.side.f x.side.t<;>cases h1:spanS t x.qty.f x.qty.t<;>simp_all [spansErr];done)
      | (cases h0:spanS t x.side.f x.side.t<;>cases h1:spanS t x.qty.f x.qty.t<;>cases h2:spanS t x.price.f x.price.t<;>simp_all [spansErr];done)
      | trace_state
  · have hl2:x.spans=[x.qty,x.price]:=by simp [Row.spans,hk]
    rw [hl2] at hspan hz ⊢
    have hc0:=hspan x.qty (by simp)
    have hz0:=hz x.qty (by simp)
    have hc1:=hspan x.price (by simp)
    have hz1:=hz x.price (by simp)
    repeat' first|refine W.condDT rfl (by decide) ?_|refine W.condDF rfl (by decide) ?_|refine W.condT rfl ?_|refine W.condF rfl ?_|(refine W.callR (Δ:=[]) rfl rfl rfl rfl (has_c hh x) (by rintro v Δ' ⟨i,h,-⟩;cases h) ?_;rintro v_ Δ_ ⟨i_,hv_,hm_⟩;injection hv_ with hv_;subst hv_;rw [hasL_c hk] at hm_;refine W.keep _ hm_ ?_)|(refine W.bsl tblOk rfl rfl rfl rfl (by decide) rfl rfl rfl ?_;intro _)|with_reducible refine W.loop ?_|refine W.ia tblOk rfl rfl rfl rfl rfl rfl rfl (by decide) (by decide) ?_|refine W.callP rfl rfl rfl rfl hc0 ?_|refine W.callP rfl rfl rfl rfl hc1 ?_|(with_reducible first|refine za ?_|refine zb ?_|refine zc ?_)|refine ym zr ?_|refine yn 0 zr ?_|refine yn 1 zr ?_|refine yn 3 zr ?_|(refine yo zr ?_;intro _)|(with_reducible first|refine zd ?_|refine ze ?_|refine zf ?_|refine zg ?_|refine zh ?_|refine zi ?_|refine zj ?_|refine zk ?_|refine zl ?_)|refine zw (by decide +kernel) ?_|(refine W.condP zr ?_ ?_<;>intro _)|refine W.done zr ?_
    all_goals (show RO.ret (AV.int _ _)=RO.ret (AV.int _ _);congr 2)
    all_goals first
      | (simp_all [spansErr];done)
      | (cases h0:spanS t x.qty.f x.qty.t<;>simp_all [spansErr];done)
      | (cases h0:spanS t x.qty.f x.qty.t<;>cases h1:spanS t x.price.f x.price.t<;>simp_all [spansErr];done)
      | trace_state
  · have hl2:x.spans=[x.value]:=by simp [Row.spans,hk]
    rw [hl2] at hspan hz ⊢
    have hc0:=hspan x.value (by simp)
    have hz0:=hz x.value (by simp)
    repeat' first|refine W.condDT rfl (by decide) ?_|refine W.condDF rfl (by decide) ?_|refine W.condT rfl ?_|refine W.condF rfl ?_|(refine W.callR (Δ:=[]) rfl rfl rfl rfl (has_c hh x) (by rintro v Δ' ⟨i,h,-⟩;cases h) ?_;rintro v_ Δ_ ⟨i_,hv_,hm_⟩;injection hv_ with hv_;subst hv_;rw [hasL_d hk] at hm_;refine W.keep _ hm_ ?_)|(refine W.bsl tblOk rfl rfl rfl rfl (by decide) rfl rfl rfl ?_;intro _)|with_reducible refine W.loop ?_|refine W.ia tblOk rfl rfl rfl rfl rfl rfl rfl (by decide) (by decide) ?_|refine W.callP rfl rfl rfl rfl hc0 ?_|(with_reducible first|refine za ?_|refine zb ?_|refine zc ?_)|refine ym zr ?_|refine yn 0 zr ?_|refine yn 1 zr ?_|refine yn 3 zr ?_|(refine yo zr ?_;intro _)|(with_reducible first|refine zd ?_|refine ze ?_|refine zf ?_|refine zg ?_|refine zh ?_|refine zi ?_|refine zj ?_|refine zk ?_|refine zl ?_)|refine zw (by decide +kernel) ?_|(refine W.condP zr ?_ ?_<;>intro _)|refine W.done zr ?_
    all_goals (show RO.ret (AV.int _ _)=RO.ret (AV.int _ _);congr 2)
    all_goals first
      | (simp_all [spansErr];done)
      | (cases h0:spanS t x.value.f x.value.t<;>simp_all [spansErr];done)
      | trace_state
  · have hl2:x.spans=[]:=by simp [Row.spans,hk1,hk2,hk4]
    rw [hl2] at hspan hz ⊢
    repeat' first|refine W.condDT rfl (by decide) ?_|refine W.condDF rfl (by decide) ?_|refine W.condF rfl ?_|(refine W.callR (Δ:=[]) rfl rfl rfl rfl (has_c hh x) (by rintro v Δ' ⟨i,h,-⟩;cases h) ?_;rintro v_ Δ_ ⟨i_,hv_,hm_⟩;injection hv_ with hv_;subst hv_;rw [hasL_e hk1 hk2 hk4] at hm_;refine W.keep _ hm_ ?_)|(refine W.bsl tblOk rfl rfl rfl rfl (by decide) rfl rfl rfl ?_;intro _)|with_reducible refine W.loop ?_|refine W.ia tblOk rfl rfl rfl rfl rfl rfl rfl (by decide) (by decide) ?_|(with_reducible first|refine za ?_|refine zb ?_|refine zc ?_)|refine ym zr ?_|refine yn 0 zr ?_|refine yn 1 zr ?_|(refine yo zr ?_;intro _)|(with_reducible first|refine zd ?_|refine ze ?_|refine zf ?_|refine zg ?_|refine zh ?_|refine zi ?_|refine zj ?_)|refine W.done zr ?_
    all_goals (show RO.ret (AV.int _ _)=RO.ret (AV.int _ _);congr 2)
    all_goals first
      | (simp_all [spansErr];done)
      | (cases h0:spanS t x.side.f x.side.t<;>simp_all [spansErr];done)
      | trace_state
end Go.Proofs.YtoegffiapnnkiaaGreat.Abs
