/- Parts of one proof. No condition but those that each theorem names. -/
import Derived.Test.YtoegffiapnnkiaaGreatPE13
namespace Go.Proofs.YtoegffiapnnkiaaGreat.Abs
open Go
set_option linter.unusedVariables false
set_option linter.unusedSimpArgs false
set_option maxRecDepth 100000
set_option maxHeartbeats 4000000
attribute [local irreducible] W Cl Bd
variable {g:Cg} {V:K→Option (List AV)}
theorem hasI_c {k o:Int} (h:k=2):hasL k o=[false,true,true,false]:=by simp [hasL,h]
theorem hasI_d {k o:Int} (h:k=4):hasL k o=[false,false,false,true]:=by simp [hasL,h]
theorem hasI_e {k o:Int} (h:¬k=1) (h2:¬k=2) (h4:¬k=4):hasL k o=[false,false,false,false]:=by simp [hasL,h,h2,h4]
def placeJ (o:Option Int):AV:=.tup [.int .i64 (o.getD 0),.bool o.isSome]
theorem rowR_2 (hp:Plain g 164=true) (hi:Plain g 189=true) (hh:Plain g 129=true) {t:Table} (ht:t.Ok V) (x:Row) (n:Int) (hcase:x.k=2∨x.k=4∨(¬x.k=1∧¬x.k=2∧¬x.k=4)) :
    Cl Tryz.prog g V 164 [t.v,x.v,.int .i64 n] [] fun o _=>o=.ret (placeJ (RowAt t x n)):=by
  have hno:RowAt t x n=none→RO.ret (oneOr [AV.int .i64 0,AV.bool false])=.ret (placeJ (RowAt t x n)):=fun h=>by rw [h];rfl
  have hyes:∀m,RowAt t x n=some m→RO.ret (oneOr [AV.int .i64 m,AV.bool true])=.ret (placeJ (RowAt t x n)):=fun m h=>by rw [h];rfl
  refine Cl.enter hp Tryz.func164 rfl ?_
  rcases hcase with hk|hk|⟨hk1,hk2,hk4⟩
  · skip
    repeat' first|refine W.condDT rfl (by decide) ?_|refine W.condDF rfl (by decide) ?_|refine W.condT rfl ?_|refine W.condF rfl ?_|(refine W.condP rfl ?_ ?_<;>intro _<;>first|(exfalso;omega)|skip)|(refine W.gs rfl rfl rfl rfl ?_ ?_<;>intro _<;>first|(exfalso;omega)|skip)|refine W.callP rfl rfl rfl rfl (indexR_c (r:=x) hi ht) ?_|(refine W.callR (Δ:=[]) rfl rfl rfl rfl (has_c hh x) (by rintro v Δ' ⟨i,h,-⟩;cases h) ?_;rintro v_ Δ_ ⟨i_,hv_,hm_⟩;injection hv_ with hv_;subst hv_;rw [hasI_c hk] at hm_;refine W.keep _ hm_ ?_)|(refine W.bsl tblOk rfl rfl rfl rfl (by decide) rfl rfl rfl ?_;intro _)|with_reducible refine W.loop ?_|refine W.ia tblOk rfl rfl rfl rfl rfl rfl rfl (by decide) (by decide) ?_|refine W.neS tblOk rfl rfl rfl rfl rfl (eqSpan ..) ?_|(with_reducible first|refine za ?_|refine zb ?_|refine zc ?_)|refine ym zr ?_|refine yn 0 zr ?_|refine yn 1 zr ?_|refine yn 2 zr ?_|(refine yo zr ?_;intro _)|(refine yp zr ?_;intro _)|refine yq zr ?_|(with_reducible first|refine zd ?_|refine ze ?_|refine zf ?_|refine zg ?_|refine zh ?_|refine zi ?_|refine zj ?_|refine zk ?_|refine zl ?_)|refine zw (by decide +kernel) ?_|refine zx zr zr zr ?_|(refine W.cond zr ?_ ?_<;>intro _)|(refine W.gsB zr zr zr zr ?_ ?_<;>intro _)|refine W.done zr ?_
    all_goals first
      | (refine hyes _ ?_;rw [rowAt_c hk];simp_all [chain,SpanAt,Span.no,ieqb_eq];done)
      | (refine hyes _ ?_;rw [rowAt_c hk];simp_all [chain,SpanAt,Span.no,ieqb_eq];omega)
      | (refine hno ?_;rw [rowAt_c hk];simp_all [chain,SpanAt,Span.no,ieqb_eq];done)
      | (refine hno ?_;rw [rowAt_c hk];simp_all [chain,SpanAt,Span.no,ieqb_eq];omega)
      | trace_state
  · skip
    repeat' first|refine W.condDT rfl (by decide) ?_|refine W.condDF rfl (by decide) ?_|refine W.condT rfl ?_|refine W.condF rfl ?_|(refine W.condP rfl ?_ ?_<;>intro _<;>first|(exfalso;omega)|skip)|(refine W.gs rfl rfl rfl rfl ?_ ?_<;>intro _<;>first|(exfalso;omega)|skip)|refine W.callP rfl rfl rfl rfl (indexR_c (r:=x) hi ht) ?_|(refine W.callR (Δ:=[]) rfl rfl rfl rfl (has_c hh x) (by rintro v Δ' ⟨i,h,-⟩;cases h) ?_;rintro v_ Δ_ ⟨i_,hv_,hm_⟩;injection hv_ with hv_;subst hv_;rw [hasI_d hk] at hm_;refine W.keep _ hm_ ?_)|(refine W.bsl tblOk rfl rfl rfl rfl (by decide) rfl rfl rfl ?_;intro _)|with_reducible refine W.loop ?_|refine W.ia tblOk rfl rfl rfl rfl rfl rfl rfl (by decide) (by decide) ?_|refine W.neS tblOk rfl rfl rfl rfl rfl (eqSpan ..) ?_|(with_reducible first|refine za ?_|refine zb ?_|refine zc ?_)|refine ym zr ?_|refine yn 0 zr ?_|refine yn 1 zr ?_|refine yn 2 zr ?_|(refine yo zr ?_;intro _)|(refine yp zr ?_;intro _)|refine yq zr ?_|(with_reducible first|refine zd ?_|refine ze ?_|refine zf ?_|refine zg ?_|refine zh ?_|refine zi ?_|refine zj ?_|refine zk ?_|refine zl ?_)|refine zw (by decide +kernel) ?_|refine zx zr zr zr ?_|(refine W.cond zr ?_ ?_<;>intro _)|(refine W.gsB zr zr zr zr ?_ ?_<;>intro _)|refine W.done zr ?_
    all_goals first
      | (refine hyes _ ?_;rw [rowAt_d hk];simp_all [chain,SpanAt,Span.no,ieqb_eq];done)
      | (refine hyes _ ?_;rw [rowAt_d hk];simp_all [chain,SpanAt,Span.no,ieqb_eq];omega)
      | (refine hno ?_;rw [rowAt_d hk];simp_all [chain,SpanAt,Span.no,ieqb_eq];done)
      | (refine hno ?_;rw [rowAt_d hk];simp_all [chain,SpanAt,Span.no,ieqb_eq];omega)
      | trace_state
  · skip
    repeat' first|refine W.condDT rfl (by decide) ?_|refine W.condDF rfl (by decide) ?_|refine W.condT rfl ?_|refine W.condF rfl ?_|(refine W.gs rfl rfl rfl rfl ?_ ?_<;>intro _<;>first|(exfalso;omega)|skip)|refine W.callP rfl rfl rfl rfl (indexR_c (r:=x) hi ht) ?_|(refine W.callR (Δ:=[]) rfl rfl rfl rfl (has_c hh x) (by rintro v Δ' ⟨i,h,-⟩;cases h) ?_;rintro v_ Δ_ ⟨i_,hv_,hm_⟩;injection hv_ with hv_;subst hv_;rw [hasI_e hk1 hk2 hk4] at hm_;refine W.keep _ hm_ ?_)|(refine W.bsl tblOk rfl rfl rfl rfl (by decide) rfl rfl rfl ?_;intro _)|with_reducible refine W.loop ?_|refine W.ia tblOk rfl rfl rfl rfl rfl rfl rfl (by decide) (by decide) ?_|refine W.neS tblOk rfl rfl rfl rfl rfl (eqSpan ..) ?_|(with_reducible first|refine za ?_|refine zb ?_|refine zc ?_)|refine ym zr ?_|refine yn 0 zr ?_|refine yn 1 zr ?_|refine yn 2 zr ?_|(refine yo zr ?_;intro _)|(refine yp zr ?_;intro _)|refine yq zr ?_|(with_reducible first|refine zd ?_|refine ze ?_|refine zf ?_|refine zg ?_|refine zh ?_|refine zi ?_|refine zj ?_|refine zk ?_|refine zl ?_)|refine zw (by decide +kernel) ?_|refine zx zr zr zr ?_|(refine W.cond zr ?_ ?_<;>intro _)|(refine W.gsB zr zr zr zr ?_ ?_<;>intro _)|refine W.done zr ?_
    all_goals first
      | (refine hyes _ ?_;rw [rowAt_e hk1 hk2 hk4];simp_all [chain,SpanAt,Span.no,ieqb_eq];done)
      | (refine hyes _ ?_;rw [rowAt_e hk1 hk2 hk4];simp_all [chain,SpanAt,Span.no,ieqb_eq];omega)
      | (refine hno ?_;rw [rowAt_e hk1 hk2 hk4];simp_all [chain,SpanAt,Span.no,ieqb_eq];done)
      | (refine hno ?_;rw [rowAt_e hk1 hk2 hk4];simp_all [chain,SpanAt,Span.no,ieqb_eq];omega)
      | (refine hno ?_;rw [rowAt_e hk1 hk2 hk4,if_neg];rintro ⟨⟨h1,h2⟩,h3,-⟩;simp_all;done)
      | trace_state
end Go.Proofs.YtoegffiapnnkiaaGreat.Abs
