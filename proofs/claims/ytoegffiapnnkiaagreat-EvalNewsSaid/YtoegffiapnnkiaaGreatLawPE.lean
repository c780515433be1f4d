/- Every evaluator is made, or refused, as the document says, and shows what it should. No condition. -/
import Derived.Test.YtoegffiapnnkiaaGreatPE51
import Derived.Test.YtoegffiapnnkiaaGreatRows
import Derived.WalkKit
import Derived.ProofKit
import Derived.OpenShut
import Derived.ShutString
import Derived.ChangeOld
import Derived.Below
import Derived.SizedLaws
namespace Go.Proofs.YtoegffiapnnkiaaGreat.evalNews
open Go.ChangeShapes Go.WideShapes Go.ChangeAt Go.RowKit Go.Proofs.YtoegffiapnnkiaaGreat.Abs
set_option linter.unusedVariables false
theorem own:ownKnob Tryz.prog.godebug=none:=by kernel_rfl
theorem laidOut:laidOutB Tryz.prog=true:=by kernel_rfl
set_option maxRecDepth 100000 in
theorem lifted (os:Os) (started:os.Started) (H:Type) (enc:TypeId×Value→H) :
    ReturnsInHanded {} Tryz.checked os 7 .any (Rows.evalNewsSpec.pre6 enc Tryz.prog Tryz.f7 Rows.evalNewsRow.domain false) (Rows.evalNewsSpec.post enc Tryz.prog Tryz.f7 false true false false):=by
  refine returnsInHanded_of_change_sized (C:=Tryz.checked) own started (by kernel_rfl) Tryz.func7
    (ChangeSpec.witness6 (enc:=enc) (C:=Tryz.checked) false ⟨#[],#[.agg #[.string .empty,.slice none 0 0,.int .i64 0,.slice none 0 0,.slice none 0 0,.slice none 0 0],.agg #[.int .i64 0,.int .i64 0,.int .i64 0,.int .i64 0,.int .i64 0,.int .i64 0]],[]⟩ 8 (by kernel_rfl) (by kernel_rfl) (by kernel_rfl) (by kernel_rfl)) ?_
  intro W base args ds gs before hval0 hW hcnd hsz0 _
  have hval:∀(j:Nat) t v,Tryz.f7.params[j]?=some t→args[j]?=some v→Value.okWide Tryz.prog W .any base t v:=hval0
  have hW':=hW
  obtain ⟨p,q,hA0,hV,rfl,hfz,hnd⟩:=hW
  have hA:DataW.TrodAll enc Tryz.prog W 0 (fun _=>true) true Tryz.f7.params.toList args.toList ds p:=hA0
  have hsz:(DataW.weightsEach Tryz.prog Tryz.f7.params.toList (ds++gs)).all (·≤reachBytes)=true:=hsz0
  rw [Tryz.params7] at hA hval hsz
  obtain ⟨v0,vs0,d0,ds0,p0,q0,hargs,rfl,rfl,h0,r0⟩:=trodAll_cons hA
  obtain ⟨v1,vs1,d1,ds1,p1,q1,rfl,rfl,rfl,h1,r1⟩:=trodAll_cons r0
  obtain ⟨rfl,rfl,rfl⟩:=trodAll_nil r1
  obtain rfl:args=#[v0,v1]:=by cases args;simp_all
  obtain ⟨rfl,rfl⟩:=trodVars_none hV
  have k0:=h0
  have lt0:∀x∈p0,x.block<W.heap.size:=by obtain ⟨m,hm⟩:=k0;exact DataW.trod_lt m _ _ _ hm
  have hw0:∀n∈d0.weights Tryz.prog 26,n≤reachBytes:=fun n hn=>by
    have:=List.all_eq_true.1 hsz n (by show n∈d0.weights _ _++_;exact List.mem_append_left _ hn)
    simpa using this
  have k1:=h1
  have lt1:∀x∈p1,x.block<W.heap.size:=by obtain ⟨m,hm⟩:=k1;exact DataW.trod_lt m _ _ _ hm
  have hw1:∀n∈d1.weights Tryz.prog 55,n≤reachBytes:=fun n hn=>by
    have:=List.all_eq_true.1 hsz n (by show n∈d0.weights _ _++(d1.weights _ _++_);exact List.mem_append_right _ (List.mem_append_left _ hn))
    simpa using this
  obtain ⟨cs0,rfl,-⟩:=okWide_struct Tryz.underlying26 (hval 0 26 v0 rfl rfl)
  obtain ⟨cs1,rfl,-⟩:=okWide_struct Tryz.underlying55 (hval 1 55 v1 rfl rfl)
  obtain ⟨σ0,a0,le0,hc0,hok0⟩:=open_args op_table (Vw.none W) h0 hw0
  obtain ⟨σ1,a1,le1,hc1,hok1⟩:=open_args op_snap σ0 h1 hw1
  have e0:conc σ1.μ (a0.v)=some (.agg cs0):=conc_mono le1.mu _ _ (conc_agg_mk hc0)
  have ok0:a0.Ok σ1.V:=Table.okM le1.view hok0.1
  have e1:conc σ1.μ (a1.v)=some (.agg cs1):=conc_agg_mk hc1
  have hcv:concL σ1.μ [a0.v,a1.v]=some [.agg cs0,.agg cs1]:=conc_cons e0 (conc_cons e1 (conc_nil))
  refine (bridge (ms:=_) G21_ok σ1 hcv (evalNews_c ok0 hok0.2 hok1)).mono fun e W' ⟨he,bel⟩=>?_
  subst he
  exact ⟨_,rfl,_,_,_,[],_,[],hW',trodAll_mk1 (shut_bool Tryz.underlying4 _),(trodAll_cons_mk (Below.trod laidOut (by kernel_rfl) (of_decide_eq_true (by kernel_rfl)) k0 bel lt0) (trodAll_cons_mk (Below.trod laidOut (by kernel_rfl) (of_decide_eq_true (by kernel_rfl)) k1 bel lt1) trodAll_mk0)),rfl,bel.frame _,fun h=>by cases h⟩
set_option maxRecDepth 100000 in
set_option maxHeartbeats 4000000 in
theorem closed:joinedFacts Tryz.prog 7 Tryz.f7 Rows.evalNewsSpec Rows.evalNewsRow=true:=by
  unfold joinedFacts
  simp only [Bool.and_eq_true]
  repeat' apply And.intro
  all_goals (as_aux_lemma=>kernel_rfl)
theorem over:Rows.evalNewsRow.holds Tryz.pinned (OpenSpec.ofChange Rows.evalNewsSpec) :=
  OpenClaim.holds_of_wide 7 Tryz.f7 rfl rfl rfl rfl rfl rfl rfl ⟨rfl,rfl,rfl,rfl,rfl⟩ rfl rfl rfl rfl rfl (by kernel_rfl) Tryz.func7 closed
    (of_decide_eq_true (by kernel_rfl)) (by unfold Func.isWrapper;first|(rw [if_pos (by decide +kernel)];kernel_rfl)|(rw [if_neg (by decide +kernel)];exact ⟨rfl,rfl⟩))
    (fun os started H enc _=>lifted os started H enc)
theorem proved:Rows.EvalNewsSaid:=over
#print axioms proved
end Go.Proofs.YtoegffiapnnkiaaGreat.evalNews
namespace Go.Proofs.YtoegffiapnnkiaaGreat
theorem evalNews_holds:Rows.EvalNewsSaid:=evalNews.proved
end Go.Proofs.YtoegffiapnnkiaaGreat
