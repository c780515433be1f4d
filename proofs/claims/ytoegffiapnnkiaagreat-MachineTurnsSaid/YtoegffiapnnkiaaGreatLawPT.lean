/- Every evaluation of every table comes to the firing, in the steps, and to the mode that the document says. No condition. -/
import Derived.Test.YtoegffiapnnkiaaGreatPT51
import Derived.Test.YtoegffiapnnkiaaGreatRows
import Derived.WalkKit
import Derived.ProofKit
import Derived.OpenShut
import Derived.ShutString
import Derived.ChangeOld
import Derived.Below
import Derived.SizedLaws
namespace Go.Proofs.YtoegffiapnnkiaaGreat.machineTurns
open Go.ChangeShapes Go.WideShapes Go.ChangeAt Go.RowKit Go.Proofs.YtoegffiapnnkiaaGreat.Abs
set_option linter.unusedVariables false
theorem own:ownKnob Tryz.prog.godebug=none:=by kernel_rfl
theorem laidOut:laidOutB Tryz.prog=true:=by kernel_rfl
set_option maxRecDepth 100000 in
theorem lifted (os:Os) (started:os.Started) (H:Type) (enc:TypeId×Value→H) :
    ReturnsInHanded {} Tryz.checked os 5 .any (Rows.machineTurnsSpec.pre6 enc Tryz.prog Tryz.f5 Rows.machineTurnsRow.domain false) (Rows.machineTurnsSpec.post enc Tryz.prog Tryz.f5 false true false false):=by
  refine returnsInHanded_of_change_sized (C:=Tryz.checked) own started (by kernel_rfl) Tryz.func5
    (ChangeSpec.witness6 (enc:=enc) (C:=Tryz.checked) false ⟨#[],#[.agg #[.string .empty,.slice none 0 0,.int .i64 0,.slice none 0 0,.slice none 0 0,.slice none 0 0],.agg #[.int .i64 0,.slice none 0 0],.agg #[.int .i64 0,.int .i64 0,.int .i64 0,.int .i64 0,.int .i64 0,.int .i64 0],.bool false],[]⟩ 8 (by kernel_rfl) (by kernel_rfl) (by kernel_rfl) (by kernel_rfl)) ?_
  intro W base args ds gs before hval0 hW hcnd hsz0 _
  have hval:∀(j:Nat) t v,Tryz.f5.params[j]?=some t→args[j]?=some v→Value.okWide Tryz.prog W .any base t v:=hval0
  have hW':=hW
  obtain ⟨p,q,hA0,hV,rfl,hfz,hnd⟩:=hW
  have hA:DataW.TrodAll enc Tryz.prog W 0 (fun _=>true) true Tryz.f5.params.toList args.toList ds p:=hA0
  have hsz:(DataW.weightsEach Tryz.prog Tryz.f5.params.toList (ds++gs)).all (·≤reachBytes)=true:=hsz0
  rw [Tryz.params5] at hA hval hsz
  obtain ⟨v0,vs0,d0,ds0,p0,q0,hargs,rfl,rfl,h0,r0⟩:=trodAll_cons hA
  obtain ⟨v1,vs1,d1,ds1,p1,q1,rfl,rfl,rfl,h1,r1⟩:=trodAll_cons r0
  obtain ⟨v2,vs2,d2,ds2,p2,q2,rfl,rfl,rfl,h2,r2⟩:=trodAll_cons r1
  obtain ⟨v3,vs3,d3,ds3,p3,q3,rfl,rfl,rfl,h3,r3⟩:=trodAll_cons r2
  obtain ⟨rfl,rfl,rfl⟩:=trodAll_nil r3
  obtain rfl:args=#[v0,v1,v2,v3]:=by cases args;simp_all
  obtain ⟨rfl,rfl⟩:=trodVars_none hV
  have k0:=h0
  have lt0:∀x∈p0,x.block<W.heap.size:=by obtain ⟨m,hm⟩:=k0;exact DataW.trod_lt m _ _ _ hm
  have hw0:∀n∈d0.weights Tryz.prog 26,n≤reachBytes:=fun n hn=>by
    have:=List.all_eq_true.1 hsz n (by show n∈d0.weights _ _++_;exact List.mem_append_left _ hn)
    simpa using this
  have k1:=h1
  have lt1:∀x∈p1,x.block<W.heap.size:=by obtain ⟨m,hm⟩:=k1;exact DataW.trod_lt m _ _ _ hm
  have hw1:∀n∈d1.weights Tryz.prog 30,n≤reachBytes:=fun n hn=>by
    have:=List.all_eq_true.1 hsz n (by show n∈d0.weights _ _++(d1.weights _ _++_);exact List.mem_append_right _ (List.mem_append_left _ hn))
    simpa using this
  have k2:=h2
  have lt2:∀x∈p2,x.block<W.heap.size:=by obtain ⟨m,hm⟩:=k2;exact DataW.trod_lt m _ _ _ hm
  have hw2:∀n∈d2.weights Tryz.prog 55,n≤reachBytes:=fun n hn=>by
    have:=List.all_eq_true.1 hsz n (by show n∈d0.weights _ _++(d1.weights _ _++(d2.weights _ _++_));exact List.mem_append_right _ (List.mem_append_right _ (List.mem_append_left _ hn)))
    simpa using this
  have k3:=h3
  have lt3:∀x∈p3,x.block<W.heap.size:=by obtain ⟨m,hm⟩:=k3;exact DataW.trod_lt m _ _ _ hm
  have hw3:∀n∈d3.weights Tryz.prog 4,n≤reachBytes:=fun n hn=>by
    have:=List.all_eq_true.1 hsz n (by show n∈d0.weights _ _++(d1.weights _ _++(d2.weights _ _++(d3.weights _ _++_)));exact List.mem_append_right _ (List.mem_append_right _ (List.mem_append_right _ (List.mem_append_left _ hn))))
    simpa using this
  obtain ⟨cs0,rfl,-⟩:=okWide_struct Tryz.underlying26 (hval 0 26 v0 rfl rfl)
  obtain ⟨cs1,rfl,-⟩:=okWide_struct Tryz.underlying30 (hval 1 30 v1 rfl rfl)
  obtain ⟨cs2,rfl,-⟩:=okWide_struct Tryz.underlying55 (hval 2 55 v2 rfl rfl)
  obtain ⟨x3,rfl⟩:=okWide_bool Tryz.underlying4 (hval 3 4 v3 rfl rfl)
  obtain ⟨σ0,a0,le0,hc0,hok0⟩:=open_args op_table (Vw.none W) h0 hw0
  obtain ⟨σ1,a1,le1,hc1,hok1⟩:=open_args op_mode σ0 h1 hw1
  obtain ⟨σ2,a2,le2,hc2,hok2⟩:=open_args op_snap σ1 h2 hw2
  obtain ⟨σ3,a3,le3,hc3,hok3⟩:=open_args (op_bool tblOk rfl) σ2 h3 hw3
  have e0:conc σ3.μ (a0.v)=some (.agg cs0):=conc_mono ((le1.trans le2).trans le3).mu _ _ (conc_agg_mk hc0)
  have ok0:a0.Ok σ3.V:=Table.okM ((le1.trans le2).trans le3).view hok0.1
  have e1:conc σ3.μ (a1.v)=some (.agg cs1):=conc_mono (le2.trans le3).mu _ _ (conc_agg_mk hc1)
  have ok1:a1.regs.In σ3.V false 1 (AV.int .i64):=In_mono (le2.trans le3).view hok1.2.1
  have e2:conc σ3.μ (a2.v)=some (.agg cs2):=conc_mono le3.mu _ _ (conc_agg_mk hc2)
  have e3:conc σ3.μ (.bool a3)=some (.bool x3):=conc_one hc3
  have hcv:concL σ3.μ [a0.v,a1.v,a2.v,.bool a3]=some [.agg cs0,.agg cs1,.agg cs2,.bool x3]:=conc_cons e0 (conc_cons e1 (conc_cons e2 (conc_cons e3 (conc_nil))))
  refine (bridge (ms:=_) G20_ok σ3 hcv (machineTurns_c ok0 hok0.2 a1.s ok1 hok1.2.2 hok2 a3)).mono fun e W' ⟨he,bel⟩=>?_
  subst he
  exact ⟨_,rfl,_,_,_,[],_,[],hW',trodAll_mk1 (shut_bool Tryz.underlying4 _),(trodAll_cons_mk (Below.trod laidOut (by kernel_rfl) (of_decide_eq_true (by kernel_rfl)) k0 bel lt0) (trodAll_cons_mk (Below.trod laidOut (by kernel_rfl) (of_decide_eq_true (by kernel_rfl)) k1 bel lt1) (trodAll_cons_mk (Below.trod laidOut (by kernel_rfl) (of_decide_eq_true (by kernel_rfl)) k2 bel lt2) (trodAll_cons_mk (Below.trod laidOut (by kernel_rfl) (of_decide_eq_true (by kernel_rfl)) k3 bel lt3) trodAll_mk0)))),rfl,bel.frame _,fun h=>by cases h⟩
set_option maxRecDepth 100000 in
set_option maxHeartbeats 4000000 in
theorem closed:joinedFacts Tryz.prog 5 Tryz.f5 Rows.machineTurnsSpec Rows.machineTurnsRow=true:=by
  unfold joinedFacts
  simp only [Bool.and_eq_true]
  repeat' apply And.intro
  all_goals (as_aux_lemma=>kernel_rfl)
theorem over:Rows.machineTurnsRow.holds Tryz.pinned (OpenSpec.ofChange Rows.machineTurnsSpec) :=
  OpenClaim.holds_of_wide 5 Tryz.f5 rfl rfl rfl rfl rfl rfl rfl ⟨rfl,rfl,rfl,rfl,rfl⟩ rfl rfl rfl rfl rfl (by kernel_rfl) Tryz.func5 closed
    (of_decide_eq_true (by kernel_rfl)) (by unfold Func.isWrapper;first|(rw [if_pos (by decide +kernel)];kernel_rfl)|(rw [if_neg (by decide +kernel)];exact ⟨rfl,rfl⟩))
    (fun os started H enc _=>lifted os started H enc)
theorem proved:Rows.MachineTurnsSaid:=over
#print axioms proved
end Go.Proofs.YtoegffiapnnkiaaGreat.machineTurns
namespace Go.Proofs.YtoegffiapnnkiaaGreat
theorem machineTurns_holds:Rows.MachineTurnsSaid:=machineTurns.proved
end Go.Proofs.YtoegffiapnnkiaaGreat
