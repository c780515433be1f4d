/- Parts of one proof. No condition but those that each theorem names. -/
import Derived.Test.YtoegffiapnnkiaaGreatPE27
namespace Go.Proofs.YtoegffiapnnkiaaGreat.Abs
open Go
set_option linter.unusedVariables false
set_option linter.unusedSimpArgs false
set_option maxRecDepth 100000
theorem permC {α:Type} {l m:List α} (h:∀(_:DecidableEq α) (a:α),List.count a l=List.count a m):l.Perm m:=by
  have:DecidableEq α:=Classical.typeDecidableEq α
  exact List.perm_iff_count.2 fun a=>h _ a
def sing (x:K×Bk):Dm:=[x]
theorem consS (x:K×Bk) (l:Dm):x::l=sing x++l:=rfl
theorem sl_same {α:Type} (s:Sl α):sameA s.v s.v=true:=by
  obtain ⟨a,c,l⟩:=s
  cases a with
  | none=>cases c<;>simp [Sl.v,sameA]
  | some p=>obtain ⟨i,o⟩:=p;cases c<;>simp [Sl.v,sameA,K.beq_refl]
section
variable {P:Program} {g:Cg} {n:Nat} {V:K→Option (List AV)} {rs:List ResultVar} {st:List Fr} {Γ:Gm} {Δ:Dm} {Q:RO→Dm→Prop} {all:List Oper}
noncomputable def loadsOkG (P:Program) (all:List Oper) (rows:List (List Bool)) (L:List (Nat×Nat×Nat)) (c:Nat):Nat→List Oper→Bool
  | _,[]=>true
  | i,o::os=>(match cls P o.op with
      | .r=>(L.any fun z=>Nat.beq i z.1&&loadsOkX.fst P rows z.1 z.2.1 z.2.2 0 all)||loadsOk.othersOk P rows i 0 all
      | .f=>Nat.blt i c
      | _=>true)&&loadsOkG P all rows L c (i+1) os
noncomputable def drawOkG (P:Program) (all:List Oper) (L:List (Nat×Nat×Nat)) (c:Nat):Bool:=match rowsOf [] 0 all with
  | some rows=>pairs1 P all rows 0 all&&loadsOkG P all rows L c 0 all
  | none=>false
theorem heldAllG_ok {call:Nat→List AV→St→CR} {rows:List (List Bool)} {L:List (Nat×Nat×Nat)} {c:Nat} {tr0:List (Tm×St)} {s9:St} {tm9:Tm} {v:Option AV}:∀(os:List Oper) (tr:List (Tm×St)) (tm:Tm) (s:St) (i:Nat),traceA P call all n os tm s=.ok tr v tm9 s9→LastM P os tr v→loadsOkG P all rows L c i os=true →
    (∀z∈L,∀o x,i≤z.1→os[z.1-i]?=some o→tr[z.1-i]?=some x→wantA all x.1 o=some true→∃t p u,readAt o.op x.1=some (t,p)∧loadAt P t x.2.hp p=some u∧(loadsOkX.fst P rows z.1 z.2.1 z.2.2 0 all=true→heldBy P rows z.1 t p u 0 all tr0 s9=true))→heldAll P all rows tr0 s9 i os tr=true
  | [],tr,tm,s,i,h,_,_,_=>by rfl
  | o::os,tr,tm,s,i,h,hm,hl,hx=>by
    simp only [loadsOkG,Bool.and_eq_true] at hl
    rcases trace_cases h with ⟨tm',s',tr',h1,h2,rfl⟩|⟨u,h1,rfl,rfl,rfl⟩
    · have hh:=heldAllG_ok os tr' tm' s' (i+1) h2 (hm.tail h2) hl.2 (fun z hz o' x hi ho hx' hw=>by
        refine hx z hz o' x (by omega) ?_ ?_ hw
        · rw [show z.1-i=(z.1-(i+1))+1 by omega,List.getElem?_cons_succ];exact ho
        · rw [show z.1-i=(z.1-(i+1))+1 by omega,List.getElem?_cons_succ];exact hx')
      cases hc:cls P o.op with
      | p=>simp only [heldAll,hc];exact hh
      | f=>simp only [heldAll,hc];exact hh
      | m=>simp only [heldAll,hc];exact hh
      | r =>
        have hl:=hl.1
        rw [hc] at hl
        simp only [Bool.or_eq_true] at hl
        obtain ⟨w,hw,hop⟩:=stepG_go h1
        simp only [heldAll,hc,hw]
        by_cases hwt:w=true
        case neg =>
          simp only [Bool.not_eq_true] at hwt
          rw [hwt]
          simpa using hh
        case pos =>
          obtain ⟨v1,s1,h4⟩:=hop hwt
          rw [hwt] at hw ⊢
          simp only
          rcases hl with hl|hl
          · obtain ⟨z,hz,hl2⟩:=List.any_eq_true.1 hl
            simp only [Bool.and_eq_true] at hl2
            obtain ⟨hir,hl2⟩:=hl2
            have hir:i=z.1:=Nat.beq_eq.mp hir
            subst hir
            obtain ⟨t,p,u,q1,q2,q3⟩:=hx z hz o (tm,s) (Nat.le_refl _) (by simp) (by simp) hw
            simp only [q1,q2,q3 hl2]
            exact hh
          · obtain ⟨t,a',ho⟩:=cls_load hc
            have h4:=(opQ_not (P:=P) (o:=o) (by rw [hc];intro e;cases e) call tm s).symm.trans h4
            rw [ho] at h4 ⊢
            have h4:ofO (opLoad P t (ev tm a') s) s=.ret v1 s1:=h4
            unfold opLoad at h4
            simp only [readAt]
            cases hp:optK asPtr (ev tm a') with
            | none=>rw [hp] at h4;cases h4
            | some p =>
              rw [hp] at h4
              have h4:ofO (loadAt P t s.hp p) s=.ret v1 s1:=h4
              simp only
              cases hv:loadAt P t s.hp p with
              | none=>rw [hv] at h4;cases h4
              | some v2=>simp only [heldBy_ok all 0 tr0 hl];exact hh
    · have hc:cls P o.op=.m:=by
        rcases hm with hm|hm
        · cases hm
        · have:=hm o (by simp)
          unfold isM at this
          cases hc:cls P o.op<;>rw [hc] at this<;>first|rfl|cases this
      simp only [heldAll,hc]
      cases os<;>rfl
theorem fltG_ok {call:Nat→List AV→St→CR} (hC:CallS P call) {rows:List (List Bool)} {L:List (Nat×Nat×Nat)} {c:Nat} {s9:St} {tm9:Tm} {v:Option AV}:∀(os:List Oper) (tr:List (Tm×St)) (tm:Tm) (s:St) (i:Nat) (seen:List (Tm×St)),traceA P call all n os tm s=.ok tr v tm9 s9→loadsOkG P all rows L c i os=true →
    (∀x∈seen,x.2.nx.val≤s.nx.val∧∀k b,T.get x.2.hp k=some b→k.val<x.2.nx.val)→(∀m x,i+m<c→tr[m]?=some x→∀k b,T.get x.2.hp k=some b→k.val<x.2.nx.val)→fltOk P seen os tr=true
  | [],tr,tm,s,i,seen,h,_,_,_=>by injection h with h1;subst h1;rfl
  | o::os,tr,tm,s,i,seen,h,hl,hs,hd=>by
    simp only [loadsOkG,Bool.and_eq_true] at hl
    by_cases hic:i<c
    · rcases trace_cases h with ⟨tm',s',tr',h1,h2,rfl⟩|⟨u,h1,rfl,rfl,rfl⟩
      · have h0:=hd 0 (tm,s) (by omega) rfl
        have hmono:=stepO_mono hC (v:=.tup []) (.inl h1)
        have hseen:∀x∈(tm,s)::seen,x.2.nx.val≤s.nx.val∧∀k b,T.get x.2.hp k=some b→k.val<x.2.nx.val:=fun x hx=>by
          rcases List.mem_cons.1 hx with rfl|hx
          · exact ⟨Nat.le_refl _,h0⟩
          · exact hs x hx
        have hh:=fltG_ok hC os tr' tm' s' (i+1) ((tm,s)::seen) h2 hl.2 (fun x hx=>⟨Nat.le_trans (hseen x hx).1 hmono,(hseen x hx).2⟩) (fun m x hm hx=>hd (m+1) x (by omega) (by rw [List.getElem?_cons_succ];exact hx))
        have hn:noneAt s.nx ((tm,s)::seen)=true:=noneAt_of _ fun x hx=>by
          cases e:T.get x.2.hp s.nx with
          | none=>rfl
          | some b =>
            have h3:=hseen x hx
            have:=h3.2 _ _ e
            omega
        cases hc:cls P o.op with
        | f=>simp only [fltOk,hc,hn];exact hh
        | p=>simp only [fltOk,hc];exact hh
        | r=>simp only [fltOk,hc];exact hh
        | m=>simp only [fltOk,hc];exact hh
      · have h0:=hd 0 (_,s) (by omega) rfl
        have hn:noneAt s.nx ((tm9,s)::seen)=true:=noneAt_of _ fun x hx=>by
          cases e:T.get x.2.hp s.nx with
          | none=>rfl
          | some b =>
            rcases List.mem_cons.1 hx with rfl|hx
            · have:=h0 _ _ e;simp only at this;omega
            · have h3:=hs x hx
              have:=h3.2 _ _ e
              omega
        cases hc:cls P o.op with
        | f=>simp only [fltOk,hc,hn];cases os<;>rfl
        | p=>simp only [fltOk,hc];cases os<;>rfl
        | r=>simp only [fltOk,hc];cases os<;>rfl
        | m=>simp only [fltOk,hc];cases os<;>rfl
    · have hnf:cls P o.op≠.f:=fun e=>by
        have hl:=hl.1
        rw [e] at hl
        have hl:Nat.blt i c=true:=hl
        exact hic (by simpa [Nat.blt_eq] using hl)
      rcases trace_cases h with ⟨tm',s',tr',h1,h2,rfl⟩|⟨u,h1,rfl,rfl,rfl⟩
      · have hmono:=stepO_mono hC (v:=.tup []) (.inl h1)
        have hh:=fltG_far hC os tr' tm' s' (i+1) ((tm,s)::seen) h2 hl.2 (by omega)
        cases hc:cls P o.op with
        | f=>exact absurd hc hnf
        | p=>simp only [fltOk,hc];exact hh
        | r=>simp only [fltOk,hc];exact hh
        | m=>simp only [fltOk,hc];exact hh
      · cases hc:cls P o.op with
        | f=>exact absurd hc hnf
        | p=>simp only [fltOk,hc];cases os<;>rfl
        | r=>simp only [fltOk,hc];cases os<;>rfl
        | m=>simp only [fltOk,hc];cases os<;>rfl
where
  fltG_far {call:Nat→List AV→St→CR} (hC:CallS P call) {rows:List (List Bool)} {L:List (Nat×Nat×Nat)} {c:Nat} {s9:St} {tm9:Tm} {v:Option AV}:∀(os:List Oper) (tr:List (Tm×St)) (tm:Tm) (s:St) (i:Nat) (seen:List (Tm×St)),traceA P call all n os tm s=.ok tr v tm9 s9→loadsOkG P all rows L c i os=true→c≤i→fltOk P seen os tr=true
  | [],tr,tm,s,i,seen,h,_,_=>by injection h with h1;subst h1;rfl
  | o::os,tr,tm,s,i,seen,h,hl,hci=>by
    simp only [loadsOkG,Bool.and_eq_true] at hl
    have hnf:cls P o.op≠.f:=fun e=>by
      have hl:=hl.1
      rw [e] at hl
      have hl:Nat.blt i c=true:=hl
      have:i<c:=by simpa [Nat.blt_eq] using hl
      omega
    rcases trace_cases h with ⟨tm',s',tr',h1,h2,rfl⟩|⟨u,h1,rfl,rfl,rfl⟩
    · have hh:=fltG_far hC os tr' tm' s' (i+1) ((tm,s)::seen) h2 hl.2 (by omega)
      cases hc:cls P o.op with
      | f=>exact absurd hc hnf
      | p=>simp only [fltOk,hc];exact hh
      | r=>simp only [fltOk,hc];exact hh
      | m=>simp only [fltOk,hc];exact hh
    · cases hc:cls P o.op with
      | f=>exact absurd hc hnf
      | p=>simp only [fltOk,hc];cases os<;>rfl
      | r=>simp only [fltOk,hc];cases os<;>rfl
      | m=>simp only [fltOk,hc];cases os<;>rfl
theorem fltG_0 {call:Nat→List AV→St→CR} {rows:List (List Bool)} {L:List (Nat×Nat×Nat)} {s9:St} {tm9:Tm} {v:Option AV}:∀(os:List Oper) (tr:List (Tm×St)) (tm:Tm) (s:St) (i:Nat) (seen:List (Tm×St)),traceA P call all n os tm s=.ok tr v tm9 s9→loadsOkG P all rows L 0 i os=true→fltOk P seen os tr=true
  | [],tr,tm,s,i,seen,h,_=>by injection h with h1;subst h1;rfl
  | o::os,tr,tm,s,i,seen,h,hl=>by
    simp only [loadsOkG,Bool.and_eq_true] at hl
    rcases trace_cases h with ⟨tm',s',tr',h1,h2,rfl⟩|⟨u,h1,rfl,rfl,rfl⟩
    · have hh:=fltG_0 os tr' tm' s' (i+1) ((tm,s)::seen) h2 hl.2
      cases hc:cls P o.op with
      | f=>rw [hc] at hl;exact absurd hl.1 (by simp [Nat.blt])
      | p=>simp only [fltOk,hc];exact hh
      | r=>simp only [fltOk,hc];exact hh
      | m=>simp only [fltOk,hc];exact hh
    · cases hc:cls P o.op with
      | f=>rw [hc] at hl;exact absurd hl.1 (by simp [Nat.blt])
      | p=>simp only [fltOk,hc];cases os<;>rfl
      | r=>simp only [fltOk,hc];cases os<;>rfl
      | m=>simp only [fltOk,hc];cases os<;>rfl
def LdOk (P:Program) (g:Cg) (n:Nat) (V:K→Option (List AV)) (tb:T TI) (ops:List Oper) (Γ:Gm) (Δ:Dm) (z:Nat×Nat×Nat):Prop:=∃(o0:Oper) (tx:Nat) (t:TypeId) (i0:K) (q:Nat) (v:AV),getL ops z.1=some o0∧o0.op=.load t (.tmp tx)∧sameA v v=true ∧
  W P g n V [.tmp tx] [.o false ops (ops.take z.1)] .nrm Γ Δ (fun o Δ'=>o=.ret (.ptr (some (i0,q)))∧Hold tb i0 t q v Δ') ∧
  ∀j,z.2.1≤j→j≤z.2.2→W P g n V [] [.o false ops (ops.take j)] .nrm Γ Δ fun _ Δ'=>Hold tb i0 t q v Δ'
def LdsOk (P:Program) (g:Cg) (n:Nat) (V:K→Option (List AV)) (tb:T TI) (ops:List Oper) (Γ:Gm) (Δ:Dm):List (Nat×Nat×Nat)→Prop
  | []=>True
  | z::l=>LdOk P g n V tb ops Γ Δ z∧LdsOk P g n V tb ops Γ Δ l
theorem LdsOk.get {tb:T TI} {ops:List Oper}:∀ {L:List (Nat×Nat×Nat)},LdsOk P g n V tb ops Γ Δ L→∀z∈L,LdOk P g n V tb ops Γ Δ z
  | [],_,z,hz=>by simp at hz
  | x::l,h,z,hz=>by
    rcases List.mem_cons.1 hz with rfl|hz
    · exact h.1
    · exact LdsOk.get h.2 z hz
theorem W.drawGD (ops:List Oper) (L:List (Nat×Nat×Nat)) (c:Nat) (hs:drawOkG P ops L c=true) (tb:T TI) (hT:TabOk P tb) (hL:LdsOk P g n V tb ops Γ Δ L)
    (hC:c=0∨((∀k,CallS P (callA P g (exec P g k)))∧∀j,j<c→W P g n V [] [.o false ops (ops.take j)] .nrm Γ Δ fun _ _=>True))
    (h:W P g n V rs (.o true ops ops::st) .nrm Γ Δ Q):W P g n V rs (.d ops::st) .nrm Γ Δ Q:=fun F s tm hM hT'=>by
  obtain ⟨o,Δ',s',h1,h2,out,⟨m,⟨k1,h3⟩,h4⟩,h5⟩:=h F s tm hM hT'
  have hold:∀ {i0:K} {q:Nat} {t:TypeId} {v:AV} {F:K→Option Bk} {Δ1:Dm} {s1:St},Mem V F Δ1 s1→Hold tb i0 t q v Δ1→loadAt P t s1.hp (i0,q)=some v∧hasAt s1.hp i0=true:=fun {i0 q t v F Δ1 s1} hM1 hH=>by
    obtain ⟨bk,cs,q1,q2,q3⟩:=hH
    have hg:=hM1.own _ q1
    constructor
    · show optK (fun l=>partA P t l q) (cellsAt s1.hp i0)=_
      have:cellsAt s1.hp i0=some cs:=by unfold cellsAt;rw [hg];exact q2
      rw [this];exact partG_ok hT q3
    · unfold hasAt;rw [hg]
  -- (the beginnings come to their ends)
  have beg:∀(rs0:List ResultVar) (j:Nat) (Q0:RO→Dm→Prop),W P g n V rs0 [.o false ops (ops.take j)] .nrm Γ Δ Q0→∃k2,∀k,k2≤k→∃e tmj sj o Δj,runD P (callA P g (exec P g k)) false ops n (ops.take j) tm s=.ok e tmj sj∧Q0 o Δj∧Mem V F Δj sj∧fin P rs0 (.ok e tmj sj)=o.cr sj:=fun rs0 j Q0 hW=>by
    obtain ⟨o,Δj,s2,q2,q3,out,⟨m,⟨k0,q4⟩,q5⟩,q6⟩:=hW F s tm hM hT'
    have q5:m=out:=q5
    subst q5
    refine ⟨k0,fun k hk=>?_⟩
    have q4:runD P (callA P g (exec P g k)) false ops n (ops.take j) tm s=m:=q4 k hk
    rw [q4]
    cases m with
    | no=>cases o<;>cases q6
    | ok e tmx sx =>
      have:sx=s2:=by
        cases e with
        | nrm =>
          have q6:(match resA P tmx sx rs0 with|some vs=>CR.ret (oneOr vs) sx|none=>.no)=o.cr s2:=q6
          split at q6
          · cases o with
            | ret u=>injection q6
            | pan u=>cases q6
          · cases o<;>cases q6
        | ret =>
          have q6:(match resA P tmx sx rs0 with|some vs=>CR.ret (oneOr vs) sx|none=>.no)=o.cr s2:=q6
          split at q6
          · cases o with
            | ret u=>injection q6
            | pan u=>cases q6
          · cases o<;>cases q6
        | pan u =>
          have q6:CR.pan u sx=o.cr s2:=q6
          cases o with
          | ret w=>cases q6
          | pan w=>injection q6
        | exit _=>cases o<;>cases q6
        | goto _=>cases o<;>cases q6
      subst this
      exact ⟨e,tmx,sx,o,Δj,rfl,q2,q3,q6⟩
  have each:∀z∈L,∃(o0:Oper) (tx:Nat) (t:TypeId) (i0:K) (q:Nat) (v:AV),getL ops z.1=some o0∧o0.op=.load t (.tmp tx)∧sameA v v=true∧∃k2,∀k,k2≤k→(∀j,z.2.1≤j→j≤z.2.2→∃e tmj sj,runD P (callA P g (exec P g k)) false ops n (ops.take j) tm s=.ok e tmj sj∧loadAt P t sj.hp (i0,q)=some v∧hasAt sj.hp i0=true)∧∃e tmj sj,∃(o:RO) (Δj:Dm),runD P (callA P g (exec P g k)) false ops n (ops.take z.1) tm s=.ok e tmj sj∧(o=.ret (.ptr (some (i0,q)))∧Hold tb i0 t q v Δj)∧Mem V F Δj sj∧fin P [.tmp tx] (.ok e tmj sj)=o.cr sj:=fun z hz=>by
    obtain ⟨o0,tx,t,i0,q,v,ho0,hop,hv,hptr,hpre⟩:=hL.get z hz
    obtain ⟨r,a,b⟩:=z
    simp only at ho0 hptr hpre ⊢
    have hall:∀c,∃k2,∀k,k2≤k→∀j,a≤j→j≤b→j≤c→∃e tmj sj,runD P (callA P g (exec P g k)) false ops n (ops.take j) tm s=.ok e tmj sj∧loadAt P t sj.hp (i0,q)=some v∧hasAt sj.hp i0=true:=fun c=>by
      have one:∀j,a≤j→j≤b→∃k2,∀k,k2≤k→∃e tmj sj,runD P (callA P g (exec P g k)) false ops n (ops.take j) tm s=.ok e tmj sj∧loadAt P t sj.hp (i0,q)=some v∧hasAt sj.hp i0=true:=fun j hj hjb=>by
        obtain ⟨k2,hk2⟩:=beg [] j _ (hpre j hj hjb)
        refine ⟨k2,fun k hk=>?_⟩
        obtain ⟨e,tmj,sj,o,Δj,q1,q2,q3,-⟩:=hk2 k hk
        exact ⟨e,tmj,sj,q1,hold q3 q2⟩
      induction c with
      | zero =>
        by_cases h0:a≤0∧0≤b
        · obtain ⟨k2,hk2⟩:=one 0 h0.1 h0.2
          refine ⟨k2,fun k hk j hj hjb hjc=>?_⟩
          obtain rfl:j=0:=by omega
          exact hk2 k hk
        · exact ⟨0,fun k hk j hj hjb hjc=>absurd ⟨by omega,by omega⟩ h0⟩
      | succ c ih =>
        obtain ⟨k2,hk2⟩:=ih
        by_cases hb:a≤c+1∧c+1≤b
        · obtain ⟨k3,hk3⟩:=one (c+1) hb.1 hb.2
          refine ⟨k2+k3,fun k hk j hj hjb hjc=>?_⟩
          by_cases e:j≤c
          · exact hk2 k (by omega) j hj hjb e
          · obtain rfl:j=c+1:=by omega
            exact hk3 k (by omega)
        · refine ⟨k2,fun k hk j hj hjb hjc=>hk2 k hk j hj hjb ?_⟩
          by_cases e:j=c+1
          · exact absurd ⟨by omega,by omega⟩ hb
          · omega
    obtain ⟨k2,hk2⟩:=hall b
    obtain ⟨k3,hk3⟩:=beg [.tmp tx] r _ hptr
    exact ⟨o0,tx,t,i0,q,v,ho0,hop,hv,k2+k3,fun k hk=>⟨fun j ha hb=>hk2 k (by omega) j ha hb hb,hk3 k (by omega)⟩⟩
  have eachK:∀l:List (Nat×Nat×Nat),(∀z∈l,z∈L)→∃k2,∀k,k2≤k→∀z∈l,∃(o0:Oper) (tx:Nat) (t:TypeId) (i0:K) (q:Nat) (v:AV),getL ops z.1=some o0∧o0.op=.load t (.tmp tx)∧sameA v v=true∧(∀j,z.2.1≤j→j≤z.2.2→∃e tmj sj,runD P (callA P g (exec P g k)) false ops n (ops.take j) tm s=.ok e tmj sj∧loadAt P t sj.hp (i0,q)=some v∧hasAt sj.hp i0=true)∧∃e tmj sj,∃(o:RO) (Δj:Dm),runD P (callA P g (exec P g k)) false ops n (ops.take z.1) tm s=.ok e tmj sj∧(o=.ret (.ptr (some (i0,q)))∧Hold tb i0 t q v Δj)∧Mem V F Δj sj∧fin P [.tmp tx] (.ok e tmj sj)=o.cr sj:=fun l=>by
    induction l with
    | nil=>exact fun _=>⟨0,fun k _ z hz=>by simp at hz⟩
    | cons y l ih =>
      intro hl
      obtain ⟨k2,hk2⟩:=ih fun z hz=>hl z (by simp [hz])
      obtain ⟨o0,tx,t,i0,q,v,e1,e2,e3,k3,hk3⟩:=each y (hl y (by simp))
      refine ⟨k2+k3,fun k hk z hz=>?_⟩
      rcases List.mem_cons.1 hz with rfl|hz
      · exact ⟨o0,tx,t,i0,q,v,e1,e2,e3,hk3 k (by omega)⟩
      · exact hk2 k (by omega) z hz
  have oneC:∀c',c'≤c→∃k2,∀k,k2≤k→∀j,j<c'→∃e tmj sj,runD P (callA P g (exec P g k)) false ops n (ops.take j) tm s=.ok e tmj sj∧∀i b,T.get sj.hp i=some b→i.val<sj.nx.val:=fun c'=>by
    induction c' with
    | zero=>exact fun _=>⟨0,fun k _ j hj=>absurd hj (Nat.not_lt_zero _)⟩
    | succ c' ih =>
      intro hc
      obtain ⟨k2,hk2⟩:=ih (by omega)
      have hw:=(hC.resolve_left (by omega)).2 c' (by omega)
      obtain ⟨k3,hk3⟩:=beg [] c' _ hw
      refine ⟨k2+k3,fun k hk j hj=>?_⟩
      by_cases e:j<c'
      · exact hk2 k (by omega) j e
      · obtain rfl:j=c':=by omega
        obtain ⟨e,tmj,sj,o,Δj,q1,q2,q3,-⟩:=hk3 k (by omega)
        exact ⟨e,tmj,sj,q1,q3.dom⟩
  obtain ⟨k2,hk2⟩:=eachK L fun z hz=>hz
  obtain ⟨k3,hk3⟩:=oneC c (Nat.le_refl _)
  refine ⟨o,Δ',s',h1,h2,out,⟨m,⟨k1+k2+k3+1,fun k hk=>?_⟩,h4⟩,h5⟩
  obtain ⟨j,rfl,hj⟩:=le_same hk
  have h3:runD P (callA P g (exec P g j)) true ops n ops tm s=m:=h3 j (by omega)
  have hk2:=hk2 j (by omega)
  have hk3:=hk3 j (by omega)
  show drawOps1 P (callA P g (exec P g j)) ops n tm s=m
  cases m with
  | no =>
    exfalso
    have hno:∀(st:List Fr) (r:Out),RnS P g n st .no r→r=.no:=fun st=>by
      induction st with
      | nil=>intro r h;exact h.symm
      | cons f st ih =>
        intro r h
        obtain ⟨m,⟨k0,h5⟩,h6⟩:=h
        have:m=.no:=by rw [←h5 k0 (Nat.le_refl _)];cases f<;>rfl
        subst this
        exact ih r h6
    rw [hno st out h4] at h5
    cases o<;>cases h5
  | ok e tm9 s9 =>
    obtain ⟨tr,u,h6,h7⟩:=runD_trace ops tm s e tm9 s9 h3
    unfold drawOkG at hs
    split at hs
    case h_2=>cases hs
    rename_i rows hrows
    simp only [Bool.and_eq_true] at hs
    have hm:LastM P ops tr u:=by
      rcases h7 with ⟨-,rfl⟩|⟨w,-,rfl,o',l,h8,h9,h10⟩
      · exact .inl rfl
      · refine .inr fun o'' ho'=>?_
        rw [h10] at ho'
        injection ho' with ho';subst ho'
        simp only [panOk,hrows,Bool.and_eq_true] at h8
        exact h8.2.2
    have hH:heldAll P ops rows tr s9 0 ops tr=true:=by
      refine heldAllG_ok ops tr tm s 0 h6 hm hs.2 fun z hz o' x hi ho hx hw=>?_
      obtain ⟨o0,tx,t,i0,q,v,ho0,hop,hv,hkj,er,tmr,sr,or',Δr,r1,⟨rfl,r2⟩,r3,r4⟩:=hk2 z hz
      have hdyn:∀k,z.2.1≤k→k≤z.2.2→k≤tr.length→loadAt P t (stAt tr s9 k).hp (i0,q)=some v∧hasAt (stAt tr s9 k).hp i0=true:=fun k ha hb hk=>by
        obtain ⟨e',tmj,sj,q1,q2⟩:=hkj k ha hb
        obtain ⟨p1,p2⟩:=run_atX ops k tm tmj tm9 s sj s9 tr u e' hk q1 h6
        by_cases hlt:k<tr.length
        · have:=(p1 hlt).2
          unfold stAt;rw [this];exact q2
        · have hke:k=tr.length:=by omega
          have:=p2 hke
          unfold stAt
          rw [List.getElem?_eq_none (by omega),←this];exact q2
      rw [Nat.sub_zero] at ho hx
      rw [getL_eq] at ho0
      rw [ho0] at ho
      injection ho with ho;subst ho
      have hlt:z.1<tr.length:=(List.getElem?_eq_some_iff.1 hx).1
      obtain ⟨p1,-⟩:=run_atX ops z.1 tm tmr tm9 s sr s9 tr u er (by omega) r1 h6
      obtain ⟨rfl,p2⟩:=p1 hlt
      rw [p2] at hx
      injection hx with hx;subst hx
      have hev:T.get tmr (K.of tx)=some (.ptr (some (i0,q))):=by
        have r4:(match (match T.get tmr (K.of tx),(some []:Option (List AV)) with|some v,some vs=>some (v::vs)|_,_=>none) with|some vs=>CR.ret (oneOr vs) sr|none=>.no)=CR.ret (.ptr (some (i0,q))) sr:=r4
        cases hx:T.get tmr (K.of tx) with
        | none=>rw [hx] at r4;cases r4
        | some w =>
          rw [hx] at r4
          injection r4 with r4
          rw [show w=AV.ptr (some (i0,q)) from r4]
      refine ⟨t,(i0,q),v,?_,(hold r3 r2).1,fun hf=>heldByX_ok hv _ 0 _ hf fun k k1 k2 k3=>hdyn k (by omega) (by omega) k3⟩
      rw [hop]
      have:ev tmr (.tmp tx)=some (.ptr (some (i0,q))):=hev
      simp only [readAt,this];rfl
    have hF:fltOk P [] ops tr=true:=by
      rcases hC with rfl|⟨hC,-⟩
      · exact fltG_0 ops tr tm s 0 [] h6 hs.2
      · exact fltG_ok (hC j) ops tr tm s 0 [] h6 hs.2 (fun x hx=>by simp at hx) fun m x hmc hx=>by
          have hlt:m<tr.length:=(List.getElem?_eq_some_iff.1 hx).1
          obtain ⟨e',tmj,sj,q1,q2⟩:=hk3 m (by omega)
          obtain ⟨p1,-⟩:=run_atX ops m tm tmj tm9 s sj s9 tr u e' (by omega) q1 h6
          have:=(p1 hlt).2
          rw [this] at hx
          injection hx with hx;subst hx
          exact q2
    unfold drawOps1
    simp only [h6,hrows,hs.1,hH,hF,Bool.and_self]
    rcases h7 with ⟨rfl,rfl⟩|⟨w,rfl,rfl,o',l,h8,h9,h10⟩
    · rfl
    · simp only [panOk,hrows,Bool.and_eq_true] at h8
      have e1:ops.length-l.length-1=tr.length-1:=by omega
      rw [e1] at h8
      have hgl:getL ops (tr.length-1)=some o':=by rw [getL_eq];exact h10
      simp only [h8.1,hgl,h8.2.2,Bool.and_self]
theorem W.drawG {i:Nat} (ops:Array Oper) (L:List (Nat×Nat×Nat)) (c:Nat) (hs:drawOkG P ops.toList L c=true) (tb:T TI) (hT:TabOk P tb) (hL:LdsOk P g n V tb ops.toList Γ Δ L)
    (hC:c=0∨((∀k,CallS P (callA P g (exec P g k)))∧∀j,j<c→W P g n V [] [.o false ops.toList (ops.toList.take j)] .nrm Γ Δ fun _ _=>True))
    (h:W P g n V rs (.o true ops.toList ops.toList::st) .nrm Γ Δ Q):W P g n V rs (.c (.region i ops true)::st) .nrm Γ Δ Q:=W.reg (W.drawGD ops.toList L c hs tb hT hL hC h)
theorem W.cut {f:Fr} (A:Gm→Dm→Prop) (h2:∀Γ' Δ',A Γ' Δ'→W P g n V rs st .nrm Γ' Δ' Q) (h1:(∀Γ' Δ',A Γ' Δ'→W P g n V rs st .nrm Γ' Δ' Q)→W P g n V rs (f::st) .nrm Γ Δ Q):W P g n V rs (f::st) .nrm Γ Δ Q:=h1 h2
end
end Go.Proofs.YtoegffiapnnkiaaGreat.Abs
