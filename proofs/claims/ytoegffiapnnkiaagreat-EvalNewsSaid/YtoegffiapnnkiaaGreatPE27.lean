/- Parts of one proof. No condition but those that each theorem names. -/
import Derived.Test.YtoegffiapnnkiaaGreatPE25
namespace Go.Proofs.YtoegffiapnnkiaaGreat.Abs
open Go
set_option linter.unusedVariables false
set_option linter.unusedSimpArgs false
set_option maxRecDepth 100000
section
variable {P:Program} {g:Cg} {n:Nat} {V:K→Option (List AV)} {rs:List ResultVar} {st:List Fr} {Γ:Gm} {Δ:Dm} {Q:RO→Dm→Prop} {all:List Oper}
def Hold (tb:T TI) (i0:K) (t q:Nat) (v:AV) (Δ:Dm):Prop:=∃bk cs,(i0,bk)∈Δ∧rdl bk=some cs∧partG tb t cs q=some v
noncomputable def loadsOkX (P:Program) (all:List Oper) (rows:List (List Bool)) (r a b:Nat):Nat→List Oper→Bool
  | _,[]=>true
  | i,o::os=>(match cls P o.op with
      | .r=>(Nat.beq i r&&fst P rows r a b 0 all)||loadsOk.othersOk P rows i 0 all
      | .f=>false
      | _=>true)&&loadsOkX P all rows r a b (i+1) os
where
  fst (P:Program) (rows:List (List Bool)) (r a b:Nat):Nat→List Oper→Bool
  | _,[]=>true
  | j,o::os=>(!isM P o.op||waits rows j r||waits rows r j||(Nat.ble a j&&Nat.blt j b))&&fst P rows r a b (j+1) os
noncomputable def drawOkX (P:Program) (all:List Oper) (r a b:Nat):Bool:=match rowsOf [] 0 all with
  | some rows=>pairs1 P all rows 0 all&&loadsOkX P all rows r a b 0 all
  | none=>false
theorem runD_step {call:Nat→List AV→St→CR} {d:Bool} {o:Oper} {l:List Oper} {tm tm':Tm} {s s':St} (h:stepO P call all n o tm s=.go tm' s'):runD P call d all n (o::l) tm s=runD P call d all n l tm' s':=by
  show stepK .no (fun v s=>@Bool.rec (fun _=>Out) .no (.ok (.pan v) tm s) (panOk P d all o l)) (runD P call d all n l) P call all n o tm s=_
  have h:stepK SO.no SO.pan SO.go P call all n o tm s=.go tm' s':=h
  unfold stepK at h ⊢
  cases hw:wantA all tm o with
  | none=>rw [hw] at h;cases h
  | some w =>
    rw [hw] at h
    have hput:∀ {v:AV} {s1:St},putK SO.no n tm v (fun tm=>SO.go tm s1) o.dst=.go tm' s'→putK Out.no n tm v (fun tm=>runD P call d all n l tm s1) o.dst=runD P call d all n l tm' s':=fun {v s1} e1=>by
      cases hd:o.dst with
      | none=>rw [hd] at e1;injection e1 with e3 e4;subst e3;subst e4;rfl
      | some d' =>
        rw [hd] at e1
        have e1:@Bool.rec (fun _=>SO) .no (SO.go (T.set tm (K.of d') v) s1) (Nat.ble (Nat.succ d') n)=_:=e1
        show @Bool.rec (fun _=>Out) .no (runD P call d all n l (T.set tm (K.of d') v) s1) (Nat.ble (Nat.succ d') n)=_
        cases hb:Nat.ble (Nat.succ d') n with
        | false=>rw [hb] at e1;cases e1
        | true=>rw [hb] at e1;injection e1 with e3 e4;subst e3;subst e4;rfl
    cases w with
    | false=>exact hput h
    | true =>
      have h:@CR.rec (fun _=>SO) (fun v s=>putK SO.no n tm v (fun tm=>SO.go tm s) o.dst) SO.pan SO.no (opQ o P call tm s)=_:=h
      show @CR.rec (fun _=>Out) (fun v s=>putK Out.no n tm v (fun tm=>runD P call d all n l tm s) o.dst) (fun v s=>@Bool.rec (fun _=>Out) .no (.ok (.pan v) tm s) (panOk P d all o l)) .no (opQ o P call tm s)=_
      cases ho:opQ o P call tm s with
      | ret v s1=>rw [ho] at h;exact hput h
      | pan v s1=>rw [ho] at h;cases h
      | no=>rw [ho] at h;cases h
theorem runD_pan {call:Nat→List AV→St→CR} {o:Oper} {l:List Oper} {tm:Tm} {s s':St} {u:AV} (h:stepO P call all n o tm s=.pan u s'):runD P call false all n (o::l) tm s=.ok (.pan u) tm s':=by
  show stepK .no (fun v s=>Out.ok (.pan v) tm s) (runD P call false all n l) P call all n o tm s=_
  have h:stepK SO.no SO.pan SO.go P call all n o tm s=.pan u s':=h
  unfold stepK at h ⊢
  cases hw:wantA all tm o with
  | none=>rw [hw] at h;cases h
  | some w =>
    rw [hw] at h
    have hput:∀ {v:AV} {s1:St},putK SO.no n tm v (fun tm=>SO.go tm s1) o.dst=.pan u s'→False:=fun {v s1} e1=>by
      cases hd:o.dst with
      | none=>rw [hd] at e1;cases e1
      | some d' =>
        rw [hd] at e1
        have e1:@Bool.rec (fun _=>SO) .no (SO.go (T.set tm (K.of d') v) s1) (Nat.ble (Nat.succ d') n)=_:=e1
        cases hb:Nat.ble (Nat.succ d') n<;>rw [hb] at e1<;>cases e1
    cases w with
    | false=>exact (hput h).elim
    | true =>
      have h:@CR.rec (fun _=>SO) (fun v s=>putK SO.no n tm v (fun tm=>SO.go tm s) o.dst) SO.pan SO.no (opQ o P call tm s)=_:=h
      show @CR.rec (fun _=>Out) (fun v s=>putK Out.no n tm v (fun tm=>runD P call false all n l tm s) o.dst) (fun v s=>Out.ok (.pan v) tm s) .no (opQ o P call tm s)=_
      cases ho:opQ o P call tm s with
      | ret v s1=>rw [ho] at h;exact (hput h).elim
      | pan v s1=>rw [ho] at h;injection h with h1 h2;subst h1;subst h2;rfl
      | no=>rw [ho] at h;cases h
theorem run_atX {call:Nat→List AV→St→CR}:∀(os:List Oper) (j:Nat) (tm tmj tm9:Tm) (s sj s9:St) (tr:List (Tm×St)) (v:Option AV) (e:Ex),j≤tr.length→runD P call false all n (os.take j) tm s=.ok e tmj sj→traceA P call all n os tm s=.ok tr v tm9 s9 →
    (j<tr.length→e=.nrm∧tr[j]?=some (tmj,sj))∧(j=tr.length→sj=s9)
  | [],j,tm,tmj,tm9,s,sj,s9,tr,v,e,hj,h,ht=>by
    injection ht with h1 h2 h3 h4
    subst h1
    have:j=0:=by simpa using hj
    subst this
    have h:Out.ok Ex.nrm tm s=.ok e tmj sj:=h
    injection h with _ _ h
    exact ⟨fun h=>by simp at h,fun _=>by rw [←h,←h4]⟩
  | o::os,0,tm,tmj,tm9,s,sj,s9,tr,v,e,hj,h,ht=>by
    have h:Out.ok Ex.nrm tm s=.ok e tmj sj:=h
    injection h with h1 h2 h3
    subst h1;subst h2;subst h3
    rcases trace_cases ht with ⟨tm',s',tr',-,-,rfl⟩|⟨u,-,-,-,rfl⟩
    · exact ⟨fun _=>⟨rfl,rfl⟩,fun h=>by simp at h⟩
    · exact ⟨fun _=>⟨rfl,rfl⟩,fun h=>by simp at h⟩
  | o::os,j+1,tm,tmj,tm9,s,sj,s9,tr,v,e,hj,h,ht=>by
    have h:runD P call false all n (o::os.take j) tm s=.ok e tmj sj:=h
    rcases trace_cases ht with ⟨tm',s',tr',h3,h4,rfl⟩|⟨u,h3,-,-,rfl⟩
    · rw [runD_step h3] at h
      obtain ⟨q1,q2⟩:=run_atX os j tm' tmj tm9 s' sj s9 tr' v e (by simpa using hj) h h4
      refine ⟨fun hl=>?_,fun hl=>q2 (by simpa using hl)⟩
      obtain ⟨e1,e2⟩:=q1 (by simpa using hl)
      exact ⟨e1,by rw [List.getElem?_cons_succ];exact e2⟩
    · rw [runD_pan h3] at h
      injection h with e1 e2 e3
      have:j=0:=by simpa using hj
      subst this
      exact ⟨fun hl=>by simp at hl,fun _=>e3.symm⟩
theorem heldByX_ok {rows:List (List Bool)} {r a b:Nat} {t:TypeId} {p:K×Nat} {v:AV} {s9:St} (hv:sameA v v=true):∀(os:List Oper) (j:Nat) (tr:List (Tm×St)),loadsOkX.fst P rows r a b j os=true→(∀k,a≤j+k→j+k≤b→k≤tr.length→loadAt P t (stAt tr s9 k).hp p=some v∧hasAt (stAt tr s9 k).hp p.1=true)→heldBy P rows r t p v j os tr s9=true
  | [],j,tr,h,_=>by cases tr<;>rfl
  | o::os,j,[],h,_=>rfl
  | o::os,j,(tm,s)::tr,h,hk=>by
    simp only [loadsOkX.fst,Bool.and_eq_true,Bool.or_eq_true] at h
    have hrec:=heldByX_ok hv os (j+1) tr h.2 fun k h1 h2 h3=>by
      have:=hk (k+1) (by omega) (by omega) (by simp;omega)
      unfold stAt at this ⊢
      rw [List.getElem?_cons_succ] at this
      exact this
    have key:∀s1,stAt ((tm,s)::tr) s9 1=s1→(!isM P o.op||waits rows j r||waits rows r j||(keptAt P s.hp t p v&&(keptAt P s1.hp t p v&&hasAt s.hp p.1==hasAt s1.hp p.1)))=true:=fun s1 e1=>by
      rcases h.1 with ((h1|h1)|h1)|h1
      · rw [h1];rfl
      · rw [h1];simp
      · rw [h1];simp
      · have ha:a≤j:=by simpa using Nat.le_of_ble_eq_true h1.1
        have hb:j<b:=by simpa [Nat.blt_eq] using h1.2
        have k0:=hk 0 (by omega) (by omega) (by simp)
        have k1:=hk 1 (by omega) (by omega) (by simp)
        have e0:stAt ((tm,s)::tr) s9 0=s:=rfl
        rw [e0] at k0
        rw [e1] at k1
        have q0:keptAt P s.hp t p v=true:=by unfold keptAt;rw [k0.1];exact hv
        have q1:keptAt P s1.hp t p v=true:=by unfold keptAt;rw [k1.1];exact hv
        rw [q0,q1,k0.2,k1.2];simp
    cases tr with
    | nil =>
      have:=key s9 rfl
      simp only [heldBy]
      rw [this]
      all_goals exact hrec
    | cons y tr =>
      have:=key y.2 rfl
      simp only [heldBy]
      rw [this];exact hrec
theorem heldAllX_ok {call:Nat→List AV→St→CR} {rows:List (List Bool)} {r a b:Nat} {tr0:List (Tm×St)} {s9:St} {tm9:Tm} {v:Option AV}:∀(os:List Oper) (tr:List (Tm×St)) (tm:Tm) (s:St) (i:Nat),traceA P call all n os tm s=.ok tr v tm9 s9→LastM P os tr v→loadsOkX P all rows r a b i os=true →
    (∀o x,i≤r→os[r-i]?=some o→tr[r-i]?=some x→wantA all x.1 o=some true→∃t p u,readAt o.op x.1=some (t,p)∧loadAt P t x.2.hp p=some u∧(loadsOkX.fst P rows r a b 0 all=true→heldBy P rows r t p u 0 all tr0 s9=true))→heldAll P all rows tr0 s9 i os tr=true
  | [],tr,tm,s,i,h,_,_,_=>by rfl
  | o::os,tr,tm,s,i,h,hm,hl,hx=>by
    simp only [loadsOkX,Bool.and_eq_true] at hl
    rcases trace_cases h with ⟨tm',s',tr',h1,h2,rfl⟩|⟨u,h1,rfl,rfl,rfl⟩
    · have hh:=heldAllX_ok os tr' tm' s' (i+1) h2 (hm.tail h2) hl.2 (fun o' x hi ho hx' hw=>by
        refine hx o' x (by omega) ?_ ?_ hw
        · rw [show r-i=(r-(i+1))+1 by omega,List.getElem?_cons_succ];exact ho
        · rw [show r-i=(r-(i+1))+1 by omega,List.getElem?_cons_succ];exact hx')
      cases hc:cls P o.op with
      | p=>simp only [heldAll,hc];exact hh
      | f=>simp only [heldAll,hc];exact hh
      | m=>simp only [heldAll,hc];exact hh
      | r =>
        have hl:=hl.1
        rw [hc] at hl
        simp only [Bool.or_eq_true,Bool.and_eq_true] at hl
        obtain ⟨w,hw,hop⟩:=stepG_go h1
        simp only [heldAll,hc,hw]
        by_cases hwt:w=true
        case neg =>
          simp only [Bool.not_eq_true] at hwt
          rw [hwt]
          simpa using hh
        case pos =>
          obtain ⟨v1,s1,h4⟩:=hop hwt
          rw [hwt] at hw ⊢
          simp only
          rcases hl with ⟨hir,hl⟩|hl
          · have hir:i=r:=Nat.beq_eq.mp hir
            subst hir
            obtain ⟨t,p,u,q1,q2,q3⟩:=hx o (tm,s) (Nat.le_refl _) (by simp) (by simp) hw
            simp only [q1,q2,q3 hl]
            exact hh
          · obtain ⟨t,a',ho⟩:=cls_load hc
            have h4:=(opQ_not (P:=P) (o:=o) (by rw [hc];intro e;cases e) call tm s).symm.trans h4
            rw [ho] at h4 ⊢
            have h4:ofO (opLoad P t (ev tm a') s) s=.ret v1 s1:=h4
            unfold opLoad at h4
            simp only [readAt]
            cases hp:optK asPtr (ev tm a') with
            | none=>rw [hp] at h4;cases h4
            | some p =>
              rw [hp] at h4
              have h4:ofO (loadAt P t s.hp p) s=.ret v1 s1:=h4
              simp only
              cases hv:loadAt P t s.hp p with
              | none=>rw [hv] at h4;cases h4
              | some v2=>simp only [heldBy_ok all 0 tr0 hl];exact hh
    · have hc:cls P o.op=.m:=by
        rcases hm with hm|hm
        · cases hm
        · have:=hm o (by simp)
          unfold isM at this
          cases hc:cls P o.op<;>rw [hc] at this<;>first|rfl|cases this
      simp only [heldAll,hc]
      cases os<;>rfl
theorem fltX_ok {call:Nat→List AV→St→CR} {rows:List (List Bool)} {r a b:Nat} {s9:St} {tm9:Tm} {v:Option AV}:∀(os:List Oper) (tr:List (Tm×St)) (tm:Tm) (s:St) (i:Nat) (seen:List (Tm×St)),traceA P call all n os tm s=.ok tr v tm9 s9→loadsOkX P all rows r a b i os=true→fltOk P seen os tr=true
  | [],tr,tm,s,i,seen,h,_=>by injection h with h1;subst h1;rfl
  | o::os,tr,tm,s,i,seen,h,hl=>by
    simp only [loadsOkX,Bool.and_eq_true] at hl
    rcases trace_cases h with ⟨tm',s',tr',h1,h2,rfl⟩|⟨u,h1,rfl,rfl,rfl⟩
    · have hh:=fltX_ok os tr' tm' s' (i+1) ((tm,s)::seen) h2 hl.2
      cases hc:cls P o.op with
      | f=>rw [hc] at hl;exact absurd hl.1 (by simp)
      | p=>simp only [fltOk,hc];exact hh
      | r=>simp only [fltOk,hc];exact hh
      | m=>simp only [fltOk,hc];exact hh
    · cases hc:cls P o.op with
      | f=>rw [hc] at hl;exact absurd hl.1 (by simp)
      | p=>simp only [fltOk,hc];cases os<;>rfl
      | r=>simp only [fltOk,hc];cases os<;>rfl
      | m=>simp only [fltOk,hc];cases os<;>rfl
theorem W.drawLD {o0:Oper} (ops:List Oper) {tx:Nat} {t:TypeId} {i0:K} {q:Nat} {v:AV} (r a b:Nat) (hs:drawOkX P ops r a b=true) (tb:T TI) (hT:TabOk P tb) (ho0:getL ops r=some o0) (hop:o0.op=.load t (.tmp tx)) (hv:sameA v v=true)
    (hptr:W P g n V [.tmp tx] [.o false ops (ops.take r)] .nrm Γ Δ fun o Δ'=>o=.ret (.ptr (some (i0,q)))∧Hold tb i0 t q v Δ')
    (hpre:∀j,a≤j→j≤b→W P g n V [] [.o false ops (ops.take j)] .nrm Γ Δ fun _ Δ'=>Hold tb i0 t q v Δ')
    (h:W P g n V rs (.o true ops ops::st) .nrm Γ Δ Q):W P g n V rs (.d ops::st) .nrm Γ Δ Q:=fun F s tm hM hT'=>by
  obtain ⟨o,Δ',s',h1,h2,out,⟨m,⟨k1,h3⟩,h4⟩,h5⟩:=h F s tm hM hT'
  have hold:∀ {F:K→Option Bk} {Δ1:Dm} {s1:St},Mem V F Δ1 s1→Hold tb i0 t q v Δ1→loadAt P t s1.hp (i0,q)=some v∧hasAt s1.hp i0=true:=fun {F Δ1 s1} hM1 hH=>by
    obtain ⟨bk,cs,q1,q2,q3⟩:=hH
    have hg:=hM1.own _ q1
    constructor
    · show optK (fun l=>partA P t l q) (cellsAt s1.hp i0)=_
      have:cellsAt s1.hp i0=some cs:=by unfold cellsAt;rw [hg];exact q2
      rw [this];exact partG_ok hT q3
    · unfold hasAt;rw [hg]
  -- (the beginnings come to their ends)
  have beg:∀(rs0:List ResultVar) (j:Nat) (Q0:RO→Dm→Prop),W P g n V rs0 [.o false ops (ops.take j)] .nrm Γ Δ Q0→∃k2,∀k,k2≤k→∃e tmj sj o Δj,runD P (callA P g (exec P g k)) false ops n (ops.take j) tm s=.ok e tmj sj∧Q0 o Δj∧Mem V F Δj sj∧fin P rs0 (.ok e tmj sj)=o.cr sj:=fun rs0 j Q0 hW=>by
    obtain ⟨o,Δj,s2,q2,q3,out,⟨m,⟨k0,q4⟩,q5⟩,q6⟩:=hW F s tm hM hT'
    have q5:m=out:=q5
    subst q5
    refine ⟨k0,fun k hk=>?_⟩
    have q4:runD P (callA P g (exec P g k)) false ops n (ops.take j) tm s=m:=q4 k hk
    rw [q4]
    cases m with
    | no=>cases o<;>cases q6
    | ok e tmx sx =>
      have:sx=s2:=by
        cases e with
        | nrm =>
          have q6:(match resA P tmx sx rs0 with|some vs=>CR.ret (oneOr vs) sx|none=>.no)=o.cr s2:=q6
          split at q6
          · cases o with
            | ret u=>injection q6
            | pan u=>cases q6
          · cases o<;>cases q6
        | ret =>
          have q6:(match resA P tmx sx rs0 with|some vs=>CR.ret (oneOr vs) sx|none=>.no)=o.cr s2:=q6
          split at q6
          · cases o with
            | ret u=>injection q6
            | pan u=>cases q6
          · cases o<;>cases q6
        | pan u =>
          have q6:CR.pan u sx=o.cr s2:=q6
          cases o with
          | ret w=>cases q6
          | pan w=>injection q6
        | exit _=>cases o<;>cases q6
        | goto _=>cases o<;>cases q6
      subst this
      exact ⟨e,tmx,sx,o,Δj,rfl,q2,q3,q6⟩
  have hall:∀c,∃k2,∀k,k2≤k→∀j,a≤j→j≤b→j≤c→∃e tmj sj,runD P (callA P g (exec P g k)) false ops n (ops.take j) tm s=.ok e tmj sj∧loadAt P t sj.hp (i0,q)=some v∧hasAt sj.hp i0=true:=fun c=>by
    have one:∀j,a≤j→j≤b→∃k2,∀k,k2≤k→∃e tmj sj,runD P (callA P g (exec P g k)) false ops n (ops.take j) tm s=.ok e tmj sj∧loadAt P t sj.hp (i0,q)=some v∧hasAt sj.hp i0=true:=fun j hj hjb=>by
      obtain ⟨k2,hk2⟩:=beg [] j _ (hpre j hj hjb)
      refine ⟨k2,fun k hk=>?_⟩
      obtain ⟨e,tmj,sj,o,Δj,q1,q2,q3,-⟩:=hk2 k hk
      exact ⟨e,tmj,sj,q1,hold q3 q2⟩
    induction c with
    | zero =>
      by_cases h0:a≤0∧0≤b
      · obtain ⟨k2,hk2⟩:=one 0 h0.1 h0.2
        refine ⟨k2,fun k hk j hj hjb hjc=>?_⟩
        obtain rfl:j=0:=by omega
        exact hk2 k hk
      · exact ⟨0,fun k hk j hj hjb hjc=>absurd ⟨by omega,by omega⟩ h0⟩
    | succ c ih =>
      obtain ⟨k2,hk2⟩:=ih
      by_cases hb:a≤c+1∧c+1≤b
      · obtain ⟨k3,hk3⟩:=one (c+1) hb.1 hb.2
        refine ⟨k2+k3,fun k hk j hj hjb hjc=>?_⟩
        by_cases e:j≤c
        · exact hk2 k (by omega) j hj hjb e
        · obtain rfl:j=c+1:=by omega
          exact hk3 k (by omega)
      · refine ⟨k2,fun k hk j hj hjb hjc=>hk2 k hk j hj hjb ?_⟩
        by_cases e:j=c+1
        · exact absurd ⟨by omega,by omega⟩ hb
        · omega
  obtain ⟨k2,hk2⟩:=hall b
  obtain ⟨k3,hk3⟩:=beg [.tmp tx] r _ hptr
  refine ⟨o,Δ',s',h1,h2,out,⟨m,⟨k1+k2+k3+1,fun k hk=>?_⟩,h4⟩,h5⟩
  obtain ⟨j,rfl,hj⟩:=le_same hk
  have h3:runD P (callA P g (exec P g j)) true ops n ops tm s=m:=h3 j (by omega)
  have hk2:=hk2 j (by omega)
  obtain ⟨er,tmr,sr,or',Δr,r1,⟨rfl,r2⟩,r3,r4⟩:=hk3 j (by omega)
  show drawOps1 P (callA P g (exec P g j)) ops n tm s=m
  cases m with
  | no =>
    exfalso
    have hno:∀(st:List Fr) (r:Out),RnS P g n st .no r→r=.no:=fun st=>by
      induction st with
      | nil=>intro r h;exact h.symm
      | cons f st ih =>
        intro r h
        obtain ⟨m,⟨k0,h5⟩,h6⟩:=h
        have:m=.no:=by rw [←h5 k0 (Nat.le_refl _)];cases f<;>rfl
        subst this
        exact ih r h6
    rw [hno st out h4] at h5
    cases o<;>cases h5
  | ok e tm9 s9 =>
    obtain ⟨tr,u,h6,h7⟩:=runD_trace ops tm s e tm9 s9 h3
    unfold drawOkX at hs
    split at hs
    case h_2=>cases hs
    rename_i rows hrows
    simp only [Bool.and_eq_true] at hs
    have hm:LastM P ops tr u:=by
      rcases h7 with ⟨-,rfl⟩|⟨w,-,rfl,o',l,h8,h9,h10⟩
      · exact .inl rfl
      · refine .inr fun o'' ho'=>?_
        rw [h10] at ho'
        injection ho' with ho';subst ho'
        simp only [panOk,hrows,Bool.and_eq_true] at h8
        exact h8.2.2
    have hdyn:∀k,a≤k→k≤b→k≤tr.length→loadAt P t (stAt tr s9 k).hp (i0,q)=some v∧hasAt (stAt tr s9 k).hp i0=true:=fun k ha hb hk=>by
      obtain ⟨e',tmj,sj,q1,q2⟩:=hk2 k ha hb hb
      obtain ⟨p1,p2⟩:=run_atX ops k tm tmj tm9 s sj s9 tr u e' hk q1 h6
      by_cases hlt:k<tr.length
      · have:=(p1 hlt).2
        unfold stAt;rw [this];exact q2
      · have hke:k=tr.length:=by omega
        have:=p2 hke
        unfold stAt
        rw [List.getElem?_eq_none (by omega),←this];exact q2
    have hH:heldAll P ops rows tr s9 0 ops tr=true:=by
      refine heldAllX_ok ops tr tm s 0 h6 hm hs.2 fun o' x hi ho hx hw=>?_
      rw [Nat.sub_zero] at ho hx
      rw [getL_eq] at ho0
      rw [ho0] at ho
      injection ho with ho;subst ho
      have hlt:r<tr.length:=(List.getElem?_eq_some_iff.1 hx).1
      obtain ⟨p1,-⟩:=run_atX ops r tm tmr tm9 s sr s9 tr u er (by omega) r1 h6
      obtain ⟨rfl,p2⟩:=p1 hlt
      rw [p2] at hx
      injection hx with hx;subst hx
      have hev:T.get tmr (K.of tx)=some (.ptr (some (i0,q))):=by
        have r4:(match (match T.get tmr (K.of tx),(some []:Option (List AV)) with|some v,some vs=>some (v::vs)|_,_=>none) with|some vs=>CR.ret (oneOr vs) sr|none=>.no)=CR.ret (.ptr (some (i0,q))) sr:=r4
        cases hx:T.get tmr (K.of tx) with
        | none=>rw [hx] at r4;cases r4
        | some w =>
          rw [hx] at r4
          injection r4 with r4
          rw [show w=AV.ptr (some (i0,q)) from r4]
      refine ⟨t,(i0,q),v,?_,(hold r3 r2).1,fun hf=>heldByX_ok hv _ 0 _ hf fun k k1 k2 k3=>hdyn k (by omega) (by omega) k3⟩
      rw [hop]
      have:ev tmr (.tmp tx)=some (.ptr (some (i0,q))):=hev
      simp only [readAt,this];rfl
    have hF:fltOk P [] ops tr=true:=fltX_ok ops tr tm s 0 [] h6 hs.2
    unfold drawOps1
    simp only [h6,hrows,hs.1,hH,hF,Bool.and_self]
    rcases h7 with ⟨rfl,rfl⟩|⟨w,rfl,rfl,o',l,h8,h9,h10⟩
    · rfl
    · simp only [panOk,hrows,Bool.and_eq_true] at h8
      have e1:ops.length-l.length-1=tr.length-1:=by omega
      rw [e1] at h8
      have hgl:getL ops (tr.length-1)=some o':=by rw [getL_eq];exact h10
      simp only [h8.1,hgl,h8.2.2,Bool.and_self]
theorem W.drawL {i:Nat} {o0:Oper} (ops:Array Oper) {tx:Nat} {t:TypeId} {i0:K} {q:Nat} {v:AV} (r a b:Nat) (hs:drawOkX P ops.toList r a b=true) (tb:T TI) (hT:TabOk P tb) (ho0:getL ops.toList r=some o0) (hop:o0.op=.load t (.tmp tx)) (hv:sameA v v=true)
    (hptr:W P g n V [.tmp tx] [.o false ops.toList (ops.toList.take r)] .nrm Γ Δ fun o Δ'=>o=.ret (.ptr (some (i0,q)))∧Hold tb i0 t q v Δ')
    (hpre:∀j,a≤j→j≤b→W P g n V [] [.o false ops.toList (ops.toList.take j)] .nrm Γ Δ fun _ Δ'=>Hold tb i0 t q v Δ')
    (h:W P g n V rs (.o true ops.toList ops.toList::st) .nrm Γ Δ Q):W P g n V rs (.c (.region i ops true)::st) .nrm Γ Δ Q:=W.reg (W.drawLD ops.toList r a b hs tb hT ho0 hop hv hptr hpre h)
theorem noneAt_of {k:K}:∀(l:List (Tm×St)),(∀x∈l,T.get x.2.hp k=none)→noneAt k l=true
  | [],_=>rfl
  | x::l,h=>by
    simp only [noneAt]
    have h1:=h x (by simp)
    have h2:=noneAt_of l fun y hy=>h y (by simp [hy])
    unfold hasAt at *
    simp [h1,h2]
end
end Go.Proofs.YtoegffiapnnkiaaGreat.Abs
