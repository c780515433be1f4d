/- A logic over the abstract machine: more calls, texts and their bytes, regions whose first load waits for nothing. No condition but those that each theorem names. -/
import Derived.Test.YtoegffiapnnkiaaGreatWS
namespace Go.Proofs.YtoegffiapnnkiaaGreat.Abs
open Go
set_option linter.unusedVariables false
set_option linter.unusedSimpArgs false
set_option maxRecDepth 100000
theorem W.callV {P:Program} {g:Cg} {n:Nat} {V:K→Option (List AV)} {rs:List ResultVar} {st:List Fr} {Γ:Gm} {Δ:Dm} {Q:RO→Dm→Prop} {b:Bool} {all rest:List Oper} {ty:TypeId} {pos:String} {after:Array Edge} {gd:Option (Nat×Bool)} {d:Nat} {φ:AV→Prop} {fx:Operand} {xs:Array Operand} {tys:Array TypeId} {f:Nat} {first caps vs:List AV} (hf:eg Γ fx=some (.func f first caps)) (ha:egs Γ xs.toList=some vs)
    (hn:Nat.ble (d+1) n=true) (hw:wantG all Γ ⟨some d,.call ⟨.value fx,xs,tys⟩,ty,pos,after,gd⟩=some true)
    (hc:Cl P g V f (first++vs++caps) [] fun o _=>∃v,o=.ret v∧φ v)
    (h:∀v,φ v→W P g n V rs (.o b all rest::st) .nrm ((d,v)::Γ) Δ Q):W P g n V rs (.o b all (⟨some d,.call ⟨.value fx,xs,tys⟩,ty,pos,after,gd⟩::rest)::st) .nrm Γ Δ Q :=
  W.callR (Δ:=[]) (R:=Δ) hf ha hn hw hc (fun _ _ h=>by obtain ⟨_,h,-⟩:=h;cases h) fun u Δ' hq F s tm hM hG=>by
    obtain ⟨v,hv,hφ⟩:=hq
    injection hv with hv;subst hv
    exact h u hφ F s tm (hM.drop (List.sublist_append_right _ _)) hG
section
variable {P:Program} {g:Cg} {n:Nat} {V:K→Option (List AV)} {rs:List ResultVar} {st:List Fr} {Γ:Gm} {Δ:Dm} {Q:RO→Dm→Prop} {b:Bool} {all rest:List Oper} {ty:TypeId} {pos:String} {after:Array Edge} {gd:Option (Nat×Bool)} {d:Nat}
theorem W.callLP {fx:Operand} {xs:Array Operand} {tys:Array TypeId} {f:Nat} {first caps vs:List AV} {v:AV} (hf:eg Γ fx=some (.func f first caps)) (ha:egs Γ xs.toList=some vs)
    (hn:Nat.ble (d+1) n=true) (hw:wantG all Γ ⟨some d,.call ⟨.value fx,xs,tys⟩,ty,pos,after,gd⟩=some true)
    (hc:Cl P g (withV V Δ) f (first++vs++caps) [] fun o _=>o=.ret v)
    (h:W P g n V rs (.o b all rest::st) .nrm ((d,v)::Γ) Δ Q):W P g n V rs (.o b all (⟨some d,.call ⟨.value fx,xs,tys⟩,ty,pos,after,gd⟩::rest)::st) .nrm Γ Δ Q :=
  W.callL hf ha hn hw hc (fun _ _ h=>by cases h) fun u Δ' hq F s tm hM hG=>by
    injection hq with hq;subst hq
    exact h F s tm (hM.drop (List.sublist_append_right _ _)) hG
theorem W.callN {α:Type} {fx:Operand} {xs:Array Operand} {tys:Array TypeId} {f:Nat} {first caps vs:List AV} {val:α→AV} {φ:α→Dm→Prop} (hf:eg Γ fx=some (.func f first caps)) (ha:egs Γ xs.toList=some vs)
    (hn:Nat.ble (d+1) n=true) (hw:wantG all Γ ⟨some d,.call ⟨.value fx,xs,tys⟩,ty,pos,after,gd⟩=some true)
    (hc:Cl P g V f (first++vs++caps) [] fun o Δ'=>∃a,o=.ret (val a)∧φ a Δ')
    (h:∀a Δ',φ a Δ'→W P g n V rs (.o b all rest::st) .nrm ((d,val a)::Γ) (Δ++Δ') Q):W P g n V rs (.o b all (⟨some d,.call ⟨.value fx,xs,tys⟩,ty,pos,after,gd⟩::rest)::st) .nrm Γ Δ Q :=
  W.callR (Δ:=[]) (R:=Δ) hf ha hn hw hc (fun _ _ h=>by obtain ⟨_,h,-⟩:=h;cases h) fun u Δ' hq=>by
    obtain ⟨a,hv,hφ⟩:=hq
    injection hv with hv;subst hv
    exact W.perm _ List.perm_append_comm (h a Δ' hφ)
end
section
variable {P:Program} {g:Cg} {n:Nat} {V:K→Option (List AV)} {rs:List ResultVar} {st:List Fr} {Γ:Gm} {Δ:Dm} {Q:RO→Dm→Prop} {b:Bool} {all rest:List Oper} {ty:TypeId} {pos:String} {after:Array Edge} {gd:Option (Nat×Bool)} {d:Nat} {x:Operand} {tb:T TI}
variable {t u el:Nat} {z1 z1' z5:Bool} {z2 z3 z2' z3' z6 z7:Nat} {z4 z4' z8:Option AV}
theorem bytesA_len (s:List Nat):(bytesA s).length=s.length:=by simp [bytesA]
theorem textA_bytes:∀(s:List Nat),(∀c∈s,c<256)→textA (bytesA s)=some s
  | [],_=>rfl
  | c::s,h=>by
    have hc:=h c (by simp)
    have:=textA_bytes s fun y hy=>h y (by simp [hy])
    show (match textA (bytesA s) with|some r=>some (((c%256:Nat):Int).toNat::r)|none=>none)=_
    rw [this]
    simp only [Int.toNat_natCast,Nat.mod_eq_of_lt hc]
theorem W.bytes (hT:TabOk P tb) {s:List Nat} (hx:eg Γ x=some (.str s)) (ht:ti tb t=some ⟨.str,z1,z2,z3,z4⟩) (hu:ti tb u=some ⟨.sl el,z1',z2',z3',z4'⟩) (he:ti tb el=some ⟨.int .u8,z5,z6,z7,z8⟩)
    (hn:Nat.ble (d+1) n=true) (hw:wantG all Γ ⟨some d,.convert t u x,ty,pos,after,gd⟩=some true)
    (h:∀i,W P g n V rs (.o b all rest::st) .nrm ((d,.slice (some (i,0)) s.length (.own 0))::Γ) ((i,.cells (bytesA s) el 1 false)::Δ) Q):W P g n V rs (.o b all (⟨some d,.convert t u x,ty,pos,after,gd⟩::rest)::st) .nrm Γ Δ Q :=
  W.op hw hn fun F s' tm hM hG=>⟨.slice (some (s'.nx,0)) s.length (.own 0),newB s' (.cells (bytesA s) el 1 false),(s'.nx,.cells (bytesA s) el 1 false)::Δ,⟨0,fun k _=>by
    show opConvS P t u (ev tm x) s'=_
    rw [hG.eg hx]
    simp only [opConvS,hT.str ht,hT.sl hu,opBytes,hT.int he,lenL_length];rfl⟩,hM.alloc trivial,h s'.nx⟩
theorem W.text (hT:TabOk P tb) (p:Nat) {s:List Nat} {i:K} {o m:Nat} {c:Cp} {bk:Bk} {cs l:List AV} (hx:eg Γ x=some (.slice (some (i,o)) m c)) (hΔ:getL Δ p=some (i,bk)) (hr:rdl bk=some cs) (ht:ti tb t=some ⟨.sl el,z1,z2,z3,z4⟩) (hu:ti tb u=some ⟨.str,z1',z2',z3',z4'⟩) (he:ti tb el=some ⟨.int .u8,z5,z6,z7,z8⟩)
    (hn:Nat.ble (d+1) n=true) (hw:wantG all Γ ⟨some d,.convert t u x,ty,pos,after,gd⟩=some true) (hs:subL cs o m=some l) (hl:textA l=some s)
    (h:W P g n V rs (.o b all rest::st) .nrm ((d,.str s)::Γ) Δ Q):W P g n V rs (.o b all (⟨some d,.convert t u x,ty,pos,after,gd⟩::rest)::st) .nrm Γ Δ Q :=
  W.op hw hn fun F s' tm hM hG=>⟨.str s,s',Δ,⟨0,fun k _=>by
    show opConvS P t u (ev tm x) s'=_
    have hc:cellsAt s'.hp i=some cs:=by unfold cellsAt;rw [hM.own _ (getL_mem hΔ)];exact hr
    rw [hG.eg hx]
    simp only [opConvS,hT.sl ht,hT.str hu,opText,hT.int he,hc,hs,hl];rfl⟩,hM,h⟩
theorem sameN_refl:∀a:List Nat,sameN a a=true
  | []=>by simp [sameN]
  | v::l=>by simp [sameN,sameN_refl l]
theorem sameStr (s:List Nat):sameA (.str s) (.str s)=true:=by simp [sameA,sameN_refl s]
noncomputable def loadsOk1 (P:Program) (all:List Oper) (rows:List (List Bool)) (a b:Nat):Bool:=match all with
  | []=>false
  | o::os=>(match cls P o.op with|.r=>fst P rows a b 0 all|_=>false)&&loadsOk P all rows 1 os
where
  fst (P:Program) (rows:List (List Bool)) (a b:Nat):Nat→List Oper→Bool
  | _,[]=>true
  | j,o::os=>(!isM P o.op||waits rows j 0||waits rows 0 j||(Nat.ble a j&&Nat.blt j b))&&fst P rows a b (j+1) os
noncomputable def drawOk1 (P:Program) (all:List Oper) (a b:Nat):Bool:=match rowsOf [] 0 all with
  | some rows=>pairs1 P all rows 0 all&&loadsOk1 P all rows a b
  | none=>false
def stAt (tr:List (Tm×St)) (s9:St) (j:Nat):St:=match tr[j]? with
  | some x=>x.2
  | none=>s9
theorem trace_len {call:Nat→List AV→St→CR}:∀(os:List Oper) (tm tm9:Tm) (s s9:St) (tr:List (Tm×St)) (v:Option AV),traceA P call all n os tm s=.ok tr v tm9 s9→tr.length≤os.length
  | [],tm,tm9,s,s9,tr,v,h=>by injection h with h1;subst h1;simp
  | o::os,tm,tm9,s,s9,tr,v,h=>by
    rcases trace_cases h with ⟨tm',s',tr',-,h2,rfl⟩|⟨u,-,-,-,rfl⟩
    · have:=trace_len os tm' tm9 s' s9 tr' v h2;simp;omega
    · simp
theorem runD_go {call:Nat→List AV→St→CR} {o:Oper} {l:List Oper} {tm tm9:Tm} {s s9:St} (h:runD P call true all n (o::l) tm s=.ok .nrm tm9 s9):∃tm' s',stepO P call all n o tm s=.go tm' s'∧runD P call true all n l tm' s'=.ok .nrm tm9 s9:=by
  obtain ⟨tr,v,h1,h2⟩:=runD_trace (o::l) tm s .nrm tm9 s9 h
  rcases h2 with ⟨-,rfl⟩|⟨u,hu,-⟩
  · rcases trace_cases h1 with ⟨tm',s',tr',h3,-,-⟩|⟨u,-,-,hu,-⟩
    · refine ⟨tm',s',h3,?_⟩
      have h:stepK .no (fun v s=>@Bool.rec (fun _=>Out) .no (.ok (.pan v) tm s) (panOk P true all o l)) (runD P call true all n l) P call all n o tm s=.ok .nrm tm9 s9:=h
      have h3:stepK SO.no SO.pan SO.go P call all n o tm s=.go tm' s':=h3
      unfold stepK at h h3
      cases hw:wantA all tm o with
      | none=>rw [hw] at h;cases h
      | some w =>
        rw [hw] at h h3
        have hput:∀ {v:AV} {s1:St},putK SO.no n tm v (fun tm=>SO.go tm s1) o.dst=.go tm' s'→putK Out.no n tm v (fun tm=>runD P call true all n l tm s1) o.dst=.ok .nrm tm9 s9→runD P call true all n l tm' s'=.ok .nrm tm9 s9:=fun {v s1} e1 e2=>by
          cases hd:o.dst with
          | none=>rw [hd] at e1 e2;injection e1 with e3 e4;subst e3;subst e4;exact e2
          | some d =>
            rw [hd] at e1 e2
            have e1:@Bool.rec (fun _=>SO) .no (SO.go (T.set tm (K.of d) v) s1) (Nat.ble (Nat.succ d) n)=_:=e1
            have e2:@Bool.rec (fun _=>Out) .no (runD P call true all n l (T.set tm (K.of d) v) s1) (Nat.ble (Nat.succ d) n)=_:=e2
            cases hb:Nat.ble (Nat.succ d) n with
            | false=>rw [hb] at e2;cases e2
            | true=>rw [hb] at e1 e2;injection e1 with e3 e4;subst e3;subst e4;exact e2
        cases w with
        | false=>exact hput h3 h
        | true =>
          have h:@CR.rec (fun _=>Out) (fun v s=>putK Out.no n tm v (fun tm=>runD P call true all n l tm s) o.dst) (fun v s=>@Bool.rec (fun _=>Out) .no (.ok (.pan v) tm s) (panOk P true all o l)) .no (opQ o P call tm s)=_:=h
          have h3:@CR.rec (fun _=>SO) (fun v s=>putK SO.no n tm v (fun tm=>SO.go tm s) o.dst) SO.pan SO.no (opQ o P call tm s)=_:=h3
          cases ho:opQ o P call tm s with
          | ret v s1=>rw [ho] at h h3;exact hput h3 h
          | pan v s1=>rw [ho] at h3;cases h3
          | no=>rw [ho] at h;cases h
    · cases hu
  · cases hu
theorem run_at {call:Nat→List AV→St→CR}:∀(os:List Oper) (j:Nat) (tm tmj tm9:Tm) (s sj s9:St) (tr:List (Tm×St)) (v:Option AV),j≤tr.length→runD P call true all n (os.take j) tm s=.ok .nrm tmj sj→traceA P call all n os tm s=.ok tr v tm9 s9→stAt tr s9 j=sj∨(j=tr.length∧v≠none)
  | [],j,tm,tmj,tm9,s,sj,s9,tr,v,hj,h,ht=>by
    injection ht with h1 h2 h3 h4
    subst h1
    have:j=0:=by simpa using hj
    subst this
    have h:Out.ok Ex.nrm tm s=.ok .nrm tmj sj:=h
    injection h with _ _ h;rw [←h,←h4];exact .inl rfl
  | o::os,0,tm,tmj,tm9,s,sj,s9,tr,v,hj,h,ht=>by
    have h:Out.ok Ex.nrm tm s=.ok .nrm tmj sj:=h
    injection h with _ _ h
    subst h
    rcases trace_cases ht with ⟨tm',s',tr',-,-,rfl⟩|⟨u,-,-,-,rfl⟩<;>exact .inl rfl
  | o::os,j+1,tm,tmj,tm9,s,sj,s9,tr,v,hj,h,ht=>by
    have h:runD P call true all n (o::os.take j) tm s=.ok .nrm tmj sj:=h
    obtain ⟨tm1,s1,h1,h2⟩:=runD_go h
    rcases trace_cases ht with ⟨tm',s',tr',h3,h4,rfl⟩|⟨u,h3,-,rfl,rfl⟩
    · rw [h1] at h3
      injection h3 with e1 e2;subst e1;subst e2
      rcases run_at os j tm1 tmj tm9 s1 sj s9 tr' v (by simpa using hj) h2 h4 with hh|⟨hh,hv⟩
      · refine .inl ?_
        unfold stAt at hh ⊢
        rw [List.getElem?_cons_succ];exact hh
      · exact .inr ⟨by simp [hh],hv⟩
    · rw [h1] at h3;cases h3
theorem no_pan {call:Nat→List AV→St→CR}:∀(os:List Oper) (j:Nat) (tm tmj tm9:Tm) (s sj s9:St) (tr:List (Tm×St)) (v:AV),j=tr.length→runD P call true all n (os.take j) tm s=.ok .nrm tmj sj→traceA P call all n os tm s=.ok tr (some v) tm9 s9→False
  | [],j,tm,tmj,tm9,s,sj,s9,tr,v,hj,h,ht=>by injection ht with h1 h2;cases h2
  | o::os,0,tm,tmj,tm9,s,sj,s9,tr,v,hj,h,ht=>by
    have:=trace_pos ht
    omega
  | o::os,j+1,tm,tmj,tm9,s,sj,s9,tr,v,hj,h,ht=>by
    have h:runD P call true all n (o::os.take j) tm s=.ok .nrm tmj sj:=h
    obtain ⟨tm1,s1,h1,h2⟩:=runD_go h
    rcases trace_cases ht with ⟨tm',s',tr',h3,h4,rfl⟩|⟨u,h3,-,-,-⟩
    · rw [h1] at h3
      injection h3 with e1 e2;subst e1;subst e2
      exact no_pan os j tm1 tmj tm9 s1 sj s9 tr' v (by simpa using hj) h2 h4
    · rw [h1] at h3;cases h3
theorem heldBy1_ok {rows:List (List Bool)} {a b:Nat} {t:TypeId} {p:K×Nat} {v:AV} {s9:St} (hv:sameA v v=true):∀(os:List Oper) (j:Nat) (tr:List (Tm×St)),loadsOk1.fst P rows a b j os=true→(∀k,a≤j+k→j+k≤b→k≤tr.length→loadAt P t (stAt tr s9 k).hp p=some v∧hasAt (stAt tr s9 k).hp p.1=true)→heldBy P rows 0 t p v j os tr s9=true
  | [],j,tr,h,_=>by cases tr<;>rfl
  | o::os,j,[],h,_=>rfl
  | o::os,j,(tm,s)::tr,h,hk=>by
    simp only [loadsOk1.fst,Bool.and_eq_true,Bool.or_eq_true] at h
    have hrec:=heldBy1_ok hv os (j+1) tr h.2 fun k h1 h2 h3=>by
      have:=hk (k+1) (by omega) (by omega) (by simp;omega)
      unfold stAt at this ⊢
      rw [List.getElem?_cons_succ] at this
      exact this
    have key:∀s1,stAt ((tm,s)::tr) s9 1=s1→(!isM P o.op||waits rows j 0||waits rows 0 j||(keptAt P s.hp t p v&&(keptAt P s1.hp t p v&&hasAt s.hp p.1==hasAt s1.hp p.1)))=true:=fun s1 e1=>by
      rcases h.1 with ((h1|h1)|h1)|h1
      · rw [h1];rfl
      · rw [h1];simp
      · rw [h1];simp
      · have ha:a≤j:=by simpa using Nat.le_of_ble_eq_true h1.1
        have hb:j<b:=by simpa [Nat.blt_eq] using h1.2
        have k0:=hk 0 (by omega) (by omega) (by simp)
        have k1:=hk 1 (by omega) (by omega) (by simp)
        have e0:stAt ((tm,s)::tr) s9 0=s:=rfl
        rw [e0] at k0
        rw [e1] at k1
        have q0:keptAt P s.hp t p v=true:=by unfold keptAt;rw [k0.1];exact hv
        have q1:keptAt P s1.hp t p v=true:=by unfold keptAt;rw [k1.1];exact hv
        rw [q0,q1,k0.2,k1.2];simp
    cases tr with
    | nil =>
      have:=key s9 rfl
      simp only [heldBy]
      rw [this]
      all_goals exact hrec
    | cons y tr =>
      have:=key y.2 rfl
      simp only [heldBy]
      rw [this];exact hrec
theorem W.drawHD {o0:Oper} {os:Array Oper} (ops:List Oper) {x:Operand} {t:TypeId} {i0:K} {q p:Nat} {bk:Bk} {cs:List AV} {v:AV} (a b:Nat) (hs:drawOk1 P ops a b=true) (tb:T TI) (hT:TabOk P tb) (ho0:ops.head?=some o0) (hop:o0.op=.load t x) (hg:o0.guard=none)
    (hx:eg Γ x=some (.ptr (some (i0,q)))) (hΔ:getL Δ p=some (i0,bk)) (hr:rdl bk=some cs) (hp:partG tb t cs q=some v) (hv:sameA v v=true)
    (hpre:∀j,a≤j→j≤b→W P g n V [] [.o true ops (ops.take j)] .nrm Γ Δ fun o Δ'=>o=.ret (.tup [])∧(i0,bk)∈Δ')
    (h:W P g n V rs (.o true ops ops::st) .nrm Γ Δ Q):W P g n V rs (.d ops::st) .nrm Γ Δ Q:=fun F s tm hM hT'=>by
  obtain ⟨o,Δ',s',h1,h2,out,⟨m,⟨k1,h3⟩,h4⟩,h5⟩:=h F s tm hM hT'
  -- (from when on all the beginnings have come to their ends)
  have hall:∀c,a≤c→∃k2,∀k,k2≤k→∀j,a≤j→j≤b→j≤c→∃tmj sj,runD P (callA P g (exec P g k)) true ops n (ops.take j) tm s=.ok .nrm tmj sj∧T.get sj.hp i0=some bk:=fun c=>by
    have one:∀j,a≤j→j≤b→∃k2,∀k,k2≤k→∃tmj sj,runD P (callA P g (exec P g k)) true ops n (ops.take j) tm s=.ok .nrm tmj sj∧T.get sj.hp i0=some bk:=fun j hj hjb=>by
      obtain ⟨o,Δj,s2,⟨rfl,q2⟩,q3,out,⟨m,⟨k0,q4⟩,q5⟩,q6⟩:=hpre j hj hjb F s tm hM hT'
      have q5:m=out:=q5
      subst q5
      refine ⟨k0,fun k hk=>?_⟩
      have q4:runD P (callA P g (exec P g k)) true ops n (ops.take j) tm s=m:=q4 k hk
      rw [q4]
      have hnr:∀(k:Nat) tmx sx,runD P (callA P g (exec P g k)) true ops n (ops.take j) tm s≠.ok .ret tmx sx:=fun k tmx sx hh=>by
        obtain ⟨tr,v,-,⟨e,-⟩|⟨u,e,-⟩⟩:=runD_trace _ _ _ _ _ _ hh<;>cases e
      cases m with
      | no=>cases q6
      | ok e tmx sx =>
        cases e with
        | nrm =>
          have q6:CR.ret (oneOr []) sx=CR.ret (.tup []) s2:=q6
          injection q6 with _ q6;subst q6
          exact ⟨tmx,sx,rfl,q3.own _ q2⟩
        | ret=>exact absurd q4 (hnr k tmx sx)
        | pan u=>cases q6
        | exit _=>cases q6
        | goto _=>cases q6
    induction c with
    | zero =>
      intro hc
      by_cases h0:a≤0∧0≤b
      · obtain ⟨k2,hk2⟩:=one 0 h0.1 h0.2
        refine ⟨k2,fun k hk j hj hjb hjc=>?_⟩
        obtain rfl:j=0:=by omega
        exact hk2 k hk
      · exact ⟨0,fun k hk j hj hjb hjc=>absurd ⟨by omega,by omega⟩ h0⟩
    | succ c ih =>
      intro hc
      by_cases hac:a≤c
      · obtain ⟨k2,hk2⟩:=ih hac
        by_cases hb:c+1≤b
        · obtain ⟨k3,hk3⟩:=one (c+1) (by omega) hb
          refine ⟨k2+k3,fun k hk j hj hjb hjc=>?_⟩
          by_cases e:j≤c
          · exact hk2 k (by omega) j hj hjb e
          · obtain rfl:j=c+1:=by omega
            exact hk3 k (by omega)
        · exact ⟨k2,fun k hk j hj hjb hjc=>hk2 k hk j hj hjb (by omega)⟩
      · by_cases hb:c+1≤b
        · obtain ⟨k3,hk3⟩:=one (c+1) (by omega) hb
          refine ⟨k3,fun k hk j hj hjb hjc=>?_⟩
          obtain rfl:j=c+1:=by omega
          exact hk3 k hk
        · exact ⟨0,fun k hk j hj hjb hjc=>by omega⟩
  obtain ⟨k2,hk2⟩:=hall (a+b) (by omega)
  refine ⟨o,Δ',s',h1,h2,out,⟨m,⟨k1+k2+1,fun k hk=>?_⟩,h4⟩,h5⟩
  obtain ⟨j,rfl,hj⟩:=le_same hk
  have h3:runD P (callA P g (exec P g j)) true ops n ops tm s=m:=h3 j (by omega)
  have hk2:=hk2 j (by omega)
  show drawOps1 P (callA P g (exec P g j)) ops n tm s=m
  cases m with
  | no =>
    -- (then nothing comes to an end)
    exfalso
    have hno:∀(st:List Fr) (r:Out),RnS P g n st .no r→r=.no:=fun st=>by
      induction st with
      | nil=>intro r h;exact h.symm
      | cons f st ih =>
        intro r h
        obtain ⟨m,⟨k0,h5⟩,h6⟩:=h
        have:m=.no:=by rw [←h5 k0 (Nat.le_refl _)];cases f<;>rfl
        subst this
        exact ih r h6
    rw [hno st out h4] at h5
    cases o<;>cases h5
  | ok e tm9 s9 =>
    obtain ⟨tr,u,h6,h7⟩:=runD_trace ops tm s e tm9 s9 h3
    unfold drawOk1 at hs
    split at hs
    case h_2=>cases hs
    rename_i rows hrows
    simp only [Bool.and_eq_true] at hs
    have hlen:=trace_len _ _ _ _ _ _ _ h6
    cases hops:ops with
    | nil=>rw [hops] at ho0;cases ho0
    | cons o1 ol =>
      rw [hops] at ho0
      injection ho0 with ho0
      subst ho0
      rw [hops] at hs h6 hk2 h7 h3
      have hm:LastM P (o1::ol) tr u:=by
        rcases h7 with ⟨-,rfl⟩|⟨w,-,rfl,o',l,h8,h9,h10⟩
        · exact .inl rfl
        · refine .inr fun o'' ho'=>?_
          rw [h10] at ho'
          injection ho' with ho';subst ho'
          simp only [panOk,hops ▸ hrows,Bool.and_eq_true] at h8
          exact h8.2.2
      have hl1:=hs.2
      simp only [loadsOk1,Bool.and_eq_true] at hl1
      obtain ⟨hl0,hl2⟩:=hl1
      have hc0:cls P o1.op=.r:=by
        split at hl0
        · assumption
        · cases hl0
      rw [hc0] at hl0
      -- (what the first load reads)
      obtain ⟨tm1,s1,hgo⟩:∃tm1 s1,stepO P (callA P g (exec P g j)) (o1::ol) n o1 tm s=.go tm1 s1:=by
        rcases trace_cases h6 with ⟨tm',s',tr',q,-,-⟩|⟨w,q,-,-,-⟩
        · exact ⟨_,_,q⟩
        · exfalso
          unfold stepO stepK at q
          cases hw:wantA (o1::ol) tm o1 with
          | none=>rw [hw] at q;cases q
          | some ww =>
            rw [hw] at q
            cases ww with
            | false =>
              have q:putK SO.no n tm (.tup []) (fun tm=>SO.go tm s) o1.dst=.pan w s9:=q
              unfold putK at q
              cases hd:o1.dst with
              | none=>rw [hd] at q;cases q
              | some d =>
                rw [hd] at q
                have q:@Bool.rec (fun _=>SO) .no (SO.go _ s) (Nat.ble (Nat.succ d) n)=.pan w s9:=q
                cases hb:Nat.ble (Nat.succ d) n<;>rw [hb] at q<;>cases q
            | true =>
              have q:@CR.rec (fun _=>SO) (fun v s=>putK SO.no n tm v (fun tm=>SO.go tm s) o1.dst) SO.pan SO.no (opQ o1 P (callA P g (exec P g j)) tm s)=.pan w s9:=q
              rw [opQ_not (P:=P) (o:=o1) (by rw [hc0];intro e;cases e),hop] at q
              have e9:opA (.load t x) P (callA P g (exec P g j)) tm s=.ret v s:=load_ok hT hT' hx (hM.own _ (getL_mem hΔ)) hr hp _
              rw [e9] at q
              have q:putK SO.no n tm v (fun tm=>SO.go tm s) o1.dst=.pan w s9:=q
              unfold putK at q
              cases hd:o1.dst with
              | none=>rw [hd] at q;cases q
              | some d =>
                rw [hd] at q
                have q:@Bool.rec (fun _=>SO) .no (SO.go _ s) (Nat.ble (Nat.succ d) n)=.pan w s9:=q
                cases hb:Nat.ble (Nat.succ d) n<;>rw [hb] at q<;>cases q
      have hld:∀s2:St,T.get s2.hp i0=some bk→loadAt P t s2.hp (i0,q)=some v∧hasAt s2.hp i0=true:=fun s2 h2=>by
        constructor
        · show optK (fun l=>partA P t l q) (cellsAt s2.hp i0)=_
          have:cellsAt s2.hp i0=some cs:=by unfold cellsAt;rw [h2];exact hr
          rw [this];exact partG_ok hT hp
        · unfold hasAt;rw [h2]
      have hdyn:∀k,a≤k→k≤b→k≤tr.length→loadAt P t (stAt tr s9 k).hp (i0,q)=some v∧hasAt (stAt tr s9 k).hp i0=true:=fun k ha hb hk=>by
        obtain ⟨tmj,sj,q1,q2⟩:=hk2 k ha hb (by omega)
        rcases run_at (o1::ol) k tm tmj tm9 s sj s9 tr u hk q1 h6 with q3|⟨q3,q4⟩
        · rw [q3];exact hld _ q2
        · -- (a panic ends the region ahead of this beginning's end)
          exfalso
          rcases h7 with ⟨-,rfl⟩|⟨w,-,rfl,o',l,h8,h9,h10⟩
          · exact q4 rfl
          · exact no_pan (o1::ol) k tm tmj tm9 s sj s9 tr w q3 q1 h6
      have hH:heldAll P (o1::ol) rows tr s9 0 (o1::ol) tr=true:=by
        rcases trace_cases h6 with ⟨tm',s',tr',q1,q2,rfl⟩|⟨w,q1,-,-,-⟩
        · have hrest:=heldAll_ok (tr0:=(tm,s)::tr') (s8:=s9) ol tr' tm' s' 1 q2 (hm.tail q2) hl2
          have hw:wantA (o1::ol) tm o1=some true:=by unfold wantA;rw [hg]
          have hrd:readAt o1.op tm=some (t,(i0,q)):=by
            rw [hop]
            simp only [readAt,hT'.eg hx];rfl
          simp only [heldAll,hc0,hw,hrd,(hld s (hM.own _ (getL_mem hΔ))).1]
          rw [heldBy1_ok hv (o1::ol) 0 _ hl0 (fun k h1 h2 h3=>hdyn k (by omega) (by omega) h3)]
          exact hrest
        · rw [hgo] at q1;cases q1
      have hF:fltOk P [] (o1::ol) tr=true:=by
        rcases trace_cases h6 with ⟨tm',s',tr',q1,q2,rfl⟩|⟨w,q1,-,-,-⟩
        · simp only [fltOk,hc0]
          exact fltOk_ok ol tr' tm' s' 1 _ q2 hl2
        · rw [hgo] at q1;cases q1
      rw [hops] at hrows
      unfold drawOps1
      simp only [h6,hrows,hs.1,hH,hF,Bool.and_self]
      rcases h7 with ⟨rfl,rfl⟩|⟨w,rfl,rfl,o',l,h8,h9,h10⟩
      · rfl
      · simp only [panOk,hrows,Bool.and_eq_true] at h8
        have e1:(o1::ol).length-l.length-1=tr.length-1:=by omega
        rw [e1] at h8
        have hgl:getL (o1::ol) (tr.length-1)=some o':=by rw [getL_eq];exact h10
        simp only [h8.1,hgl,h8.2.2,Bool.and_self]
theorem W.drawH {i:Nat} {o0:Oper} {os:Array Oper} (ops:Array Oper) {x:Operand} {t:TypeId} {i0:K} {q p:Nat} {bk:Bk} {cs:List AV} {v:AV} (a b:Nat) (hs:drawOk1 P ops.toList a b=true) (tb:T TI) (hT:TabOk P tb) (ho0:ops.toList.head?=some o0) (hop:o0.op=.load t x) (hg:o0.guard=none)
    (hx:eg Γ x=some (.ptr (some (i0,q)))) (hΔ:getL Δ p=some (i0,bk)) (hr:rdl bk=some cs) (hp:partG tb t cs q=some v) (hv:sameA v v=true)
    (hpre:∀j,a≤j→j≤b→W P g n V [] [.o true ops.toList (ops.toList.take j)] .nrm Γ Δ fun o Δ'=>o=.ret (.tup [])∧(i0,bk)∈Δ')
    (h:W P g n V rs (.o true ops.toList ops.toList::st) .nrm Γ Δ Q):W P g n V rs (.c (.region i ops true)::st) .nrm Γ Δ Q:=W.reg (W.drawHD (os:=os) ops.toList a b hs tb hT ho0 hop hg hx hΔ hr hp hv hpre h)
end
end Go.Proofs.YtoegffiapnnkiaaGreat.Abs
