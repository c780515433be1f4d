/- Parts of one proof. No condition but those that each theorem names. -/
import Derived.Test.YtoegffiapnnkiaaGreatPE02
namespace Go.Proofs.YtoegffiapnnkiaaGreat.Abs
open Go
set_option linter.unusedVariables false
set_option linter.unusedSimpArgs false
abbrev Gm:=List (Nat×AV)
abbrev Dm:=List (K×Bk)
noncomputable def lk (Γ:Gm) (i:Nat):Option AV:=@List.rec (Nat×AV) (fun _=>Option AV) none (fun p _ ih=>@Prod.rec Nat AV (fun _=>Option AV) (fun j v=>@Bool.rec (fun _=>Option AV) ih (some v) (Nat.beq j i)) p) Γ
def TmG (Γ:Gm) (tm:Tm):Prop:=∀i v,lk Γ i=some v→T.get tm (K.of i)=some v
noncomputable def eg (Γ:Gm) (x:Operand):Option AV:=@Operand.rec (fun _=>Option AV) (fun i=>lk Γ i) (fun v=>ofV v) (fun _=>none) (fun f=>some (.func f [] [])) x
noncomputable def egs (Γ:Gm) (l:List Operand):Option (List AV):=@List.rec Operand (fun _=>Option (List AV)) (some []) (fun x _ ih=>cons2 (eg Γ x) ih) l
theorem lk_cons (j:Nat) (v:AV) (Γ:Gm) (i:Nat):lk ((j,v)::Γ) i=if j=i then some v else lk Γ i:=by
  show @Bool.rec (fun _=>Option AV) (lk Γ i) (some v) (Nat.beq j i)=_
  by_cases h:j=i
  · subst h;simp
  · rw [if_neg h,show Nat.beq j i=false from Bool.eq_false_iff.2 fun e=>h (Nat.beq_eq.mp e)]
theorem TmG.eg {Γ:Gm} {tm:Tm} (h:TmG Γ tm) {x:Operand} {v:AV} (e:eg Γ x=some v):ev tm x=some v:=by
  cases x with
  | tmp i=>exact h i v e
  | const c=>exact e
  | global g=>cases e
  | func f=>exact e
theorem TmG.egs {Γ:Gm} {tm:Tm} (h:TmG Γ tm):∀ {l:List Operand} {vs:List AV},egs Γ l=some vs→evs tm l=some vs
  | [],vs,e=>e
  | x::l,vs,e=>by
    obtain ⟨v,r,h1,h2,rfl⟩:=cons2_some (show cons2 (Abs.eg Γ x) (Abs.egs Γ l)=some vs from e)
    show cons2 (ev tm x) (evs tm l)=_
    rw [h.eg h1,h.egs h2];rfl
theorem K.of_ne {i j:Nat} (h:i≠j):K.of i≠K.of j:=fun e=>h (K.of_inj e)
theorem TmG.set {Γ:Gm} {tm:Tm} (h:TmG Γ tm) (d:Nat) (v:AV):TmG ((d,v)::Γ) (T.set tm (K.of d) v):=fun i u e=>by
  rw [lk_cons] at e
  rw [T.get_set]
  split at e
  · rename_i hd;subst hd;rw [if_pos rfl];exact e
  · rename_i hd;rw [if_neg (K.of_ne fun e=>hd e.symm)];exact h i u e
theorem TmG.nil (tm:Tm):TmG [] tm:=fun _ _ e=>by cases e
theorem TmG.args:∀(l:List AV) (i:Nat) (tm:Tm) (Γ:Gm),TmG Γ tm→TmG (@List.rec AV (fun _=>Nat→Gm→Gm) (fun _ Γ=>Γ) (fun v _ ih i Γ=>ih (i+1) ((i,v)::Γ)) l i Γ) (setArgs i l tm)
  | [],_,_,_,h=>h
  | v::l,i,tm,Γ,h=>TmG.args l (i+1) _ _ (h.set i v)
noncomputable def argG (l:List AV):Gm:=@List.rec AV (fun _=>Nat→Gm→Gm) (fun _ Γ=>Γ) (fun v _ ih i Γ=>ih (i+1) ((i,v)::Γ)) l 0 []
theorem argG_ok (l:List AV):TmG (argG l) (setArgs 0 l .e):=TmG.args l 0 _ _ (TmG.nil _)
def Knows (Γ:Gm):Gm→Prop
  | []=>True
  | [(i,v)]=>lk Γ i=some v
  | (i,v)::l=>lk Γ i=some v∧Knows Γ l
theorem Knows.tm {Γ:Gm} {tm:Tm} (h:TmG Γ tm):∀ {Γ':Gm},Knows Γ Γ'→TmG Γ' tm
  | [],_=>TmG.nil _
  | [(i,v)],k=>fun j u e=>by
    rw [lk_cons] at e
    split at e
    · rename_i hd;subst hd;injection e with e;subst e;exact h _ _ k
    · cases e
  | (i,v)::p::l,k=>fun j u e=>by
    rw [lk_cons] at e
    split at e
    · rename_i hd;subst hd;injection e with e;subst e;exact h _ _ k.1
    · exact Knows.tm h (Γ':=p::l) k.2 j u e
def names (Δ:Dm):List K:=Δ.map (·.1)
def HasB (_:Bk):Prop:=True
structure Mem (V:K→Option (List AV)) (F:K→Option Bk) (Δ:Dm) (s:St):Prop where
  view:∀i cs,V i=some cs→∃b,T.get s.hp i=some b∧rdl b=some cs
  vapart:∀i∈names Δ,V i=none
  frame:∀i b,F i=some b→T.get s.hp i=some b
  own:∀x∈Δ,T.get s.hp x.1=some x.2
  ownB:∀x∈Δ,HasB x.2
  apart:∀i∈names Δ,F i=none
  nodup:(names Δ).Nodup
  dom:∀i b,T.get s.hp i=some b→i.val<s.nx.val
variable {V:K→Option (List AV)} {F:K→Option Bk} {Δ Δ':Dm} {s s':St}
theorem Mem.noview (h:Mem V F Δ s) {x:K×Bk} (hx:x∈Δ):V x.1=none:=h.vapart _ (List.mem_map.2 ⟨x,hx,rfl⟩)
theorem Mem.nx_new (h:Mem V F Δ s):T.get s.hp s.nx=none:=by
  cases e:T.get s.hp s.nx with
  | none=>rfl
  | some b=>have:=h.dom _ _ e;omega
theorem Mem.drop (h:Mem V F Δ s) (hs:Δ'.Sublist Δ):Mem V F Δ' s :=
  ⟨h.view,fun i hi=>h.vapart i ((hs.map _).subset hi),h.frame,fun x hx=>h.own x (hs.subset hx),fun x hx=>h.ownB x (hs.subset hx),fun i hi=>h.apart i ((hs.map _).subset hi),h.nodup.sublist (hs.map _),h.dom⟩
theorem Mem.perm (h:Mem V F Δ s) (hs:Δ'.Perm Δ):Mem V F Δ' s :=
  ⟨h.view,fun i hi=>h.vapart i ((hs.map _).subset hi),h.frame,fun x hx=>h.own x (hs.subset hx),fun x hx=>h.ownB x (hs.subset hx),fun i hi=>h.apart i ((hs.map _).subset hi),(hs.map _).nodup_iff.2 h.nodup,h.dom⟩
theorem Mem.alloc (h:Mem V F Δ s) {b:Bk} (hb:HasB b):Mem V F ((s.nx,b)::Δ) (newB s b):=by
  have hn:=h.nx_new
  have old:∀ {i c},T.get s.hp i=some c→T.get (newB s b).hp i=some c:=fun {i c} e=>by
    show T.get (T.set s.hp s.nx b) i=_
    rw [T.get_set,if_neg (fun e'=>by rw [e',hn] at e;cases e)];exact e
  have vold:∀i cs,V i=some cs→∃c,T.get (newB s b).hp i=some c∧rdl c=some cs:=fun i cs e=>by
    obtain ⟨c,h1,h2⟩:=h.view i cs e
    exact ⟨c,old h1,h2⟩
  refine ⟨vold,?_,fun i c e=>old (h.frame i c e),?_,?_,?_,?_,?_⟩
  · intro i hi
    rcases List.mem_cons.1 hi with rfl|hi
    · show V s.nx=none
      cases e:V s.nx with
      | none=>rfl
      | some c=>obtain ⟨c,h1,-⟩:=h.view _ _ e;rw [hn] at h1;cases h1
    · exact h.vapart i hi
  · intro x hx
    rcases List.mem_cons.1 hx with rfl|hx
    · show T.get (T.set s.hp s.nx b) s.nx=_
      rw [T.get_set,if_pos rfl]
    · exact old (h.own x hx)
  · intro x hx
    rcases List.mem_cons.1 hx with rfl|hx
    · exact hb
    · exact h.ownB x hx
  · intro i hi
    rcases List.mem_cons.1 hi with rfl|hi
    · show F s.nx=none
      cases e:F s.nx with
      | none=>rfl
      | some c=>have:=h.frame _ _ e;rw [hn] at this;cases this
    · exact h.apart i hi
  · refine List.nodup_cons.2 ⟨fun hi=>?_,h.nodup⟩
    obtain ⟨x,hx,e⟩:=List.mem_map.1 hi
    have:=h.own x hx
    rw [e,hn] at this;cases this
  · intro i c e
    show i.val<(K.succ s.nx).val
    rw [K.val_succ]
    have e:T.get (T.set s.hp s.nx b) i=some c:=e
    rw [T.get_set] at e
    split at e
    · rename_i e';rw [e'];omega
    · have:=h.dom i c e;omega
theorem Mem.set {i:K} {b:Bk} (h:Mem V F ((i,b)::Δ) s) {c:Bk} (hc:HasB c):Mem V F ((i,c)::Δ) (setB s i c):=by
  have hv:=h.noview (x:=(i,b)) (by simp)
  have hi:T.get s.hp i=some b:=h.own (i,b) (by simp)
  have hnd:=List.nodup_cons.1 h.nodup
  have old:∀ {j d},j≠i→T.get s.hp j=some d→T.get (setB s i c).hp j=some d:=fun {j d} hj e=>by
    show T.get (T.set s.hp i c) j=_
    rw [T.get_set,if_neg hj];exact e
  refine ⟨fun j cs e=>?_,h.vapart,fun j d e=>old (fun e'=>by rw [e',h.apart i (by simp [names])] at e;cases e) (h.frame j d e),?_,?_,?_,h.nodup,?_⟩
  · obtain ⟨d,h1,h2⟩:=h.view j cs e
    exact ⟨d,old (fun e'=>by rw [e',hv] at e;cases e) h1,h2⟩
  · intro x hx
    rcases List.mem_cons.1 hx with rfl|hx
    · show T.get (T.set s.hp i c) i=_
      rw [T.get_set,if_pos rfl]
    · exact old (fun e=>hnd.1 (by rw [←e];exact List.mem_map.2 ⟨x,hx,rfl⟩)) (h.own x (by simp [hx]))
  · intro x hx
    rcases List.mem_cons.1 hx with rfl|hx
    · exact hc
    · exact h.ownB x (by simp [hx])
  · exact h.apart
  · intro j d e
    have e:T.get (T.set s.hp i c) j=some d:=e
    rw [T.get_set] at e
    split at e
    · rename_i e';rw [e'];exact h.dom i b hi
    · exact h.dom j d e
theorem Mem.del {i:K} {b:Bk} (h:Mem V F ((i,b)::Δ) s):Mem V F Δ ⟨T.del s.hp i,s.nx⟩:=by
  have hv:=h.noview (x:=(i,b)) (by simp)
  have hnd:=List.nodup_cons.1 h.nodup
  have old:∀ {j d},j≠i→T.get s.hp j=some d→T.get (T.del s.hp i) j=some d:=fun {j d} hj e=>by
    rw [T.get_del,if_neg hj];exact e
  refine ⟨fun j cs e=>?_,fun j hj=>h.vapart j (by simp only [names,List.map_cons,List.mem_cons];exact .inr hj),fun j d e=>old (fun e'=>by rw [e',h.apart i (by simp [names])] at e;cases e) (h.frame j d e),?_,?_,?_,hnd.2,?_⟩
  · obtain ⟨d,h1,h2⟩:=h.view j cs e
    exact ⟨d,old (fun e'=>by rw [e',hv] at e;cases e) h1,h2⟩
  · intro x hx
    exact old (fun e=>hnd.1 (by rw [←e];exact List.mem_map.2 ⟨x,hx,rfl⟩)) (h.own x (by simp [hx]))
  · intro x hx;exact h.ownB x (by simp [hx])
  · intro j hj;exact h.apart j (by simp only [names,List.map_cons,List.mem_cons];exact .inr hj)
  · intro j d e
    have e:T.get (T.del s.hp i) j=some d:=e
    rw [T.get_del] at e
    split at e
    · cases e
    · exact h.dom j d e
noncomputable def withD (F:K→Option Bk):Dm→K→Option Bk
  | [],j=>F j
  | (i,b)::R,j=>if j=i then some b else withD F R j
theorem withD_mem:∀ {R:Dm} {j:K} {b:Bk},withD F R j=some b→F j=some b∨(j,b)∈R
  | [],j,b,e=>.inl e
  | (i,c)::R,j,b,e=>by
    simp only [withD] at e
    split at e
    · rename_i h;injection e with e;subst e;subst h;exact .inr (by simp)
    · rcases withD_mem e with h|h
      · exact .inl h
      · exact .inr (by simp [h])
theorem withD_of:∀ {R:Dm} {j:K},j∈names R→∃b,withD F R j=some b
  | (i,c)::R,j,h=>by
    simp only [withD]
    split
    · exact ⟨c,rfl⟩
    · rename_i hne
      refine withD_of ?_
      rcases List.mem_cons.1 h with h|h
      · exact absurd h hne
      · exact h
theorem withD_F:∀ {R:Dm} {j:K} {b:Bk},F j=some b→(∀i∈names R,F i=none)→withD F R j=some b
  | [],j,b,e,_=>e
  | (i,c)::R,j,b,e,h=>by
    simp only [withD]
    split
    · rename_i he;subst he;rw [h j (by simp [names])] at e;cases e
    · exact withD_F e fun k hk=>h k (by simp only [names,List.map_cons,List.mem_cons];exact .inr hk)
theorem withD_none:∀ {R:Dm} {j:K},F j=none→j∉names R→withD F R j=none
  | [],_,e,_=>e
  | (i,c)::R,j,e,h=>by
    simp only [names,List.map_cons,List.mem_cons,not_or] at h
    simp only [withD,if_neg h.1]
    exact withD_none e h.2
theorem withD_get:∀ {R:Dm} {x:K×Bk},(names R).Nodup→x∈R→withD F R x.1=some x.2
  | (i,c)::R,x,hn,h=>by
    have hnd:=List.nodup_cons.1 hn
    rcases List.mem_cons.1 h with rfl|h
    · simp [withD]
    · have:x.1≠i:=fun e=>hnd.1 (by rw [←e];exact List.mem_map.2 ⟨x,h,rfl⟩)
      simp only [withD,if_neg this]
      exact withD_get hnd.2 h
theorem Mem.split (h:Mem V F (Δ++Δ') s):Mem V (withD F Δ') Δ s:=by
  have hnd:=h.nodup
  simp only [names,List.map_append] at hnd
  have hd:=List.nodup_append.1 hnd
  refine ⟨h.view,fun i hi=>h.vapart i (by simp only [names,List.map_append,List.mem_append];exact .inl hi),fun j b e=>?_,fun x hx=>h.own x (by simp [hx]),fun x hx=>h.ownB x (by simp [hx]),fun i hi=>?_,hd.1,h.dom⟩
  · rcases withD_mem e with e|e
    · exact h.frame j b e
    · exact h.own (j,b) (by simp [e])
  · refine withD_none (h.apart i ?_) fun hi'=>?_
    · simp only [names,List.map_append,List.mem_append];exact .inl hi
    · exact hd.2.2 i hi i hi' rfl
theorem Mem.join {R:Dm} (h:Mem V (withD F R) Δ s) (hR:(names R).Nodup) (hB:∀x∈R,HasB x.2) (hF:∀i∈names R,F i=none) (hV:∀i∈names R,V i=none):Mem V F (Δ++R) s:=by
  have hnot:∀i∈names Δ,i∉names R:=fun i hi hi'=>by
    obtain ⟨b,hb⟩:=withD_of (F:=F) hi'
    rw [h.apart i hi] at hb;cases hb
  refine ⟨h.view,fun i hi=>?_,fun j b e=>h.frame j b (withD_F e hF),fun x hx=>?_,fun x hx=>?_,fun i hi=>?_,?_,h.dom⟩
  · simp only [names,List.map_append,List.mem_append] at hi
    rcases hi with hi|hi
    · exact h.vapart i hi
    · exact hV i hi
  · rcases List.mem_append.1 hx with hx|hx
    · exact h.own x hx
    · exact h.frame x.1 x.2 (withD_get hR hx)
  · rcases List.mem_append.1 hx with hx|hx
    · exact h.ownB x hx
    · exact hB x hx
  · simp only [names,List.map_append,List.mem_append] at hi
    rcases hi with hi|hi
    · have:=h.apart i hi
      cases e:F i with
      | none=>rfl
      | some b=>rw [withD_F e hF] at this;cases this
    · exact hF i hi
  · simp only [names,List.map_append]
    exact List.nodup_append.2 ⟨h.nodup,hR,fun a ha b hb e=>hnot a ha (by rw [e];exact hb)⟩
noncomputable def withV (V:K→Option (List AV)):Dm→K→Option (List AV)
  | [],j=>V j
  | (i,b)::R,j=>if j=i then rdl b else withV V R j
theorem withV_none:∀ {R:Dm} {j:K},j∉names R→withV V R j=V j
  | [],_,_=>rfl
  | (i,c)::R,j,h=>by
    simp only [names,List.map_cons,List.mem_cons,not_or] at h
    simp only [withV,if_neg h.1]
    exact withV_none h.2
theorem withV_some:∀ {R:Dm} {j:K} {cs:List AV},withV V R j=some cs→V j=some cs∨∃b,(j,b)∈R∧rdl b=some cs
  | [],_,_,h=>.inl h
  | (i,c)::R,j,cs,h=>by
    simp only [withV] at h
    split at h
    · rename_i e;subst e;exact .inr ⟨c,by simp,h⟩
    · rcases withV_some h with h|⟨b,h1,h2⟩
      · exact .inl h
      · exact .inr ⟨b,by simp [h1],h2⟩
theorem Mem.lend {R:Dm} (h:Mem V F (Δ++R) s):Mem (withV V R) (withD F R) Δ s:=by
  have h1:=h.split
  have hnd:=h.nodup
  simp only [names,List.map_append] at hnd
  have hd:=List.nodup_append.1 hnd
  refine ⟨fun i cs e=>?_,fun i hi=>?_,h1.frame,h1.own,h1.ownB,h1.apart,h1.nodup,h1.dom⟩
  · rcases withV_some e with e|⟨b,e1,e2⟩
    · exact h1.view i cs e
    · exact ⟨b,h.own (i,b) (by simp [e1]),e2⟩
  · rw [withV_none fun hi'=>hd.2.2 i hi i hi' rfl]
    exact h1.vapart i hi
theorem Mem.unlend {R:Dm} (h:Mem (withV V R) (withD F R) Δ s) (hR:(names R).Nodup) (hB:∀x∈R,HasB x.2) (hF:∀i∈names R,F i=none) (hV:∀i∈names R,V i=none):Mem V F (Δ++R) s:=by
  have hnot:∀i∈names Δ,i∉names R:=fun i hi hi'=>by
    obtain ⟨b,hb⟩:=withD_of (F:=F) hi'
    rw [h.apart i hi] at hb;cases hb
  refine Mem.join ⟨fun i cs e=>h.view i cs ?_,fun i hi=>?_,h.frame,h.own,h.ownB,h.apart,h.nodup,h.dom⟩ hR hB hF hV
  · rw [withV_none fun hi'=>by rw [hV i hi'] at e;cases e];exact e
  · have:=h.vapart i hi
    rwa [withV_none (hnot i hi)] at this
end Go.Proofs.YtoegffiapnnkiaaGreat.Abs
namespace Go.Proofs.YtoegffiapnnkiaaGreat.Abs
open Go
set_option linter.unusedSimpArgs false
set_option linter.unusedVariables false
inductive Fr where
  | c (x:Code)
  | b (id:Nat)
  | o (d:Bool) (all rest:List Oper)
  | u (body:Code)
  | d (ops:List Oper)
inductive RO where
  | ret (v:AV)
  | pan (v:AV)
def RO.cr (s:St):RO→CR
  | .ret v=>.ret v s
  | .pan v=>.pan v s
noncomputable def panOk (P:Program) (d:Bool) (all:List Oper) (o:Oper) (l:List Oper):Bool:=match d with
  | false=>true
  | true=>match rowsOf [] 0 all with
    | some rows=>lastAt P rows (all.length-l.length-1) 0 all&&(Nat.blt l.length all.length&&isM P o.op)
    | none=>false
noncomputable def runD (P:Program) (call:Nat→List AV→St→CR) (d:Bool) (all:List Oper) (n:Nat) (l:List Oper):Tm→St→Out:=@List.rec Oper (fun _=>Tm→St→Out) (fun tm s=>.ok .nrm tm s)
  (fun o l ih tm s=>stepK .no (fun v s=>@Bool.rec (fun _=>Out) .no (.ok (.pan v) tm s) (panOk P d all o l)) ih P call all n o tm s) l
theorem runD_false (P:Program) (call:Nat→List AV→St→CR) (all:List Oper) (n:Nat):∀l,runD P call false all n l=runOps P call all n l
  | []=>rfl
  | o::l=>by
    show (fun tm s=>stepK .no (fun v s=>Out.ok (.pan v) tm s) (runD P call false all n l) P call all n o tm s)=_
    rw [runD_false P call all n l];rfl
section
variable (P:Program) (g:Cg) (n:Nat)
noncomputable def stepF (k:Nat):Fr→Out→Out
  | .c x,r=>thenO r (exec P g k n (.code x))
  | .b id,r=>blockO id r
  | .o d all rest,r=>thenO r (runD P (callA P g (exec P g k)) d all n rest)
  | .u body,r=>underO body (exec P g k n) r
  | .d ops,r=>thenO r (drawOps1 P (callA P g (exec P g k)) ops n)
def Rn (f:Fr) (r r':Out):Prop:=∃k0,∀k,k0≤k→stepF P g n k f r=r'
def RnS:List Fr→Out→Out→Prop
  | [],r,r'=>r=r'
  | f::st,r,r'=>∃m,Rn P g n f r m∧RnS st m r'
noncomputable def fin (rs:List ResultVar):Out→CR
  | .ok .nrm tm s=>match resA P tm s rs with
    | some vs=>.ret (oneOr vs) s
    | none=>.no
  | .ok .ret tm s=>match resA P tm s rs with
    | some vs=>.ret (oneOr vs) s
    | none=>.no
  | .ok (.pan v) _ s=>.pan v s
  | _=>.no
def W (V:K→Option (List AV)) (rs:List ResultVar) (st:List Fr) (e:Ex) (Γ:Gm) (Δ:Dm) (Q:RO→Dm→Prop):Prop :=
  ∀F s tm,Mem V F Δ s→TmG Γ tm→∃o Δ' s',Q o Δ'∧Mem V F Δ' s'∧∃out,RnS P g n st (.ok e tm s) out∧fin P rs out=o.cr s'
def Cl (V:K→Option (List AV)) (f:Nat) (args:List AV) (Δ:Dm) (Q:RO→Dm→Prop):Prop :=
  ∀F s,Mem V F Δ s→∃o Δ' s',Q o Δ'∧Mem V F Δ' s'∧∃k0,∀k,k0≤k→callA P g (exec P g k) f args s=o.cr s'
def Bd (V:K→Option (List AV)) (f:Nat) (args:List AV) (Δ:Dm) (Q:RO→Dm→Prop):Prop :=
  ∀F s,Mem V F Δ s→∃o Δ' s',Q o Δ'∧Mem V F Δ' s'∧∃k0,∀k,k0≤k→callBody P (exec P g k) f args s=o.cr s'
end
variable {P:Program} {g:Cg} {n:Nat} {V:K→Option (List AV)} {rs:List ResultVar} {st:List Fr} {e:Ex} {Γ Γ':Gm} {Δ Δ':Dm} {Q Q':RO→Dm→Prop}
theorem Rn.now {f:Fr} {r r':Out} (h:∀k,stepF P g n k f r=r'):Rn P g n f r r':=⟨0,fun k _=>h k⟩
theorem Rn.at {f:Fr} {r r':Out} (k0:Nat) (h:∀k,k0≤k→stepF P g n k f r=r'):Rn P g n f r r':=⟨k0,h⟩
theorem thenO_pass {e:Ex} (he:e≠.nrm) {tm:Tm} {s:St} {k:Tm→St→Out}:thenO (.ok e tm s) k=.ok e tm s:=by
  cases e<;>first|exact absurd rfl he|rfl
theorem W.mono (h:W P g n V rs st e Γ Δ Q) (hq:∀o Δ,Q o Δ→Q' o Δ):W P g n V rs st e Γ Δ Q':=fun F s tm hM hT=>by
  obtain ⟨o,Δ',s',h1,h2⟩:=h F s tm hM hT
  exact ⟨o,Δ',s',hq _ _ h1,h2⟩
theorem W.weak (Γ':Gm) (Δ':Dm) (hk:Knows Γ Γ') (hd:Δ'.Sublist Δ) (h:W P g n V rs st e Γ' Δ' Q):W P g n V rs st e Γ Δ Q:=fun F s tm hM hT=>h F s tm (hM.drop hd) (Knows.tm hT hk)
theorem W.perm (Δ':Dm) (hd:Δ'.Perm Δ) (h:W P g n V rs st e Γ Δ' Q):W P g n V rs st e Γ Δ Q:=fun F s tm hM hT=>h F s tm (hM.perm hd) hT
theorem W.step {f:Fr} (h:∀F s tm,Mem V F Δ s→TmG Γ tm→∃e' tm' s' Γ' Δ',Rn P g n f (.ok e tm s) (.ok e' tm' s')∧TmG Γ' tm'∧Mem V F Δ' s'∧W P g n V rs st e' Γ' Δ' Q):W P g n V rs (f::st) e Γ Δ Q:=fun F s tm hM hT=>by
  obtain ⟨e',tm',s',Γ',Δ1,h1,h2,h3,h4⟩:=h F s tm hM hT
  obtain ⟨o,Δ',s2,h5,h6,out,h7,h8⟩:=h4 F s' tm' h3 h2
  exact ⟨o,Δ',s2,h5,h6,out,⟨_,h1,h7⟩,h8⟩
theorem W.same {f:Fr} {e':Ex} (h:∀tm s,Rn P g n f (.ok e tm s) (.ok e' tm s)) (k:W P g n V rs st e' Γ Δ Q):W P g n V rs (f::st) e Γ Δ Q :=
  W.step fun F s tm hM hT=>⟨e',tm,s,Γ,Δ,h tm s,hT,hM,k⟩
theorem W.as1 {f f1:Fr} (h:∀tm s r,Rn P g n f1 (.ok e tm s) r→Rn P g n f (.ok e tm s) r) (k:W P g n V rs (f1::st) e Γ Δ Q):W P g n V rs (f::st) e Γ Δ Q:=fun F s tm hM hT=>by
  obtain ⟨o,Δ',s',h1,h2,out,⟨m,h3,h4⟩,h5⟩:=k F s tm hM hT
  exact ⟨o,Δ',s',h1,h2,out,⟨m,h tm s m h3,h4⟩,h5⟩
theorem W.as2 {f f1 f2:Fr} (h:∀tm s r m,Rn P g n f1 (.ok e tm s) m→Rn P g n f2 m r→Rn P g n f (.ok e tm s) r) (k:W P g n V rs (f1::f2::st) e Γ Δ Q):W P g n V rs (f::st) e Γ Δ Q:=fun F s tm hM hT=>by
  obtain ⟨o,Δ',s',h1,h2,out,⟨m,h3,⟨m2,h6,h4⟩⟩,h5⟩:=k F s tm hM hT
  exact ⟨o,Δ',s',h1,h2,out,⟨m2,h tm s m2 m h3 h6,h4⟩,h5⟩
theorem le_succ_of {k0 k:Nat} (h:k0+1≤k):∃j,k=j+1∧k0≤j:=⟨k-1,by omega,by omega⟩
theorem W.skip (h:W P g n V rs st .nrm Γ Δ Q):W P g n V rs (.c .skip::st) .nrm Γ Δ Q:=W.same (fun tm s=>Rn.at 1 fun k hk=>by obtain ⟨j,rfl,-⟩:=le_succ_of hk;rfl) h
theorem W.exit {i:Nat} (h:W P g n V rs st (.exit i) Γ Δ Q):W P g n V rs (.c (.exit i)::st) .nrm Γ Δ Q:=W.same (fun tm s=>Rn.at 1 fun k hk=>by obtain ⟨j,rfl,-⟩:=le_succ_of hk;rfl) h
theorem W.ret (h:W P g n V rs st .ret Γ Δ Q):W P g n V rs (.c .ret::st) .nrm Γ Δ Q:=W.same (fun tm s=>Rn.at 1 fun k hk=>by obtain ⟨j,rfl,-⟩:=le_succ_of hk;rfl) h
theorem W.pass {x:Code} (he:e≠.nrm) (h:W P g n V rs st e Γ Δ Q):W P g n V rs (.c x::st) e Γ Δ Q:=W.same (fun tm s=>Rn.now fun k=>thenO_pass he) h
theorem W.cexit {x:Code} {i:Nat} (h:W P g n V rs st (.exit i) Γ Δ Q):W P g n V rs (.c x::st) (.exit i) Γ Δ Q:=W.pass (fun h=>by cases h) h
theorem W.cret {x:Code} (h:W P g n V rs st .ret Γ Δ Q):W P g n V rs (.c x::st) .ret Γ Δ Q:=W.pass (fun h=>by cases h) h
theorem W.bnrm {i:Nat} (h:W P g n V rs st .nrm Γ Δ Q):W P g n V rs (.b i::st) .nrm Γ Δ Q:=W.same (fun tm s=>Rn.now fun k=>rfl) h
theorem W.bret {i:Nat} (h:W P g n V rs st .ret Γ Δ Q):W P g n V rs (.b i::st) .ret Γ Δ Q:=W.same (fun tm s=>Rn.now fun k=>rfl) h
theorem W.bexit {i:Nat} (h:W P g n V rs st .nrm Γ Δ Q):W P g n V rs (.b i::st) (.exit i) Γ Δ Q:=W.same (fun tm s=>Rn.now fun k=>by
  show blockO i (.ok (.exit i) tm s)=_
  unfold blockO;simp) h
theorem W.uelse {body:Code} (he:∀l,e≠.goto l) (h:W P g n V rs st e Γ Δ Q):W P g n V rs (.u body::st) e Γ Δ Q:=W.same (fun tm s=>Rn.now fun k=>by
  show underO body _ (.ok e tm s)=_
  cases e<;>first|exact absurd rfl (he _)|rfl) h
theorem W.uret {body:Code} (h:W P g n V rs st .ret Γ Δ Q):W P g n V rs (.u body::st) .ret Γ Δ Q:=W.uelse (fun _ h=>by cases h) h
theorem W.seq {a b:Code} (h:W P g n V rs (.c a::.c b::st) .nrm Γ Δ Q):W P g n V rs (.c (.seq a b)::st) .nrm Γ Δ Q:=W.as2 (fun tm s r m h1 h2=>by
  obtain ⟨k1,h1⟩:=h1;obtain ⟨k2,h2⟩:=h2
  refine ⟨k1+k2+1,fun k hk=>?_⟩
  obtain ⟨j,rfl,hj⟩:=le_succ_of hk
  have e1:exec P g j n (.code a) tm s=m:=h1 j (by omega)
  show thenO (exec P g j n (.code a) tm s) (exec P g j n (.code b))=r
  rw [e1];exact h2 j (by omega)) h
theorem W.block {i:Nat} {a:Code} (h:W P g n V rs (.c a::.b i::st) .nrm Γ Δ Q):W P g n V rs (.c (.block i a)::st) .nrm Γ Δ Q:=W.as2 (fun tm s r m h1 h2=>by
  obtain ⟨k1,h1⟩:=h1;obtain ⟨k2,h2⟩:=h2
  refine ⟨k1+k2+1,fun k hk=>?_⟩
  obtain ⟨j,rfl,hj⟩:=le_succ_of hk
  have e1:exec P g j n (.code a) tm s=m:=h1 j (by omega)
  show blockO i (exec P g j n (.code a) tm s)=r
  rw [e1];exact h2 j (by omega)) h
theorem W.scope {a:Code} (h:W P g n V rs (.c a::.u a::st) .nrm Γ Δ Q):W P g n V rs (.c (.scope a)::st) .nrm Γ Δ Q:=W.as2 (fun tm s r m h1 h2=>by
  obtain ⟨k1,h1⟩:=h1;obtain ⟨k2,h2⟩:=h2
  refine ⟨k1+k2+1+1,fun k hk=>?_⟩
  obtain ⟨j,rfl,hj⟩:=le_succ_of hk
  obtain ⟨j,rfl,hj⟩:=le_succ_of hj
  have e1:exec P g j n (.code a) tm s=m:=h1 j (by omega)
  show underO a (exec P g j n) (exec P g j n (.code a) tm s)=r
  rw [e1];exact h2 j (by omega)) h
theorem W.loop {a:Code} (h:W P g n V rs (.c a::.c (.loop a)::st) .nrm Γ Δ Q):W P g n V rs (.c (.loop a)::st) .nrm Γ Δ Q:=W.as2 (fun tm s r m h1 h2=>by
  obtain ⟨k1,h1⟩:=h1;obtain ⟨k2,h2⟩:=h2
  refine ⟨k1+k2+1,fun k hk=>?_⟩
  obtain ⟨j,rfl,hj⟩:=le_succ_of hk
  have e1:exec P g j n (.code a) tm s=m:=h1 j (by omega)
  show thenO (exec P g j n (.code a) tm s) (exec P g j n (.code (.loop a)))=r
  rw [e1];exact h2 j (by omega)) h
theorem W.cond {x:Operand} {a b:Code} {c:Bool} (hx:eg Γ x=some (.bool c)) (h1:c=true→W P g n V rs (.c a::st) .nrm Γ Δ Q) (h2:c=false→W P g n V rs (.c b::st) .nrm Γ Δ Q):W P g n V rs (.c (.cond x a b)::st) .nrm Γ Δ Q:=by
  have key:∀y,(∀tm s j,TmG Γ tm→exec P g (j+1) n (.code (.cond x a b)) tm s=exec P g j n (.code y) tm s)→W P g n V rs (.c y::st) .nrm Γ Δ Q→W P g n V rs (.c (.cond x a b)::st) .nrm Γ Δ Q:=fun y he k F s tm hM hT=>by
    obtain ⟨o,Δ',s',h1,h2,out,⟨m,⟨k1,h3⟩,h4⟩,h5⟩:=k F s tm hM hT
    refine ⟨o,Δ',s',h1,h2,out,⟨m,⟨k1+1,fun k hk=>?_⟩,h4⟩,h5⟩
    obtain ⟨j,rfl,hj⟩:=le_succ_of hk
    exact (he tm s j hT).trans (h3 j hj)
  cases c with
  | true=>exact key a (fun tm s j hT=>by show condO (ev tm x) _ _=_;rw [hT.eg hx];rfl) (h1 rfl)
  | false=>exact key b (fun tm s j hT=>by show condO (ev tm x) _ _=_;rw [hT.eg hx];rfl) (h2 rfl)
theorem W.condT {x:Operand} {a b:Code} (hx:eg Γ x=some (.bool true)) (h1:W P g n V rs (.c a::st) .nrm Γ Δ Q):W P g n V rs (.c (.cond x a b)::st) .nrm Γ Δ Q:=W.cond hx (fun _=>h1) (fun h=>by cases h)
theorem W.condF {x:Operand} {a b:Code} (hx:eg Γ x=some (.bool false)) (h1:W P g n V rs (.c b::st) .nrm Γ Δ Q):W P g n V rs (.c (.cond x a b)::st) .nrm Γ Δ Q:=W.cond hx (fun h=>by cases h) (fun _=>h1)
theorem W.condP {x:Operand} {a b:Code} {p:Prop} [Decidable p] (hx:eg Γ x=some (.bool (decide p))) (h1:p→W P g n V rs (.c a::st) .nrm Γ Δ Q) (h2:¬p→W P g n V rs (.c b::st) .nrm Γ Δ Q):W P g n V rs (.c (.cond x a b)::st) .nrm Γ Δ Q:=W.cond hx (fun h=>h1 (of_decide_eq_true h)) (fun h=>h2 (of_decide_eq_false h))
theorem W.region {i:Nat} {ops:Array Oper} (h:W P g n V rs (.o false ops.toList ops.toList::st) .nrm Γ Δ Q):W P g n V rs (.c (.region i ops false)::st) .nrm Γ Δ Q:=W.as1 (fun tm s r h=>by
  obtain ⟨k1,h⟩:=h
  refine ⟨k1+1,fun k hk=>?_⟩
  obtain ⟨j,rfl,hj⟩:=le_succ_of hk
  have:=h j hj
  simp only [stepF,runD_false] at this
  exact this) h
theorem W.onil {b:Bool} {all:List Oper} (h:W P g n V rs st .nrm Γ Δ Q):W P g n V rs (.o b all []::st) .nrm Γ Δ Q:=W.same (fun tm s=>Rn.now fun k=>rfl) h
noncomputable def dstG (d:Option Nat) (v:AV) (Γ:Gm):Gm:=@Option.rec Nat (fun _=>Gm) Γ (fun d=>(d,v)::Γ) d
noncomputable def dstOk (n:Nat) (d:Option Nat):Bool:=@Option.rec Nat (fun _=>Bool) true (fun d=>Nat.ble (Nat.succ d) n) d
noncomputable def guardG (all:List Oper) (Γ:Gm) (b:Bool) (j:Nat):Option Bool:=match getL all j with
  | some p=>match p.dst with
    | some d=>match lk Γ d with
      | some (.bool c)=>some (c==b)
      | some (.tup [])=>some false
      | _=>none
    | none=>none
  | none=>none
noncomputable def wantG (all:List Oper) (Γ:Gm) (o:Oper):Option Bool:=@Option.rec (Nat×Bool) (fun _=>Option Bool) (some true) (fun p=>@Prod.rec Nat Bool (fun _=>Option Bool) (fun j b=>guardG all Γ b j) p) o.guard
theorem wantG_ok {all:List Oper} {o:Oper} {b:Bool} {tm:Tm} (hT:TmG Γ tm) (h:wantG all Γ o=some b):wantA all tm o=some b:=by
  unfold wantG at h
  unfold wantA
  cases hg:o.guard with
  | none=>rw [hg] at h;exact h
  | some p =>
    obtain ⟨j,c⟩:=p
    rw [hg] at h
    have h:guardG all Γ c j=some b:=h
    show guardA all tm c j=some b
    unfold guardG at h
    unfold guardA
    split at h
    · rename_i p hp
      rw [hp]
      simp only
      split at h
      · rename_i d hd
        rw [hd]
        simp only
        split at h
        · rename_i c' hc;rw [hT _ _ hc];exact h
        · rename_i hc;rw [hT _ _ hc];exact h
        · cases h
      · cases h
    · cases h
theorem W.op {b:Bool} {all rest:List Oper} {o:Oper} (hw:wantG all Γ o=some true) (hd:dstOk n o.dst=true)
    (h:∀F s tm,Mem V F Δ s→TmG Γ tm→∃v s' Δ',(∃k0,∀k,k0≤k→opQ o P (callA P g (exec P g k)) tm s=.ret v s')∧Mem V F Δ' s'∧W P g n V rs (.o b all rest::st) .nrm (dstG o.dst v Γ) Δ' Q) :
    W P g n V rs (.o b all (o::rest)::st) .nrm Γ Δ Q:=fun F s tm hM hT=>by
  obtain ⟨v,s',Δ1,⟨k0,h1⟩,h2,h3⟩:=h F s tm hM hT
  have hput:∃tm',TmG (dstG o.dst v Γ) tm'∧∀(k:Tm→Out),putK .no n tm v k o.dst=k tm':=by
    cases hdd:o.dst with
    | none=>exact ⟨tm,hT,fun _=>rfl⟩
    | some d =>
      refine ⟨T.set tm (K.of d) v,hT.set d v,fun k=>?_⟩
      show @Bool.rec (fun _=>Out) _ _ (Nat.ble (Nat.succ d) n)=_
      rw [hdd] at hd
      rw [show Nat.ble (Nat.succ d) n=true from hd]
  obtain ⟨tm',ht,hp⟩:=hput
  obtain ⟨o',Δ',s2,q1,q2,out,⟨m,⟨k1,q3⟩,q4⟩,q5⟩:=h3 F s' tm' h2 ht
  refine ⟨o',Δ',s2,q1,q2,out,⟨m,⟨k0+k1,fun k hk=>?_⟩,q4⟩,q5⟩
  show stepK .no _ _ P _ all n o tm s=m
  unfold stepK
  rw [wantG_ok hT hw]
  show @CR.rec (fun _=>Out) (fun v s=>putK _ n tm v (fun tm=>_) o.dst) _ _ (opQ o P (callA P g (exec P g k)) tm s)=m
  rw [h1 k (by omega)]
  show putK _ n tm v (fun tm=>_) o.dst=m
  rw [hp]
  exact q3 k (by omega)
theorem W.opSkip {b:Bool} {all rest:List Oper} {o:Oper} (hw:wantG all Γ o=some false) (hd:dstOk n o.dst=true) (h:W P g n V rs (.o b all rest::st) .nrm (dstG o.dst (.tup []) Γ) Δ Q):W P g n V rs (.o b all (o::rest)::st) .nrm Γ Δ Q:=fun F s tm hM hT=>by
  have hput:∃tm',TmG (dstG o.dst (.tup []) Γ) tm'∧∀(k:Tm→Out),putK .no n tm (.tup []) k o.dst=k tm':=by
    cases hdd:o.dst with
    | none=>exact ⟨tm,hT,fun _=>rfl⟩
    | some d =>
      refine ⟨T.set tm (K.of d) (.tup []),hT.set d _,fun k=>?_⟩
      show @Bool.rec (fun _=>Out) _ _ (Nat.ble (Nat.succ d) n)=_
      rw [hdd] at hd
      rw [show Nat.ble (Nat.succ d) n=true from hd]
  obtain ⟨tm',ht,hp⟩:=hput
  obtain ⟨o',Δ',s2,q1,q2,out,⟨m,⟨k1,q3⟩,q4⟩,q5⟩:=h F s tm' hM ht
  refine ⟨o',Δ',s2,q1,q2,out,⟨m,⟨k1,fun k hk=>?_⟩,q4⟩,q5⟩
  show stepK .no _ _ P _ all n o tm s=m
  unfold stepK
  rw [wantG_ok hT hw]
  show putK _ n tm (.tup []) (fun tm=>_) o.dst=m
  rw [hp]
  exact q3 k (by omega)
theorem W.splitB (d:Nat) (c:Bool) (hx:lk Γ d=some (.bool c)) (h1:c=true→W P g n V rs st e ((d,.bool true)::Γ) Δ Q) (h2:c=false→W P g n V rs st e ((d,.bool false)::Γ) Δ Q):W P g n V rs st e Γ Δ Q:=by
  have key:∀(b:Bool),lk Γ d=some (.bool b)→W P g n V rs st e ((d,.bool b)::Γ) Δ Q→W P g n V rs st e Γ Δ Q:=fun b hb k F s tm hM hT=>k F s tm hM fun j u ej=>by
    rw [lk_cons] at ej
    split at ej
    · rename_i he;subst he;injection ej with ej;subst ej;exact hT _ _ hb
    · exact hT _ _ ej
  cases c with
  | true=>exact key true hx (h1 rfl)
  | false=>exact key false hx (h2 rfl)
theorem pan_all {v:AV} {tm:Tm} {s:St}:∀(st:List Fr),RnS P g n st (.ok (.pan v) tm s) (.ok (.pan v) tm s)
  | []=>rfl
  | f::st=>⟨.ok (.pan v) tm s,Rn.now fun k=>by cases f<;>rfl,pan_all st⟩
theorem W.opPan {b:Bool} {all rest:List Oper} {o:Oper} (hb:panOk P b all o rest=true) (hw:wantG all Γ o=some true)
    (h:∀F s tm,Mem V F Δ s→TmG Γ tm→∃v s' Δ',(∃k0,∀k,k0≤k→opQ o P (callA P g (exec P g k)) tm s=.pan v s')∧Mem V F Δ' s'∧Q (.pan v) Δ') :
    W P g n V rs (.o b all (o::rest)::st) .nrm Γ Δ Q:=fun F s tm hM hT=>by
  obtain ⟨v,s',Δ1,⟨k0,h1⟩,h2,h3⟩:=h F s tm hM hT
  refine ⟨.pan v,Δ1,s',h3,h2,.ok (.pan v) tm s',⟨_,⟨k0,fun k hk=>?_⟩,pan_all st⟩,rfl⟩
  show stepK .no _ _ P _ all n o tm s=Out.ok (.pan v) tm s'
  unfold stepK
  rw [wantG_ok hT hw]
  show @CR.rec (fun _=>Out) (fun v s=>putK _ n tm v (fun tm=>_) o.dst) (fun v s=>@Bool.rec (fun _=>Out) .no (.ok (.pan v) tm s) (panOk P b all o rest)) .no (opQ o P (callA P g (exec P g k)) tm s)=Out.ok (.pan v) tm s'
  rw [h1 k hk,hb]
theorem W.opX {b:Bool} {all rest:List Oper} {o:Oper} (hw:wantG all Γ o=some true) (hd:dstOk n o.dst=true)
    (h:∀F s tm,Mem V F Δ s→TmG Γ tm→(∃v s' Δ',(∃k0,∀k,k0≤k→opQ o P (callA P g (exec P g k)) tm s=.ret v s')∧Mem V F Δ' s'∧W P g n V rs (.o b all rest::st) .nrm (dstG o.dst v Γ) Δ' Q) ∨
      ∃v s' Δ',(∃k0,∀k,k0≤k→opQ o P (callA P g (exec P g k)) tm s=.pan v s')∧Mem V F Δ' s'∧panOk P b all o rest=true∧Q (.pan v) Δ') :
    W P g n V rs (.o b all (o::rest)::st) .nrm Γ Δ Q:=fun F s tm hM hT=>by
  rcases h F s tm hM hT with ⟨v,s',Δ1,⟨k0,h1⟩,h2,h3⟩|⟨v,s',Δ1,⟨k0,h1⟩,h2,hb,h3⟩
  · have hput:∃tm',TmG (dstG o.dst v Γ) tm'∧∀(k:Tm→Out),putK .no n tm v k o.dst=k tm':=by
      cases hdd:o.dst with
      | none=>exact ⟨tm,hT,fun _=>rfl⟩
      | some d =>
        refine ⟨T.set tm (K.of d) v,hT.set d v,fun k=>?_⟩
        show @Bool.rec (fun _=>Out) _ _ (Nat.ble (Nat.succ d) n)=_
        rw [hdd] at hd
        rw [show Nat.ble (Nat.succ d) n=true from hd]
    obtain ⟨tm',ht,hp⟩:=hput
    obtain ⟨o',Δ',s2,q1,q2,out,⟨m,⟨k1,q3⟩,q4⟩,q5⟩:=h3 F s' tm' h2 ht
    refine ⟨o',Δ',s2,q1,q2,out,⟨m,⟨k0+k1,fun k hk=>?_⟩,q4⟩,q5⟩
    show stepK .no _ _ P _ all n o tm s=m
    unfold stepK
    rw [wantG_ok hT hw]
    show @CR.rec (fun _=>Out) (fun v s=>putK _ n tm v (fun tm=>_) o.dst) _ _ (opQ o P (callA P g (exec P g k)) tm s)=m
    rw [h1 k (by omega)]
    show putK _ n tm v (fun tm=>_) o.dst=m
    rw [hp]
    exact q3 k (by omega)
  · refine ⟨.pan v,Δ1,s',h3,h2,.ok (.pan v) tm s',⟨_,⟨k0,fun k hk=>?_⟩,pan_all st⟩,rfl⟩
    show stepK .no _ _ P _ all n o tm s=Out.ok (.pan v) tm s'
    unfold stepK
    rw [wantG_ok hT hw]
    show @CR.rec (fun _=>Out) (fun v s=>putK _ n tm v (fun tm=>_) o.dst) (fun v s=>@Bool.rec (fun _=>Out) .no (.ok (.pan v) tm s) (panOk P b all o rest)) .no (opQ o P (callA P g (exec P g k)) tm s)=Out.ok (.pan v) tm s'
    rw [h1 k hk,hb]
noncomputable def resG (Γ:Gm):List ResultVar→Option (List AV)
  | []=>some []
  | .tmp t::rs=>match lk Γ t,resG Γ rs with
    | some v,some vs=>some (v::vs)
    | _,_=>none
  | _::_=>none
theorem resG_ok {tm:Tm} {s:St} (hT:TmG Γ tm):∀ {rs:List ResultVar} {vs:List AV},resG Γ rs=some vs→resA P tm s rs=some vs
  | [],vs,h=>h
  | .tmp t::rs,vs,h=>by
    simp only [resG] at h
    split at h
    · rename_i v us h1 h2
      injection h with h;subst h
      simp only [resA]
      rw [hT _ _ h1,resG_ok hT h2]
    · cases h
  | .cell _ _::rs,vs,h=>by cases h
theorem W.done {vs:List AV} (hr:resG Γ rs=some vs) (hq:Q (.ret (oneOr vs)) Δ):W P g n V rs [] .ret Γ Δ Q:=fun F s tm hM hT =>
  ⟨.ret (oneOr vs),Δ,s,hq,hM,_,rfl,by show (match resA P tm s rs with|some vs=>CR.ret (oneOr vs) s|none=>.no)=_;rw [resG_ok hT hr];rfl⟩
theorem W.doneN {vs:List AV} (hr:resG Γ rs=some vs) (hq:Q (.ret (oneOr vs)) Δ):W P g n V rs [] .nrm Γ Δ Q:=fun F s tm hM hT =>
  ⟨.ret (oneOr vs),Δ,s,hq,hM,_,rfl,by show (match resA P tm s rs with|some vs=>CR.ret (oneOr vs) s|none=>.no)=_;rw [resG_ok hT hr];rfl⟩
theorem Bd.enter {f:Nat} {args:List AV} {fn:Func} {c:Code} (hf:P.funcs[f]?=some fn) (hb:fn.body=some c) (h:W P g (max fn.ntmps (lenL args)) V fn.results.toList [.c c] .nrm (argG args) Δ Q):Bd P g V f args Δ Q:=fun F s hM=>by
  obtain ⟨o,Δ',s',h1,h2,out,⟨m,⟨k0,h3⟩,h4⟩,h5⟩:=h F s _ hM (argG_ok args)
  have h4:m=out:=h4
  subst h4
  refine ⟨o,Δ',s',h1,h2,k0,fun k hk=>?_⟩
  have e:exec P g k (max fn.ntmps (lenL args)) (.code c) (setArgs 0 args .e) s=m:=h3 k hk
  unfold callBody
  rw [getL_eq,Array.getElem?_toList,hf]
  simp only
  rw [hb]
  simp only
  rw [startA_eq,e]
  rw [←h5]
  clear e h3 h5
  cases m with
  | no=>rfl
  | ok e tm s=>cases e<;>rfl
def Plain (g:Cg) (f:Nat):Bool:=!(Nat.beq f g.cg)&&g.ms.all fun m=>!(Nat.beq f m.f)
theorem memo_none {f:Nat} {args:List AV} {s:St}:∀(ms:List Memo),(ms.all fun m=>!(Nat.beq f m.f))=true→memoFind f args s ms=none
  | [],_=>rfl
  | m::ms,h=>by
    simp only [List.all_cons,Bool.and_eq_true,Bool.not_eq_true'] at h
    show @Bool.rec (fun _=>Option CR) (memoFind f args s ms) (some (.ret m.v (memoSt m s))) (memoHit m f args s)=none
    have:memoHit m f args s=false:=by unfold memoHit;rw [h.1];rfl
    rw [this]
    exact memo_none ms h.2
theorem Cl.memo {f:Nat} {m:Memo} {ms:List Memo} (hg:g.ms=m::ms) (hf:Nat.beq f m.f=true) (ha:m.any=true) (hargs:m.args=[]) (hq:Q (.ret m.v) Δ):Cl P g V f [] Δ Q:=fun F s hM =>
  ⟨.ret m.v,Δ,s,hq,hM,0,fun k _=>by
    show @Option.rec CR (fun _=>CR) (callB P g (exec P g k) f [] s) (fun r=>r) (memoFind f [] s g.ms)=_
    rw [hg]
    show @Option.rec CR (fun _=>CR) (callB P g (exec P g k) f [] s) (fun r=>r) (@Bool.rec (fun _=>Option CR) (memoFind f [] s ms) (some (.ret m.v (memoSt m s))) (memoHit m f [] s))=_
    have h1:memoHit m f [] s=true:=by unfold memoHit;rw [hf,hargs,ha];rfl
    have h2:memoSt m s=s:=by unfold memoSt;rw [ha]
    rw [h1,h2];rfl⟩
theorem Cl.of_body {f:Nat} {args:List AV} (hp:Plain g f=true) (h:Bd P g V f args Δ Q):Cl P g V f args Δ Q:=fun F s hM=>by
  obtain ⟨o,Δ',s',h1,h2,k0,h3⟩:=h F s hM
  simp only [Plain,Bool.and_eq_true,Bool.not_eq_true'] at hp
  refine ⟨o,Δ',s',h1,h2,k0,fun k hk=>?_⟩
  show @Option.rec CR (fun _=>CR) (callB P g (exec P g k) f args s) (fun r=>r) (memoFind f args s g.ms)=_
  rw [memo_none g.ms hp.2]
  show callB P g (exec P g k) f args s=_
  rw [callB_other hp.1]
  exact h3 k hk
theorem Cl.enter {f:Nat} {args:List AV} {fn:Func} {c:Code} (hp:Plain g f=true) (hf:P.funcs[f]?=some fn) (hb:fn.body=some c) (h:W P g (max fn.ntmps (lenL args)) V fn.results.toList [.c c] .nrm (argG args) Δ Q):Cl P g V f args Δ Q:=Cl.of_body hp (Bd.enter hf hb h)
theorem Cl.mono {f:Nat} {args:List AV} (h:Cl P g V f args Δ Q) (hq:∀o Δ,Q o Δ→Q' o Δ):Cl P g V f args Δ Q':=fun F s hM=>by
  obtain ⟨o,Δ',s',h1,h2⟩:=h F s hM
  exact ⟨o,Δ',s',hq _ _ h1,h2⟩
theorem Cl.caught {G:Nat} {caps:List AV} (hG:Nat.beq G g.cg=false) (hm:(g.ms.all fun m=>!(Nat.beq g.cg m.f))=true) (h:Bd P g V G caps Δ fun o Δ'=>(o=.ret (.tup [])∧Q (.ret (.int .i64 0)) Δ')∨∃c,o=.pan (.iface g.wt (.agg [.int .i64 c]))∧Q (.ret (.int .i64 c)) Δ'):Cl P g V g.cg [.func G [] caps] Δ Q:=fun F s hM=>by
  obtain ⟨o,Δ',s',h1,h2,k0,h3⟩:=h F s hM
  have key:∀k,k0≤k→callA P g (exec P g k) g.cg [.func G [] caps] s=match o.cr s' with
      | .ret (.tup []) s'=>.ret (.int .i64 0) s'
      | .pan (.iface t (.agg [.int .i64 c])) s'=>match Nat.beq t g.wt with
          | true=>.ret (.int .i64 c) s'
          | false=>.no
      | _=>.no:=fun k hk=>by
    show @Option.rec CR (fun _=>CR) (callB P g (exec P g k) g.cg [.func G [] caps] s) (fun r=>r) (memoFind g.cg [.func G [] caps] s g.ms)=_
    rw [memo_none g.ms hm]
    show callB P g (exec P g k) g.cg [.func G [] caps] s=_
    unfold callB
    rw [show Nat.beq g.cg g.cg=true from Nat.beq_refl _]
    simp only [hG]
    rw [h3 k hk]
    cases o<;>rfl
  rcases h1 with ⟨rfl,hq⟩|⟨c,rfl,hq⟩
  · exact ⟨.ret (.int .i64 0),Δ',s',hq,h2,k0,fun k hk=>key k hk⟩
  · refine ⟨.ret (.int .i64 c),Δ',s',hq,h2,k0,fun k hk=>(key k hk).trans ?_⟩
    show (match Nat.beq g.wt g.wt with|true=>CR.ret (.int .i64 c) s'|false=>.no)=_
    rw [show Nat.beq g.wt g.wt=true from Nat.beq_refl _]
    rfl
end Go.Proofs.YtoegffiapnnkiaaGreat.Abs
namespace Go.Proofs.YtoegffiapnnkiaaGreat.Abs
open Go
set_option linter.unusedVariables false
set_option linter.unusedSimpArgs false
inductive TD where
  | int (k:IntKind)
  | bool
  | str
  | sl (e:Nat)
  | arr (n e:Nat)
  | st (fs:List (Nat×Nat))
  | ptr
  | mp (k e:Nat)
  | ifc
  | oth
structure TI where
  td:TD
  agg:Bool
  size:Nat
  bytes:Nat
  zero:Option AV
def TdOk:Option TypeDesc→TD→Prop
  | some (.int k),.int k'=>k=k'
  | some .bool,.bool=>True
  | some .string,.str=>True
  | some (.slice e),.sl e'=>e=e'
  | some (.array n e),.arr n' e'=>n=n'∧e=e'
  | some (.struct fs),.st l=>fs.toList.map (fun f=>(f.type,f.offset))=l
  | some (.pointer _),.ptr=>True
  | some (.map k e),.mp k' e'=>k=k'∧e=e'
  | some (.interface _),.ifc=>True
  | some _,.oth=>True
  | _,_=>False
def sameF:List Field→List (Nat×Nat)→Bool
  | [],[]=>true
  | f::fs,(a,b)::l=>Nat.beq f.type a&&(Nat.beq f.offset b&&sameF fs l)
  | _,_=>false
def tdB:Option TypeDesc→TD→Bool
  | some (.int k),.int k'=>kindEq k k'
  | some .bool,.bool=>true
  | some .string,.str=>true
  | some (.slice e),.sl e'=>Nat.beq e e'
  | some (.array n e),.arr n' e'=>Nat.beq n n'&&Nat.beq e e'
  | some (.struct fs),.st l=>sameF fs.toList l
  | some (.pointer _),.ptr=>true
  | some (.map k e),.mp k' e'=>Nat.beq k k'&&Nat.beq e e'
  | some (.interface _),.ifc=>true
  | some _,.oth=>true
  | _,_=>false
theorem sameF_eq:∀(fs:List Field) (l:List (Nat×Nat)),sameF fs l=true→fs.map (fun f=>(f.type,f.offset))=l
  | [],[],_=>rfl
  | f::fs,(a,b)::l,h=>by
    simp only [sameF,Bool.and_eq_true] at h
    simp [sameF_eq fs l h.2.2,Nat.beq_eq.mp h.1,Nat.beq_eq.mp h.2.1]
  | [],_::_,h=>by cases h
  | _::_,[],h=>by cases h
theorem tdB_ok (u:Option TypeDesc) (td:TD) (h:tdB u td=true):TdOk u td:=by
  unfold tdB at h
  split at h
  · exact kindEq_eq h
  · trivial
  · trivial
  · exact Nat.beq_eq.mp h
  · simp only [Bool.and_eq_true] at h;exact ⟨Nat.beq_eq.mp h.1,Nat.beq_eq.mp h.2⟩
  · exact sameF_eq _ _ h
  · trivial
  · simp only [Bool.and_eq_true] at h;exact ⟨Nat.beq_eq.mp h.1,Nat.beq_eq.mp h.2⟩
  · trivial
  · cases ‹TypeDesc›<;>trivial
  · cases h
structure TiOk (P:Program) (t:Nat) (ti:TI):Prop where
  td:TdOk (P.underlying t) ti.td
  agg:tagg P t=some (ti.agg,ti.size)
  size:tsize P t=some ti.size
  zero:∀z,ti.zero=some z→zeroA P t=some z
  info:∃inf,P.info? t=some inf∧inf.size=ti.size∧inf.bytes=ti.bytes
noncomputable def tiB (P:Program) (t:Nat) (ti:TI):Bool :=
  (tdB (P.underlying t) ti.td&&(match tagg P t with|some (a,n)=>(a==ti.agg)&&Nat.beq n ti.size|none=>false)) &&
  ((match tsize P t with|some n=>Nat.beq n ti.size|none=>false) &&
  ((match ti.zero with|some z=>(match zeroA P t with|some z'=>sameA z' z|none=>false)|none=>true) &&
  (match P.info? t with|some inf=>Nat.beq inf.size ti.size&&Nat.beq inf.bytes ti.bytes|none=>false)))
theorem tiB_ok {P:Program} {t:Nat} {ti:TI} (h:tiB P t ti=true):TiOk P t ti:=by
  simp only [tiB,Bool.and_eq_true] at h
  obtain ⟨⟨h1,h2⟩,h3,h4,h5⟩:=h
  refine ⟨tdB_ok _ _ h1,?_,?_,?_,?_⟩
  · split at h2
    · rename_i a n e
      simp only [Bool.and_eq_true,beq_iff_eq] at h2
      rw [e,h2.1,Nat.beq_eq.mp h2.2]
    · cases h2
  · split at h3
    · rename_i n e;rw [e,Nat.beq_eq.mp h3]
    · cases h3
  · intro z hz
    rw [hz] at h4
    simp only at h4
    split at h4
    · rename_i z' e;rw [e,sameA_eq _ _ h4]
    · cases h4
  · split at h5
    · rename_i inf e
      simp only [Bool.and_eq_true] at h5
      exact ⟨inf,e,Nat.beq_eq.mp h5.1,Nat.beq_eq.mp h5.2⟩
    · cases h5
def TabOk (P:Program) (tb:T TI):Prop:=∀t ti,T.get tb (K.of t)=some ti→TiOk P t ti
noncomputable def optT (P:Program) (v:Option TI) (t:Nat):Bool:=match v with
  | some ti=>tiB P t ti
  | none=>true
noncomputable def chkT (P:Program) (t:T TI):(K→K)→Bool:=@T.rec TI (fun _=>(K→K)→Bool) (fun _=>true)
  (fun _ v _ ihl ihr κ=>optT P v (κ .z).val&&(ihl (fun k=>κ (.o k))&&ihr (fun k=>κ (.i k)))) t
theorem chkT_ok {P:Program}:∀(t:T TI) (κ:K→K),chkT P t κ=true→∀k ti,T.get t k=some ti→tiB P (κ k).val ti=true
  | .e,κ,_,k,ti,h=>by rw [T.get_e] at h;cases h
  | .n l v r,κ,h,k,ti,hk=>by
    have h:(optT P v (κ .z).val&&(chkT P l (fun k=>κ (.o k))&&chkT P r (fun k=>κ (.i k))))=true:=h
    simp only [Bool.and_eq_true] at h
    cases k with
    | z =>
      have hk:v=some ti:=hk
      rw [hk] at h
      exact h.1
    | o k=>exact chkT_ok l _ h.2.1 k ti hk
    | i k=>exact chkT_ok r _ h.2.2 k ti hk
theorem tabOk {P:Program} {tb:T TI} (h:chkT P tb (fun k=>k)=true):TabOk P tb:=fun t ti e=>by
  have:=chkT_ok tb _ h _ _ e
  rw [K.val_of] at this
  exact tiB_ok this
variable (tb:T TI) (Γ:Gm)
noncomputable def ti (t:Nat):Option TI:=T.get tb (K.of t)
noncomputable def bitI (op:BinOp) (k:IntKind) (a b:Int):Int:=match op with
  | .and=>k.wrap (BitVec.ofInt k.bits a &&& BitVec.ofInt k.bits b).toNat
  | .or=>k.wrap (BitVec.ofInt k.bits a ||| BitVec.ofInt k.bits b).toNat
  | _=>k.wrap (BitVec.ofInt k.bits a ^^^ BitVec.ofInt k.bits b).toNat
noncomputable def binI (op:BinOp) (k:IntKind) (a b:Int):Option AV:=match op with
  | .add=>some (.int k (k.wrap (a+b)))
  | .sub=>some (.int k (k.wrap (a-b)))
  | .mul=>some (.int k (k.wrap (a * b)))
  | .and=>some (.int k (bitI .and k a b))
  | .or=>some (.int k (bitI .or k a b))
  | .xor=>some (.int k (bitI .xor k a b))
  | .eql=>some (.bool (decide (a=b)))
  | .neq=>some (.bool (decide (¬a=b)))
  | .lss=>some (.bool (decide (a<b)))
  | .leq=>some (.bool (decide (a≤b)))
  | .gtr=>some (.bool (decide (b<a)))
  | .geq=>some (.bool (decide (b≤a)))
  | _=>none
noncomputable def binG (t:Nat) (op:BinOp) (x y:Option AV):Option AV:=match x,y with
  | some (.int k a),some (.int k' b)=>match kindEq k k' with
    | true=>binI op k a b
    | false=>none
  | some (.str a),some (.str b)=>match op with
    | .eql=>some (.bool (eqN a b))
    | .neq=>some (.bool (!eqN a b))
    | .lss=>some (.bool (ltN a b))
    | .leq=>some (.bool (ltN a b||eqN a b))
    | .gtr=>some (.bool (!(ltN a b||eqN a b)))
    | .geq=>some (.bool (!ltN a b))
    | _=>none
  | some (.bool a),some (.bool b)=>match ti tb t with
    | some ⟨.bool,_,_,_,_⟩=>match op with
      | .eql=>some (.bool (a==b))
      | .neq=>some (.bool (!(a==b)))
      | _=>none
    | _=>none
  | some (.ptr a),some (.ptr none)=>match ti tb t,a,op with
    | some ⟨.ptr,_,_,_,_⟩,none,.eql=>some (.bool true)
    | some ⟨.ptr,_,_,_,_⟩,none,.neq=>some (.bool false)
    | some ⟨.ptr,_,_,_,_⟩,some _,.eql=>some (.bool false)
    | some ⟨.ptr,_,_,_,_⟩,some _,.neq=>some (.bool true)
    | _,_,_=>none
  | _,_=>none
noncomputable def offG (t f:Nat):Option Nat:=match ti tb t with
  | some ⟨.st fs,_,_,_,_⟩=>match getL fs f with
    | some (ft,o)=>match ti tb ft with
      | some ⟨_,_,n,_,_⟩=>match n with
        | 0=>none
        | _+1=>some o
      | none=>none
    | none=>none
  | _=>none
noncomputable def partG (t:Nat) (l:List AV) (o:Nat):Option AV:=match ti tb t with
  | some ⟨_,a,n,_,_⟩=>partB l o (a,n)
  | none=>none
noncomputable def fieldG (t f:Nat) (x:Option AV):Option AV:=match x,ti tb t with
  | some (.agg l),some ⟨.st fs,_,_,_,_⟩=>match getL fs f with
    | some (ft,o)=>partG tb ft l o
    | none=>none
  | _,_=>none
noncomputable def addrG (x:Option AV) (o:Option Nat):Option AV:=match x,o with
  | some (.ptr (some (i,p))),some o=>some (.ptr (some (i,p+o)))
  | _,_=>none
noncomputable def convG (a b:Nat) (x:Option AV):Option AV:=match x,ti tb a,ti tb b with
  | some (.int _ n),some ⟨.int _,_,_,_,_⟩,some ⟨.int k,_,_,_,_⟩=>some (.int k (k.wrap n))
  | some (.str s),some ⟨.str,_,_,_,_⟩,some ⟨.str,_,_,_,_⟩=>some (.str s)
  | _,_,_=>none
noncomputable def lenG (t:Nat) (x:Option AV):Option AV:=match x,ti tb t with
  | some (.slice _ n _),some ⟨.sl _,_,_,_,_⟩=>some (.int .i64 (n:Nat))
  | some (.str s),some ⟨.str,_,_,_,_⟩=>some (.int .i64 (s.length:Nat))
  | some _,some ⟨.arr n _,_,_,_,_⟩=>some (.int .i64 (n:Nat))
  | some (.map none),some ⟨.mp _ _,_,_,_,_⟩=>some (.int .i64 0)
  | _,_=>none
noncomputable def pickG (c a b:Option AV):Option AV:=match c with
  | some (.bool true)=>a
  | some (.bool false)=>b
  | _=>none
noncomputable def ifaceG (t:Nat) (x:Option AV):Option AV:=match x,ti tb t with
  | _,some ⟨.ifc,_,_,_,_⟩=>none
  | _,some ⟨.oth,_,_,_,_⟩=>none
  | some v,some _=>some (.iface t v)
  | _,_=>none
noncomputable def mmG (least:Bool) (x:Option (List AV)):Option AV:=match x with
  | some [.int k a,.int _ b]=>match least with
    | true=>some (.int k (if b<a then b else a))
    | false=>some (.int k (if b>a then b else a))
  | _=>none
noncomputable def buildG (t:Nat) (ps:Option (List (Nat×AV))):Option AV:=match ps,ti tb t with
  | some [],some ⟨.arr n e,_,_,_,some (.agg l)⟩=>match ti tb e with
    | some _=>some (.agg l)
    | none=>none
  | some ps,some ⟨.st fs,_,_,_,some z⟩=>match fs.mapM (fun f=>(ti tb f.1).map fun i=>(f.2,i.size)) with
    | some pl=>match fillA (getL pl) z.parts ps with
      | some cs=>some (.agg cs)
      | none=>none
    | none=>none
  | _,_=>none
noncomputable def egParts (l:List (Nat×Operand)):Option (List (Nat×AV)):=@List.rec (Nat×Operand) (fun _=>Option (List (Nat×AV))) (some []) (fun x _ ih=>cons2 (@Option.rec AV (fun _=>Option (Nat×AV)) none (fun v=>some (x.1,v)) (eg Γ x.2)) ih) l
noncomputable def opG:Op→Option AV
  | .move x=>eg Γ x
  | .assign x=>eg Γ x
  | .pick c a b=>pickG (eg Γ c) (eg Γ a) (eg Γ b)
  | .binOp op t x y _=>binG tb t op (eg Γ x) (eg Γ y)
  | .unOp op _ x=>match op,eg Γ x with
    | .not,some (.bool b)=>some (.bool (!b))
    | .neg,some (.int k n)=>some (.int k (k.wrap (0-n)))
    | _,_=>none
  | .convert a b x=>convG tb a b (eg Γ x)
  | .field t x f=>fieldG tb t f (eg Γ x)
  | .fieldAddr t x f=>addrG (eg Γ x) (offG tb t f)
  | .extract x i=>match eg Γ x with
    | some (.tup l)=>getL l i
    | _=>none
  | .nilCheck x=>match eg Γ x with
    | some (.ptr (some a))=>some (.ptr (some a))
    | some (.func f a b)=>some (.func f a b)
    | _=>none
  | .makeInterface t x=>ifaceG tb t (eg Γ x)
  | .makeFunc (.func f) a b=>match egs Γ a.toList,egs Γ b.toList with
    | some a,some b=>some (.func f a b)
    | _,_=>none
  | .build t ps=>buildG tb t (egParts Γ ps.toList)
  | .call { callee:=.builtin .len,args:=xs,argTypes:=ts }=>match egs Γ xs.toList,ts.toList with
    | some [x],t::_=>lenG tb t (some x)
    | _,_=>none
  | .call { callee:=.builtin .min,args:=xs,.. }=>mmG true (egs Γ xs.toList)
  | .call { callee:=.builtin .max,args:=xs,.. }=>mmG false (egs Γ xs.toList)
  | _=>none
variable {P:Program} {tb Γ}
theorem TabOk.get (hT:TabOk P tb) {t:Nat} {i:TI} (h:ti tb t=some i):TiOk P t i:=hT t i h
theorem binI_ok {op:BinOp} {k:IntKind} {a b:Int} {v:AV} (h:binI op k a b=some v):intBin op k a k b=some v:=by
  have hk:kindEq k k=true:=by cases k<;>rfl
  have hs:∀x,sameK k k x=x:=fun x=>by unfold sameK;rw [hk]
  have goal:∀x,x=some v→sameK k k x=some v:=fun x hx=>(hs x).trans hx
  cases op<;>first|(cases h;done)|(refine goal _ (Eq.trans ?_ h))
  all_goals first
    | rfl
    | (simp only [wrapF_eq,iadd_eq,ieqb_eq,iltb_eq,ileb_eq,binI,bitI];done)
    | (simp only [wrapF_eq,iadd_eq,ieqb_eq,iltb_eq,ileb_eq,binI,bitI];congr 2;rw [Bool.eq_iff_iff];simp;done)
    | (simp only [wrapF_eq,iadd_eq,ieqb_eq,iltb_eq,ileb_eq,binI,bitI];rfl)
section
variable {z1:Bool} {z2 z3:Nat} {z4:Option AV} {t:Nat}
theorem TabOk.int (hT:TabOk P tb) {k:IntKind} (h:ti tb t=some ⟨.int k,z1,z2,z3,z4⟩):P.underlying t=some (.int k):=by
  have hu:=(hT.get h).td
  cases hp:P.underlying t with
  | none=>rw [hp] at hu;exact hu.elim
  | some d=>rw [hp] at hu;cases d<;>first|exact hu.elim|(have hu:_=k:=hu;rw [hu])
theorem TabOk.bool (hT:TabOk P tb) (h:ti tb t=some ⟨.bool,z1,z2,z3,z4⟩):P.underlying t=some .bool:=by
  have hu:=(hT.get h).td
  cases hp:P.underlying t with
  | none=>rw [hp] at hu;exact hu.elim
  | some d=>rw [hp] at hu;cases d<;>first|rfl|exact hu.elim
theorem TabOk.str (hT:TabOk P tb) (h:ti tb t=some ⟨.str,z1,z2,z3,z4⟩):P.underlying t=some .string:=by
  have hu:=(hT.get h).td
  cases hp:P.underlying t with
  | none=>rw [hp] at hu;exact hu.elim
  | some d=>rw [hp] at hu;cases d<;>first|rfl|exact hu.elim
theorem TabOk.sl (hT:TabOk P tb) {e:Nat} (h:ti tb t=some ⟨.sl e,z1,z2,z3,z4⟩):P.underlying t=some (.slice e):=by
  have hu:=(hT.get h).td
  cases hp:P.underlying t with
  | none=>rw [hp] at hu;exact hu.elim
  | some d=>rw [hp] at hu;cases d<;>first|exact hu.elim|(have hu:_=e:=hu;rw [hu])
theorem TabOk.arr (hT:TabOk P tb) {n e:Nat} (h:ti tb t=some ⟨.arr n e,z1,z2,z3,z4⟩):P.underlying t=some (.array n e):=by
  have hu:=(hT.get h).td
  cases hp:P.underlying t with
  | none=>rw [hp] at hu;exact hu.elim
  | some d=>rw [hp] at hu;cases d<;>first|exact hu.elim|(have hu:_=n∧_=e:=hu;rw [hu.1,hu.2])
theorem TabOk.mp (hT:TabOk P tb) {k e:Nat} (h:ti tb t=some ⟨.mp k e,z1,z2,z3,z4⟩):P.underlying t=some (.map k e):=by
  have hu:=(hT.get h).td
  cases hp:P.underlying t with
  | none=>rw [hp] at hu;exact hu.elim
  | some d=>rw [hp] at hu;cases d<;>first|exact hu.elim|(have hu:_=k∧_=e:=hu;rw [hu.1,hu.2])
theorem TabOk.ptr (hT:TabOk P tb) (h:ti tb t=some ⟨.ptr,z1,z2,z3,z4⟩):∃d,P.underlying t=some (.pointer d):=by
  have hu:=(hT.get h).td
  cases hp:P.underlying t with
  | none=>rw [hp] at hu;exact hu.elim
  | some d=>rw [hp] at hu;cases d<;>first|exact ⟨_,rfl⟩|exact hu.elim
theorem TabOk.st (hT:TabOk P tb) {l:List (Nat×Nat)} (h:ti tb t=some ⟨.st l,z1,z2,z3,z4⟩):∃fs,P.underlying t=some (.struct fs)∧fs.toList.map (fun f=>(f.type,f.offset))=l:=by
  have hu:=(hT.get h).td
  cases hp:P.underlying t with
  | none=>rw [hp] at hu;exact hu.elim
  | some d=>rw [hp] at hu;cases d<;>first|exact hu.elim|exact ⟨_,rfl,hu⟩
end
theorem partG_ok (hT:TabOk P tb) {t:Nat} {l:List AV} {o:Nat} {v:AV} (h:partG tb t l o=some v):partA P t l o=some v:=by
  unfold partG at h
  split at h
  · rename_i ht
    unfold partA
    rw [(hT.get ht).agg]
    exact h
  · cases h
theorem egParts_ok {tm:Tm} (hG:TmG Γ tm):∀ {l:List (Nat×Operand)} {ps:List (Nat×AV)},egParts Γ l=some ps→evParts tm l=some ps
  | [],ps,h=>h
  | x::l,ps,h=>by
    obtain ⟨p,r,h1,h2,rfl⟩:=cons2_some (show cons2 (@Option.rec AV (fun _=>Option (Nat×AV)) none (fun v=>some (x.1,v)) (eg Γ x.2)) (egParts Γ l)=some ps from h)
    show cons2 (evPart tm x) (evParts tm l)=_
    rw [egParts_ok hG h2]
    cases hx:eg Γ x.2 with
    | none=>rw [hx] at h1;cases h1
    | some v =>
      rw [hx] at h1
      injection h1 with h1;subst h1
      unfold evPart
      rw [hG.eg hx];rfl
theorem getL_map {α β:Type} (f:α→β):∀(l:List α) (i:Nat) (y:β),getL (l.map f) i=some y→∃x,getL l i=some x∧f x=y:=fun l i y h=>by
  rw [getL_eq,List.getElem?_map] at h
  obtain ⟨x,h1,h2⟩:=Option.map_eq_some_iff.1 h
  exact ⟨x,by rw [getL_eq];exact h1,h2⟩
theorem places_ok (hT:TabOk P tb):∀(fs:List Field) (pl:List (Nat×Nat)),(fs.map (fun f=>(f.type,f.offset))).mapM (fun f=>(ti tb f.1).map fun i=>(f.2,i.size))=some pl→placesOf P fs=some pl
  | [],pl,h=>by simpa [placesOf] using h
  | f::fs,pl,h=>by
    simp only [List.map_cons,List.mapM_cons,Option.bind_eq_bind,Option.bind_eq_some_iff,Option.map_eq_some_iff,Option.pure_def,Option.some.injEq] at h
    obtain ⟨x,⟨i,hi,rfl⟩,r,hr,rfl⟩:=h
    have:=places_ok hT fs r hr
    obtain ⟨inf,h1,h2,-⟩:=(hT.get hi).info
    unfold placesOf at this ⊢
    simp only [List.mapM_cons,Option.bind_eq_bind,Option.bind_eq_some_iff,Option.map_eq_some_iff,Option.pure_def,Option.some.injEq]
    exact ⟨_,⟨inf,h1,rfl⟩,r,this,by rw [h2]⟩
theorem opG_ok (hT:TabOk P tb) {tm:Tm} (hG:TmG Γ tm) {o:Op} {v:AV} (h:opG tb Γ o=some v) (call:Nat→List AV→St→CR) (s:St):opA o P call tm s=.ret v s:=by
  unfold opG at h
  split at h
  · -- move
    show ofO (ev tm _) s=_
    rw [hG.eg h];rfl
  · show ofO (ev tm _) s=_
    rw [hG.eg h];rfl
  · -- pick
    unfold pickG at h
    split at h
    · rename_i hc
      show ofO (opPick (ev tm _) (ev tm _) (ev tm _)) s=_
      rw [hG.eg hc,hG.eg h];rfl
    · rename_i hc
      show ofO (opPick (ev tm _) (ev tm _) (ev tm _)) s=_
      rw [hG.eg hc,hG.eg h];rfl
    · cases h
  · -- binOp
    rename_i op t x y u
    show ofO (opBin P op t (ev tm x) (ev tm y)) s=_
    unfold binG at h
    split at h
    · rename_i k a k' b hx hy
      split at h
      · rename_i hk
        have:=kindEq_eq hk;subst this
        rw [hG.eg hx,hG.eg hy]
        show ofO (intBin op k a k b) s=_
        rw [binI_ok h];rfl
      · cases h
    · rename_i a b hx hy
      rw [hG.eg hx,hG.eg hy]
      show ofO (strBin op a b) s=_
      cases op<;>simp only at h<;>first|cases h|skip
      all_goals rfl
    · rename_i a b hx hy
      rw [hG.eg hx,hG.eg hy]
      show ofO (binOther op P t (.bool a) (.bool b)) s=_
      split at h
      · rename_i z ht
        have hu:=hT.bool ht
        cases op<;>simp only at h<;>first|cases h|skip
        · simp only [binOther,eqA,hu];rfl
        · simp only [binOther,eqA,hu];rfl
      · cases h
    · rename_i a hx hy
      rw [hG.eg hx,hG.eg hy]
      show ofO (binOther op P t (.ptr a) (.ptr none)) s=_
      split at h
      all_goals first|(cases h;done)|skip
      all_goals
        rename_i ht
        obtain ⟨d,hd⟩:=hT.ptr ht
        injection h with h;subst h
        simp only [binOther,eqA,hd];rfl
    · cases h
  · -- unOp
    split at h
    · injection h with h;subst h
      show ofO (opUn .not (ev tm _)) s=_
      rw [hG.eg ‹eg Γ _=some (AV.bool _)›];rfl
    · injection h with h;subst h
      show ofO (opUn .neg (ev tm _)) s=_
      rw [hG.eg ‹eg Γ _=some (AV.int _ _)›];rfl
    · cases h
  · -- convert
    rename_i a b x
    show opConvS P a b (ev tm x) s=_
    unfold convG at h
    split at h
    · rename_i hx ha hb
      injection h with h;subst h
      simp only [hG.eg hx,opConvS,opConv,hT.int ha,hT.int hb];rfl
    · rename_i hx ha hb
      injection h with h;subst h
      simp only [hG.eg hx,opConvS,opConv,hT.str ha,hT.str hb];rfl
    · cases h
  · -- field
    rename_i t x f
    show ofO (opField P t (ev tm x) f) s=_
    unfold fieldG at h
    split at h
    · rename_i hx ht
      split at h
      · rename_i ft o hf
        obtain ⟨fs,h1,h2⟩:=hT.st ht
        rw [←h2] at hf
        obtain ⟨d,h3,h4⟩:=getL_map _ _ _ _ hf
        injection h4 with h4 h5;subst h4;subst h5
        simp only [hG.eg hx,opField,h1,h3,partG_ok hT h];rfl
      · cases h
    · cases h
  · -- fieldAddr
    rename_i t x f
    show ofO (opFieldAddr P t (ev tm x) f) s=_
    unfold addrG at h
    split at h
    · rename_i i p o hx ho
      injection h with h;subst h
      unfold offG at ho
      split at ho
      · rename_i ht
        split at ho
        · rename_i ft o' hf
          split at ho
          · rename_i hft
            split at ho
            · cases ho
            · rename_i m
              injection ho with ho;subst ho
              obtain ⟨fs,h1,h2⟩:=hT.st ht
              rw [←h2] at hf
              obtain ⟨d,h3,h4⟩:=getL_map _ _ _ _ hf
              injection h4 with h4 h5;subst h4;subst h5
              rw [getL_eq] at h3
              have h6:offOf P t f=some d.offset:=by
                simp only [offOf,h1,h3,(hT.get hft).size]
              simp only [hG.eg hx,opFieldAddr,h6];rfl
          · cases ho
        · cases ho
      · cases ho
    · cases h
  · -- extract
    split at h
    · show ofO (opExtract (ev tm _) _) s=_
      rw [hG.eg ‹eg Γ _=some (AV.tup _)›]
      show ofO (getL _ _) s=_
      rw [h];rfl
    · cases h
  · -- nilCheck
    split at h
    · injection h with h;subst h
      show ofO (opNil (ev tm _)) s=_
      rw [hG.eg ‹eg Γ _=some (AV.ptr _)›];rfl
    · injection h with h;subst h
      show ofO (opNil (ev tm _)) s=_
      rw [hG.eg ‹eg Γ _=some (AV.func _ _ _)›];rfl
    · cases h
  · -- makeInterface
    rename_i t x
    show ofO (opMkIface P t (ev tm x)) s=_
    unfold ifaceG at h
    split at h
    · cases h
    · cases h
    · rename_i v' td h1 h2 hx ht
      injection h with h;subst h
      have hu:=(hT.get ht).td
      rw [hG.eg hx]
      cases hp:P.underlying t with
      | none=>rw [hp] at hu;exact hu.elim
      | some d =>
        rw [hp] at hu
        obtain ⟨td,z1,z2,z3,z4⟩:=td
        cases d<;>first|(simp only [opMkIface,hp];rfl)|skip
        cases td<;>first|exact hu.elim|(exact absurd rfl (h1 _ _ _ _))|(exact absurd rfl (h2 _ _ _ _))
    · cases h
  · -- makeFunc
    split at h
    · rename_i ha hb
      injection h with h;subst h
      show ofO (opMkFunc (.func _) (evs tm _) (evs tm _)) s=_
      rw [hG.egs ha,hG.egs hb];rfl
    · cases h
  · -- build
    rename_i t ps
    show ofO (opBuild P t (evParts tm ps.toList)) s=_
    unfold buildG at h
    split at h
    · rename_i hps ht
      split at h
      · rename_i he
        injection h with h;subst h
        have h4:=(hT.get ht).zero _ rfl
        simp only [opBuild,egParts_ok hG hps,h4,hT.arr ht,(hT.get he).size];rfl
      · cases h
    · rename_i ps' z1 z2 z3 fs z hps ht
      split at h
      · rename_i pl hpl
        split at h
        · rename_i cs hcs
          injection h with h;subst h
          obtain ⟨fs,h1,h2⟩:=hT.st ht
          rw [←h2] at hpl
          have h3:=places_ok hT _ _ hpl
          have h4:=(hT.get ht).zero _ rfl
          simp only [opBuild,egParts_ok hG hps,h4,h1,h3,hcs];rfl
        · cases h
      · cases h
    · cases h
  · -- len
    split at h
    · rename_i x t ts' hx hts
      show opCall P call _ tm s=_
      unfold opCall
      simp only [hG.egs hx]
      show ofO (opLen P _ x s) s=_
      rw [hts]
      unfold lenG at h
      split at h
      · rename_i hv ht
        injection hv with hv;subst hv
        injection h with h;subst h
        simp only [opLen,hT.sl ht];rfl
      · rename_i hv ht
        injection hv with hv;subst hv
        injection h with h;subst h
        simp only [opLen,hT.str ht];rfl
      · rename_i hv ht
        injection h with h;subst h
        simp only [opLen,hT.arr ht];rfl
      · rename_i hv ht
        injection hv with hv;subst hv
        injection h with h;subst h
        simp only [opLen,hT.mp ht];rfl
      · cases h
    · cases h
  · -- min
    unfold mmG at h
    split at h
    · rename_i k a k' b hx
      injection h with h;subst h
      show opCall P call _ tm s=_
      unfold opCall
      simp only [hG.egs hx];rfl
    · cases h
  · unfold mmG at h
    split at h
    · rename_i k a k' b hx
      injection h with h;subst h
      show opCall P call _ tm s=_
      unfold opCall
      simp only [hG.egs hx];rfl
    · cases h
  · cases h
end Go.Proofs.YtoegffiapnnkiaaGreat.Abs
namespace Go.Proofs.YtoegffiapnnkiaaGreat.Abs
open Go
set_option linter.unusedVariables false
set_option linter.unusedSimpArgs false
variable {P:Program} {g:Cg} {n:Nat} {V:K→Option (List AV)} {rs:List ResultVar} {st:List Fr} {e:Ex} {Γ Γ':Gm} {Δ Δ':Dm} {Q Q':RO→Dm→Prop} {tb:T TI} {b:Bool} {all rest:List Oper}
variable {t ty:TypeId} {pos:String} {after:Array Edge} {gd:Option (Nat×Bool)} {d:Nat} {x y ix:Operand}
theorem opG_app {o:Op} {v:AV} (h:opG tb Γ o=some v):isApp o=false:=by
  cases hi:isApp o with
  | false=>rfl
  | true =>
    unfold isApp at hi
    split at hi
    · cases h
    · cases hi
theorem opG_q (hT:TabOk P tb) {tm:Tm} (hG:TmG Γ tm) {o:Oper} {v:AV} (h:opG tb Γ o.op=some v) (call:Nat→List AV→St→CR) (s:St):opQ o P call tm s=.ret v s :=
  (opQ_eq (opG_app h) call tm s).trans (opG_ok hT hG h call s)
theorem W.pure {o:Oper} {v:AV} (hd:o.dst=some d) (hn:Nat.ble (d+1) n=true) (hw:wantG all Γ o=some true) (hv:∀tm s call,TmG Γ tm→opQ o P call tm s=.ret v s)
    (h:W P g n V rs (.o b all rest::st) .nrm ((d,v)::Γ) Δ Q):W P g n V rs (.o b all (o::rest)::st) .nrm Γ Δ Q :=
  W.op hw (by rw [hd];exact hn) fun F s tm hM hT=>⟨v,s,Δ,⟨0,fun k _=>hv tm s _ hT⟩,hM,by rw [hd];exact h⟩
theorem W.p (hT:TabOk P tb) {o:Oper} {v:AV} (hv:opG tb Γ o.op=some v) (hd:o.dst=some d) (hn:Nat.ble (d+1) n=true) (hw:wantG all Γ o=some true)
    (h:W P g n V rs (.o b all rest::st) .nrm ((d,v)::Γ) Δ Q):W P g n V rs (.o b all (o::rest)::st) .nrm Γ Δ Q :=
  W.pure hd hn hw (fun tm s call hG=>opG_q hT hG hv call s) h
theorem W.sk {o:Oper} (hd:o.dst=some d) (hn:Nat.ble (d+1) n=true) (hw:wantG all Γ o=some false)
    (h:W P g n V rs (.o b all rest::st) .nrm ((d,.tup [])::Γ) Δ Q):W P g n V rs (.o b all (o::rest)::st) .nrm Γ Δ Q :=
  W.opSkip hw (by rw [hd];exact hn) (by rw [hd];exact h)
theorem W.ia (hT:TabOk P tb) {el sz len o:Nat} {i:Int} {k:IntKind} {c:Cp} {jn:K} {a:Option (K×Nat)} {z1 z1':Bool} {z2 z3 z3':Nat} {z4 z4':Option AV} {td:TD}
    (hx:eg Γ x=some (.slice a len c)) (hi:eg Γ ix=some (.int k i)) (ht:ti tb t=some ⟨.sl el,z1,z2,z3,z4⟩) (he:ti tb el=some ⟨td,z1',sz,z3',z4'⟩)
    (hn:Nat.ble (d+1) n=true) (hw:wantG all Γ ⟨some d,.indexAddr t x ix,ty,pos,after,gd⟩=some true)
    (ha:a=some (jn,o)) (h0:0≤i) (h1:i<len)
    (h:W P g n V rs (.o b all rest::st) .nrm ((d,.ptr (some (jn,o+i.toNat * sz)))::Γ) Δ Q):W P g n V rs (.o b all (⟨some d,.indexAddr t x ix,ty,pos,after,gd⟩::rest)::st) .nrm Γ Δ Q :=
  W.pure rfl hn hw (fun tm s call hG=>by
    subst ha
    obtain ⟨m,rfl⟩:=Int.eq_ofNat_of_zero_le h0
    have hlt:Nat.blt m len=true:=by rw [Nat.blt_eq];omega
    have hz:=(hT.get he).size
    show ofO (opIndexAddr P t (ev tm x) (ev tm ix)) s=_
    rw [hG.eg hx,hG.eg hi]
    show ofO (opIndexAddr P t (some (.slice (some (jn,o)) len c)) (some (.int k (Int.ofNat m)))) s=_
    simp only [opIndexAddr,hT.sl ht,hlt,hz];rfl) h
theorem W.iaA (hT:TabOk P tb) {el sz len o:Nat} {i:Int} {k:IntKind} {jn:K} {z1 z1':Bool} {z2 z3 z3':Nat} {z4 z4':Option AV} {td:TD}
    (hx:eg Γ x=some (.ptr (some (jn,o)))) (hi:eg Γ ix=some (.int k i)) (ht:ti tb t=some ⟨.arr len el,z1,z2,z3,z4⟩) (he:ti tb el=some ⟨td,z1',sz,z3',z4'⟩)
    (hn:Nat.ble (d+1) n=true) (hw:wantG all Γ ⟨some d,.indexAddr t x ix,ty,pos,after,gd⟩=some true)
    (h0:0≤i) (h1:i<len)
    (h:W P g n V rs (.o b all rest::st) .nrm ((d,.ptr (some (jn,o+i.toNat * sz)))::Γ) Δ Q):W P g n V rs (.o b all (⟨some d,.indexAddr t x ix,ty,pos,after,gd⟩::rest)::st) .nrm Γ Δ Q :=
  W.pure rfl hn hw (fun tm s call hG=>by
    obtain ⟨m,rfl⟩:=Int.eq_ofNat_of_zero_le h0
    have hlt:Nat.blt m len=true:=by rw [Nat.blt_eq];omega
    have hz:=(hT.get he).size
    show ofO (opIndexAddr P t (ev tm x) (ev tm ix)) s=_
    rw [hG.eg hx,hG.eg hi]
    show ofO (opIndexAddr P t (some (.ptr (some (jn,o)))) (some (.int k (Int.ofNat m)))) s=_
    simp only [opIndexAddr,hT.arr ht,hlt,hz];rfl) h
theorem W.idx (hT:TabOk P tb) {s:List Nat} {i:Int} {k:IntKind} {c:Nat} {z1:Bool} {z2 z3:Nat} {z4:Option AV}
    (hx:eg Γ x=some (.str s)) (hi:eg Γ ix=some (.int k i)) (ht:ti tb t=some ⟨.str,z1,z2,z3,z4⟩)
    (hn:Nat.ble (d+1) n=true) (hw:wantG all Γ ⟨some d,.index t x ix,ty,pos,after,gd⟩=some true)
    (h0:0≤i) (h1:s[i.toNat]?=some c)
    (h:W P g n V rs (.o b all rest::st) .nrm ((d,.int .u8 ((c%256:Nat):Int))::Γ) Δ Q):W P g n V rs (.o b all (⟨some d,.index t x ix,ty,pos,after,gd⟩::rest)::st) .nrm Γ Δ Q :=
  W.pure rfl hn hw (fun tm s' call hG=>by
    obtain ⟨m,rfl⟩:=Int.eq_ofNat_of_zero_le h0
    have h1:s[m]?=some c:=h1
    show ofO (opIndex P t (ev tm x) (ev tm ix)) s'=_
    rw [hG.eg hx,hG.eg hi]
    show ofO (opIndex P t (some (.str s)) (some (.int k (Int.ofNat m)))) s'=_
    simp only [opIndex,hT.str ht,getL_eq,h1];rfl) h
theorem W.shl {k k':IntKind} {i m:Int} (hx:eg Γ x=some (.int k i)) (hy:eg Γ y=some (.int k' m)) (hn:Nat.ble (d+1) n=true) {t2:TypeId} (hw:wantG all Γ ⟨some d,.binOp .shl t x y t2,ty,pos,after,gd⟩=some true)
    (hm:0≤m) (h:W P g n V rs (.o b all rest::st) .nrm ((d,.int k (k.wrap (i * 2^(min m.toNat k.bits))))::Γ) Δ Q):W P g n V rs (.o b all (⟨some d,.binOp .shl t x y t2,ty,pos,after,gd⟩::rest)::st) .nrm Γ Δ Q :=
  W.pure rfl hn hw (fun tm s' call hG=>by
    show ofO (opBin P .shl t (ev tm x) (ev tm y)) s'=_
    rw [hG.eg hx,hG.eg hy]
    show ofO (if m<0 then none else some (.int k (wrapF k (i * 2^(min m.toNat k.bits))))) s'=_
    rw [if_neg (by omega),wrapF_eq];rfl) h
theorem W.shr {k k':IntKind} {i m:Int} (hx:eg Γ x=some (.int k i)) (hy:eg Γ y=some (.int k' m)) (hn:Nat.ble (d+1) n=true) {t2:TypeId} (hw:wantG all Γ ⟨some d,.binOp .shr t x y t2,ty,pos,after,gd⟩=some true)
    (hm:0≤m) (h:W P g n V rs (.o b all rest::st) .nrm ((d,.int k (i.fdiv (2^(min m.toNat k.bits))))::Γ) Δ Q):W P g n V rs (.o b all (⟨some d,.binOp .shr t x y t2,ty,pos,after,gd⟩::rest)::st) .nrm Γ Δ Q :=
  W.pure rfl hn hw (fun tm s' call hG=>by
    show ofO (opBin P .shr t (ev tm x) (ev tm y)) s'=_
    rw [hG.eg hx,hG.eg hy]
    show ofO (if m<0 then none else some (.int k (i.fdiv (2^(min m.toNat k.bits))))) s'=_
    rw [if_neg (by omega)];rfl) h
theorem getL_mem {α:Type} {l:List α} {i:Nat} {y:α} (h:getL l i=some y):y∈l:=by rw [getL_eq] at h;exact List.mem_of_getElem? h
theorem load_ok (hT:TabOk P tb) {tm:Tm} {s:St} {i:K} {q:Nat} {bk:Bk} {cs:List AV} {v:AV} (hG:TmG Γ tm) (hx:eg Γ x=some (.ptr (some (i,q)))) (hb:T.get s.hp i=some bk) (hr:rdl bk=some cs) (hp:partG tb t cs q=some v) (call:Nat→List AV→St→CR):opA (.load t x) P call tm s=.ret v s:=by
  show ofO (opLoad P t (ev tm x) s) s=_
  have h1:opLoad P t (some (.ptr (some (i,q)))) s=some v:=by
    show optK (fun l=>partA P t l q) (cellsAt s.hp i)=_
    have:cellsAt s.hp i=some cs:=by unfold cellsAt;rw [hb];exact hr
    rw [this]
    exact partG_ok hT hp
  rw [hG.eg hx,h1];rfl
theorem W.ldO (hT:TabOk P tb) (p:Nat) {i:K} {q:Nat} {bk:Bk} {cs:List AV} {v:AV} (hx:eg Γ x=some (.ptr (some (i,q)))) (hΔ:getL Δ p=some (i,bk)) (hr:rdl bk=some cs) (hp:partG tb t cs q=some v)
    (hn:Nat.ble (d+1) n=true) (hw:wantG all Γ ⟨some d,.load t x,ty,pos,after,gd⟩=some true)
    (h:W P g n V rs (.o b all rest::st) .nrm ((d,v)::Γ) Δ Q):W P g n V rs (.o b all (⟨some d,.load t x,ty,pos,after,gd⟩::rest)::st) .nrm Γ Δ Q :=
  W.op hw hn fun F s tm hM hG=>⟨v,s,Δ,⟨0,fun k _=>load_ok hT hG hx (hM.own _ (getL_mem hΔ)) hr hp (callA P g (exec P g k))⟩,hM,h⟩
theorem W.ldV (hT:TabOk P tb) {i:K} {q:Nat} {cs:List AV} {v:AV} (hx:eg Γ x=some (.ptr (some (i,q))))
    (hn:Nat.ble (d+1) n=true) (hw:wantG all Γ ⟨some d,.load t x,ty,pos,after,gd⟩=some true) (hV:V i=some cs) (hp:partG tb t cs q=some v)
    (h:W P g n V rs (.o b all rest::st) .nrm ((d,v)::Γ) Δ Q):W P g n V rs (.o b all (⟨some d,.load t x,ty,pos,after,gd⟩::rest)::st) .nrm Γ Δ Q :=
  W.op hw hn fun F s tm hM hG=>by
    obtain ⟨bk,h1,h2⟩:=hM.view _ _ hV
    exact ⟨v,s,Δ,⟨0,fun k _=>load_ok hT hG hx h1 h2 hp (callA P g (exec P g k))⟩,hM,h⟩
noncomputable def partsO (v:AV):Option (List AV):=match v with
  | .agg l=>some l
  | v=>some [v]
theorem partsO_eq {v:AV} {l:List AV} (h:partsO v=some l):v.parts=l:=by
  cases v<;>exact Option.some.inj h
theorem W.box {v:AV} {l:List AV} {m:Nat} (hx:eg Γ x=some v) (hl:partsO v=some l) (hm:some (lenL l)=some m) (hn:Nat.ble (d+1) n=true) (hw:wantG all Γ ⟨some d,.box t x,ty,pos,after,gd⟩=some true)
    (h:∀i,W P g n V rs (.o b all rest::st) .nrm ((d,.ptr (some (i,0)))::Γ) ((i,.cells l t m true)::Δ) Q):W P g n V rs (.o b all (⟨some d,.box t x,ty,pos,after,gd⟩::rest)::st) .nrm Γ Δ Q :=
  W.op hw hn fun F s tm hM hG=>⟨.ptr (some (s.nx,0)),newB s (.cells l t m true),(s.nx,.cells l t m true)::Δ,⟨0,fun k _=>by
    show ofP (opBox t (ev tm x) s)=_
    rw [hG.eg hx]
    injection hm with hm
    show ofP (some (AV.ptr (some (s.nx,0)),newB s (.cells v.parts t (lenL v.parts) true)))=_
    rw [partsO_eq hl,hm];rfl⟩,hM.alloc trivial,h s.nx⟩
theorem W.alloc (hT:TabOk P tb) {l:List AV} {z:AV} {m:Nat} {td:TD} {z1:Bool} {z2 z3:Nat} (ht:ti tb t=some ⟨td,z1,z2,z3,some z⟩) (hl:partsO z=some l) (hm:some (lenL l)=some m) (hn:Nat.ble (d+1) n=true) (hw:wantG all Γ ⟨some d,.alloc t,ty,pos,after,gd⟩=some true)
    (h:∀i,W P g n V rs (.o b all rest::st) .nrm ((d,.ptr (some (i,0)))::Γ) ((i,.cells l t m true)::Δ) Q):W P g n V rs (.o b all (⟨some d,.alloc t,ty,pos,after,gd⟩::rest)::st) .nrm Γ Δ Q :=
  W.op hw hn fun F s tm hM hG=>⟨.ptr (some (s.nx,0)),newB s (.cells l t m true),(s.nx,.cells l t m true)::Δ,⟨0,fun k _=>by
    injection hm with hm
    show ofP (opAlloc P t s)=_
    unfold opAlloc
    rw [(hT.get ht).zero z rfl]
    simp only
    rw [partsO_eq hl,hm];rfl⟩,hM.alloc trivial,h s.nx⟩
theorem W.stF (hT:TabOk P tb) {i:K} {q el z sz:Nat} {f:Bool} {l l' ps:List AV} {v:AV} {td:TD} {z1:Bool} {z3:Nat} {z4:Option AV} (hx:eg Γ x=some (.ptr (some (i,q)))) (hy:eg Γ y=some v) (ht:ti tb t=some ⟨td,z1,sz,z3,z4⟩)
    (hw:wantG all Γ ⟨none,.store t x y,ty,pos,after,gd⟩=some true) (hps:partsO v=some ps) (hlen:Nat.beq (lenL ps) sz=true) (hlf:allLeaf ps=true) (hset:setLs l q ps=some l')
    (h:W P g n V rs (.o b all rest::st) .nrm Γ ((i,.cells l' el z f)::Δ) Q):W P g n V rs (.o b all (⟨none,.store t x y,ty,pos,after,gd⟩::rest)::st) .nrm Γ ((i,.cells l el z f)::Δ) Q :=
  W.op hw rfl fun F s tm hM hG=>⟨.tup [],setB s i (.cells l' el z f),(i,.cells l' el z f)::Δ,⟨0,fun k _=>by
    show ofS (opStore P t (ev tm x) (ev tm y) s)=_
    have h1:=hM.own (i,.cells l el z f) (by simp)
    simp only [hG.eg hx,hG.eg hy,opStore,h1,(hT.get ht).size,partsO_eq hps,hlen,hlf,hset];rfl⟩,hM.set trivial,h⟩
theorem W.fr1 {x1 x2:K×Bk} (h:W P g n V rs st e Γ (x2::x1::Δ) Q):W P g n V rs st e Γ (x1::x2::Δ) Q:=W.perm _ (List.Perm.swap _ _ _) h
theorem W.fr2 {x1 x2 x3:K×Bk} (h:W P g n V rs st e Γ (x3::x1::x2::Δ) Q):W P g n V rs st e Γ (x1::x2::x3::Δ) Q:=W.perm _ (List.perm_middle (l₁:=[x1,x2])).symm h
theorem W.fr3 {x1 x2 x3 x4:K×Bk} (h:W P g n V rs st e Γ (x4::x1::x2::x3::Δ) Q):W P g n V rs st e Γ (x1::x2::x3::x4::Δ) Q:=W.perm _ (List.perm_middle (l₁:=[x1,x2,x3])).symm h
theorem W.fr4 {x1 x2 x3 x4 x5:K×Bk} (h:W P g n V rs st e Γ (x5::x1::x2::x3::x4::Δ) Q):W P g n V rs st e Γ (x1::x2::x3::x4::x5::Δ) Q:=W.perm _ (List.perm_middle (l₁:=[x1,x2,x3,x4])).symm h
end Go.Proofs.YtoegffiapnnkiaaGreat.Abs
namespace Go.Proofs.YtoegffiapnnkiaaGreat.Abs
open Go
set_option linter.unusedVariables false
set_option linter.unusedSimpArgs false
variable {P:Program} {g:Cg} {n:Nat} {V:K→Option (List AV)} {rs:List ResultVar} {st:List Fr} {e:Ex} {Γ Γ':Gm} {Δ Δ':Dm} {Q Q':RO→Dm→Prop} {tb:T TI} {b:Bool} {all rest:List Oper}
variable {t ty:TypeId} {pos:String} {after:Array Edge} {gd:Option (Nat×Bool)} {d:Nat} {x y ix:Operand}
theorem Mem.nodupR {F:K→Option Bk} {s:St} (h:Mem V F (Δ++Δ') s):(names Δ').Nodup:=by
  have:=h.nodup
  simp only [names,List.map_append] at this
  exact (List.nodup_append.1 this).2.1
theorem W.callR {dst:Option Nat} {fx:Operand} {xs:Array Operand} {tys:Array TypeId} {f:Nat} {first caps vs:List AV} {R:Dm} {Q1:RO→Dm→Prop} (hf:eg Γ fx=some (.func f first caps)) (ha:egs Γ xs.toList=some vs)
    (hd:dstOk n dst=true) (hw:wantG all Γ ⟨dst,.call ⟨.value fx,xs,tys⟩,ty,pos,after,gd⟩=some true)
    (hc:Cl P g V f (first++vs++caps) Δ Q1)
    (hp:∀v Δ',Q1 (.pan v) Δ'→panOk P b all ⟨dst,.call ⟨.value fx,xs,tys⟩,ty,pos,after,gd⟩ rest=true∧Q (.pan v) (Δ'++R))
    (h:∀v Δ',Q1 (.ret v) Δ'→W P g n V rs (.o b all rest::st) .nrm (dstG dst v Γ) (Δ'++R) Q):W P g n V rs (.o b all (⟨dst,.call ⟨.value fx,xs,tys⟩,ty,pos,after,gd⟩::rest)::st) .nrm Γ (Δ++R) Q :=
  W.opX hw hd fun F s tm hM hG=>by
    obtain ⟨o,Δ1,s',h1,h2,k0,h3⟩:=hc _ s hM.split
    have hj:=h2.join hM.nodupR (fun x hx=>hM.ownB x (by simp [hx])) (fun i hi=>hM.apart i (by simp only [names,List.map_append,List.mem_append];exact .inr hi)) (fun i hi=>hM.vapart i (by simp only [names,List.map_append,List.mem_append];exact .inr hi))
    have hop:∀k,k0≤k→opA (.call ⟨.value fx,xs,tys⟩) P (callA P g (exec P g k)) tm s=o.cr s':=fun k hk=>by
      show opCall P _ _ tm s=_
      unfold opCall
      simp only [hG.egs ha,hG.eg hf]
      exact h3 k hk
    cases o with
    | ret v=>exact .inl ⟨v,s',Δ1++R,⟨k0,hop⟩,hj,h v Δ1 h1⟩
    | pan v=>exact .inr ⟨v,s',Δ1++R,⟨k0,hop⟩,hj,hp v Δ1 h1⟩
theorem W.callL {dst:Option Nat} {fx:Operand} {xs:Array Operand} {tys:Array TypeId} {f:Nat} {first caps vs:List AV} {R:Dm} {Q1:RO→Dm→Prop} (hf:eg Γ fx=some (.func f first caps)) (ha:egs Γ xs.toList=some vs)
    (hd:dstOk n dst=true) (hw:wantG all Γ ⟨dst,.call ⟨.value fx,xs,tys⟩,ty,pos,after,gd⟩=some true)
    (hc:Cl P g (withV V R) f (first++vs++caps) [] Q1)
    (hp:∀v Δ',Q1 (.pan v) Δ'→panOk P b all ⟨dst,.call ⟨.value fx,xs,tys⟩,ty,pos,after,gd⟩ rest=true∧Q (.pan v) (Δ'++R))
    (h:∀v Δ',Q1 (.ret v) Δ'→W P g n V rs (.o b all rest::st) .nrm (dstG dst v Γ) (Δ'++R) Q):W P g n V rs (.o b all (⟨dst,.call ⟨.value fx,xs,tys⟩,ty,pos,after,gd⟩::rest)::st) .nrm Γ R Q :=
  W.opX hw hd fun F s tm hM hG=>by
    have hM0:Mem V F ([]++R) s:=hM
    obtain ⟨o,Δ1,s',h1,h2,k0,h3⟩:=hc _ s hM0.lend
    have hj:=h2.unlend hM.nodup hM.ownB hM.apart hM.vapart
    have hop:∀k,k0≤k→opA (.call ⟨.value fx,xs,tys⟩) P (callA P g (exec P g k)) tm s=o.cr s':=fun k hk=>by
      show opCall P _ _ tm s=_
      unfold opCall
      simp only [hG.egs ha,hG.eg hf]
      exact h3 k hk
    cases o with
    | ret v=>exact .inl ⟨v,s',Δ1++R,⟨k0,hop⟩,hj,h v Δ1 h1⟩
    | pan v=>exact .inr ⟨v,s',Δ1++R,⟨k0,hop⟩,hj,hp v Δ1 h1⟩
theorem W.callP {fx:Operand} {xs:Array Operand} {tys:Array TypeId} {f:Nat} {first caps vs:List AV} {v:AV} (hf:eg Γ fx=some (.func f first caps)) (ha:egs Γ xs.toList=some vs)
    (hn:Nat.ble (d+1) n=true) (hw:wantG all Γ ⟨some d,.call ⟨.value fx,xs,tys⟩,ty,pos,after,gd⟩=some true)
    (hc:Cl P g V f (first++vs++caps) [] fun o _=>o=.ret v)
    (h:W P g n V rs (.o b all rest::st) .nrm ((d,v)::Γ) Δ Q):W P g n V rs (.o b all (⟨some d,.call ⟨.value fx,xs,tys⟩,ty,pos,after,gd⟩::rest)::st) .nrm Γ Δ Q :=
  W.callR (Δ:=[]) (R:=Δ) hf ha hn hw hc (fun _ _ h=>by cases h) fun u Δ' hq F s tm hM hG=>by
    injection hq with hq;subst hq
    exact h F s tm (hM.drop (List.sublist_append_right _ _)) hG
theorem W.callM {dst:Option Nat} {fx:Operand} {xs:Array Operand} {tys:Array TypeId} {f:Nat} {first caps vs:List AV} {v u:AV} {c:Bool} (hf:eg Γ fx=some (.func f first caps)) (ha:egs Γ xs.toList=some vs)
    (hd:dstOk n dst=true) (hw:wantG all Γ ⟨dst,.call ⟨.value fx,xs,tys⟩,ty,pos,after,gd⟩=some true)
    (hc:Cl P g V f (first++vs++caps) [] fun o _=>o=if c=true then .ret v else .pan u)
    (hb:panOk P b all ⟨dst,.call ⟨.value fx,xs,tys⟩,ty,pos,after,gd⟩ rest=true)
    (h1:c=true→W P g n V rs (.o b all rest::st) .nrm (dstG dst v Γ) Δ Q) (h2:c=false→Q (.pan u) Δ):W P g n V rs (.o b all (⟨dst,.call ⟨.value fx,xs,tys⟩,ty,pos,after,gd⟩::rest)::st) .nrm Γ Δ Q :=
  W.opX hw hd fun F s tm hM hG=>by
    have hM0:Mem V F ([]++Δ) s:=hM
    obtain ⟨o,Δ1,s',q1,q2,k0,h3⟩:=hc _ s hM0.split
    have hj:=(q2.join hM.nodup hM.ownB hM.apart hM.vapart).drop (List.sublist_append_right _ _)
    have hop:∀k,k0≤k→opA (.call ⟨.value fx,xs,tys⟩) P (callA P g (exec P g k)) tm s=o.cr s':=fun k hk=>by
      show opCall P _ _ tm s=_
      unfold opCall
      simp only [hG.egs ha,hG.eg hf]
      exact h3 k hk
    cases c with
    | true=>rw [if_pos rfl] at q1;subst q1;exact .inl ⟨v,s',Δ,⟨k0,hop⟩,hj,h1 rfl⟩
    | false=>rw [if_neg (by simp)] at q1;subst q1;exact .inr ⟨u,s',Δ,⟨k0,hop⟩,hj,hb,h2 rfl⟩
theorem W.callF {dst:Option Nat} {fx:Operand} {xs:Array Operand} {tys:Array TypeId} {f:Nat} {first caps vs:List AV} {v u:AV} {c:Prop} [Decidable c] {x0 x1:K×Bk} {R:Dm} (hf:eg Γ fx=some (.func f first caps)) (ha:egs Γ xs.toList=some vs)
    (hd:dstOk n dst=true) (hw:wantG all Γ ⟨dst,.call ⟨.value fx,xs,tys⟩,ty,pos,after,gd⟩=some true)
    (hc:Cl P g V f (first++vs++caps) [x0] fun o Δ'=>if c then o=.ret v∧x1∈Δ' else o=.pan u)
    (hb:panOk P b all ⟨dst,.call ⟨.value fx,xs,tys⟩,ty,pos,after,gd⟩ rest=true)
    (h1:c→W P g n V rs (.o b all rest::st) .nrm (dstG dst v Γ) (x1::R) Q) (h2:¬c→Q (.pan u) R):W P g n V rs (.o b all (⟨dst,.call ⟨.value fx,xs,tys⟩,ty,pos,after,gd⟩::rest)::st) .nrm Γ (x0::R) Q :=
  W.opX hw hd fun F s tm hM hG=>by
    have hM0:Mem V F ([x0]++R) s:=hM
    obtain ⟨o,Δ1,s',q1,q2,k0,h3⟩:=hc _ s hM0.split
    have hj:=q2.join hM0.nodupR (fun x hx=>hM.ownB x (by simp [hx])) (fun i hi=>hM.apart i (by simp only [names,List.map_cons,List.mem_cons];exact .inr hi)) (fun i hi=>hM.vapart i (by simp only [names,List.map_cons,List.mem_cons];exact .inr hi))
    have hop:∀k,k0≤k→opA (.call ⟨.value fx,xs,tys⟩) P (callA P g (exec P g k)) tm s=o.cr s':=fun k hk=>by
      show opCall P _ _ tm s=_
      unfold opCall
      simp only [hG.egs ha,hG.eg hf]
      exact h3 k hk
    split at q1
    · rename_i hcc
      obtain ⟨rfl,hmem⟩:=q1
      refine .inl ⟨v,s',x1::R,⟨k0,hop⟩,?_,h1 hcc⟩
      exact hj.drop ((List.singleton_sublist.2 hmem).append (List.Sublist.refl R))
    · rename_i hcc
      subst q1
      exact .inr ⟨u,s',R,⟨k0,hop⟩,hj.drop (List.sublist_append_right _ _),hb,h2 hcc⟩
theorem W.condDT {x:Operand} {a b:Code} {p:Prop} [Decidable p] (hx:eg Γ x=some (.bool (decide p))) (hp:p) (h1:W P g n V rs (.c a::st) .nrm Γ Δ Q):W P g n V rs (.c (.cond x a b)::st) .nrm Γ Δ Q:=W.condP hx (fun _=>h1) (fun h=>absurd hp h)
theorem W.condDF {x:Operand} {a b:Code} {p:Prop} [Decidable p] (hx:eg Γ x=some (.bool (decide p))) (hp:¬p) (h1:W P g n V rs (.c b::st) .nrm Γ Δ Q):W P g n V rs (.c (.cond x a b)::st) .nrm Γ Δ Q:=W.condP hx (fun h=>absurd h hp) (fun _=>h1)
theorem W.callMP {dst:Option Nat} {fx:Operand} {xs:Array Operand} {tys:Array TypeId} {f:Nat} {first caps vs:List AV} {v u:AV} {c:Prop} [Decidable c] (hf:eg Γ fx=some (.func f first caps)) (ha:egs Γ xs.toList=some vs)
    (hd:dstOk n dst=true) (hw:wantG all Γ ⟨dst,.call ⟨.value fx,xs,tys⟩,ty,pos,after,gd⟩=some true)
    (hc:Cl P g V f (first++vs++caps) [] fun o _=>o=if c then .ret v else .pan u)
    (hb:panOk P b all ⟨dst,.call ⟨.value fx,xs,tys⟩,ty,pos,after,gd⟩ rest=true)
    (h1:c→W P g n V rs (.o b all rest::st) .nrm (dstG dst v Γ) Δ Q) (h2:¬c→Q (.pan u) Δ):W P g n V rs (.o b all (⟨dst,.call ⟨.value fx,xs,tys⟩,ty,pos,after,gd⟩::rest)::st) .nrm Γ Δ Q :=
  W.opX hw hd fun F s tm hM hG=>by
    have hM0:Mem V F ([]++Δ) s:=hM
    obtain ⟨o,Δ1,s',q1,q2,k0,h3⟩:=hc _ s hM0.split
    have hj:=(q2.join hM.nodup hM.ownB hM.apart hM.vapart).drop (List.sublist_append_right _ _)
    have hop:∀k,k0≤k→opA (.call ⟨.value fx,xs,tys⟩) P (callA P g (exec P g k)) tm s=o.cr s':=fun k hk=>by
      show opCall P _ _ tm s=_
      unfold opCall
      simp only [hG.egs ha,hG.eg hf]
      exact h3 k hk
    split at q1
    · rename_i hcc;subst q1;exact .inl ⟨v,s',Δ,⟨k0,hop⟩,hj,h1 hcc⟩
    · rename_i hcc;subst q1;exact .inr ⟨u,s',Δ,⟨k0,hop⟩,hj,hb,h2 hcc⟩
theorem W.callE {dst:Option Nat} {fx:Operand} {xs:Array Operand} {tys:Array TypeId} {f:Nat} {first caps vs:List AV} {v:AV} {pf:Int→AV} {er:Option Int} (hf:eg Γ fx=some (.func f first caps)) (ha:egs Γ xs.toList=some vs)
    (hd:dstOk n dst=true) (hw:wantG all Γ ⟨dst,.call ⟨.value fx,xs,tys⟩,ty,pos,after,gd⟩=some true)
    (hc:Cl P g V f (first++vs++caps) [] fun o _=>o=match er with|none=>.ret v|some c=>.pan (pf c))
    (hb:panOk P b all ⟨dst,.call ⟨.value fx,xs,tys⟩,ty,pos,after,gd⟩ rest=true)
    (h1:er=none→W P g n V rs (.o b all rest::st) .nrm (dstG dst v Γ) Δ Q) (h2:∀c,er=some c→Q (.pan (pf c)) Δ):W P g n V rs (.o b all (⟨dst,.call ⟨.value fx,xs,tys⟩,ty,pos,after,gd⟩::rest)::st) .nrm Γ Δ Q :=
  W.opX hw hd fun F s tm hM hG=>by
    have hM0:Mem V F ([]++Δ) s:=hM
    obtain ⟨o,Δ1,s',q1,q2,k0,h3⟩:=hc _ s hM0.split
    have hj:=(q2.join hM.nodup hM.ownB hM.apart hM.vapart).drop (List.sublist_append_right _ _)
    have hop:∀k,k0≤k→opA (.call ⟨.value fx,xs,tys⟩) P (callA P g (exec P g k)) tm s=o.cr s':=fun k hk=>by
      show opCall P _ _ tm s=_
      unfold opCall
      simp only [hG.egs ha,hG.eg hf]
      exact h3 k hk
    cases er with
    | none=>simp only at q1;subst q1;exact .inl ⟨v,s',Δ,⟨k0,hop⟩,hj,h1 rfl⟩
    | some c=>simp only at q1;subst q1;exact .inr ⟨pf c,s',Δ,⟨k0,hop⟩,hj,hb,h2 c rfl⟩
theorem W.id (h:W P g n V rs st e Γ Δ Q):W P g n V rs st e Γ Δ Q:=h
theorem W.loopR {α:Type} {c:Code} (μ:α→Nat) (G:α→Gm) (D:α→Dm) (a0:α) (hk:Knows Γ (G a0)) (hd:(D a0).Sublist Δ)
    (step:∀a,(∀a',μ a'<μ a→W P g n V rs (.c (.loop c)::st) .nrm (G a') (D a') Q)→W P g n V rs (.c c::.c (.loop c)::st) .nrm (G a) (D a) Q):W P g n V rs (.c (.loop c)::st) .nrm Γ Δ Q:=by
  refine W.weak (G a0) (D a0) hk hd ?_
  have key:∀m a,μ a<m→W P g n V rs (.c (.loop c)::st) .nrm (G a) (D a) Q:=fun m=>by
    induction m with
    | zero=>intro a h;omega
    | succ m ih=>exact fun a h=>W.loop (step a fun a' h'=>ih a' (by omega))
  exact key (μ a0+1) a0 (by omega)
theorem W.eqS {xs ys:List AV} {t2:TypeId} {c:Bool} {l:List (Nat×Nat)} {z1:Bool} {z2 z3:Nat} {z4:Option AV} (hT:TabOk P tb) (hx:eg Γ x=some (.agg xs)) (hy:eg Γ y=some (.agg ys)) (ht:ti tb t=some ⟨.st l,z1,z2,z3,z4⟩) (hn:Nat.ble (d+1) n=true) (hw:wantG all Γ ⟨some d,.binOp .eql t x y t2,ty,pos,after,gd⟩=some true)
    (he:eqStr P t (.agg xs) (.agg ys)=some c)
    (h:W P g n V rs (.o b all rest::st) .nrm ((d,.bool c)::Γ) Δ Q):W P g n V rs (.o b all (⟨some d,.binOp .eql t x y t2,ty,pos,after,gd⟩::rest)::st) .nrm Γ Δ Q :=
  W.pure rfl hn hw (fun tm s call hG=>by
    obtain ⟨fs,h1,-⟩:=hT.st ht
    show ofO (opBin P .eql t (ev tm x) (ev tm y)) s=_
    rw [hG.eg hx,hG.eg hy]
    show ofO (binOther .eql P t (.agg xs) (.agg ys)) s=_
    simp only [binOther,eqA,h1,he];rfl) h
theorem W.neS {xs ys:List AV} {t2:TypeId} {c:Bool} {l:List (Nat×Nat)} {z1:Bool} {z2 z3:Nat} {z4:Option AV} (hT:TabOk P tb) (hx:eg Γ x=some (.agg xs)) (hy:eg Γ y=some (.agg ys)) (ht:ti tb t=some ⟨.st l,z1,z2,z3,z4⟩) (hn:Nat.ble (d+1) n=true) (hw:wantG all Γ ⟨some d,.binOp .neq t x y t2,ty,pos,after,gd⟩=some true)
    (he:eqStr P t (.agg xs) (.agg ys)=some c)
    (h:W P g n V rs (.o b all rest::st) .nrm ((d,.bool (!c))::Γ) Δ Q):W P g n V rs (.o b all (⟨some d,.binOp .neq t x y t2,ty,pos,after,gd⟩::rest)::st) .nrm Γ Δ Q :=
  W.pure rfl hn hw (fun tm s call hG=>by
    obtain ⟨fs,h1,-⟩:=hT.st ht
    show ofO (opBin P .neq t (ev tm x) (ev tm y)) s=_
    rw [hG.eg hx,hG.eg hy]
    show ofO (binOther .neq P t (.agg xs) (.agg ys)) s=_
    simp only [binOther,eqA,h1,he];rfl) h
theorem W.bsl (hT:TabOk P tb) {len el sz:Nat} {ps:Array (Nat×Operand)} {pl:List (Nat×AV)} {cs zl:List AV} {z:AV} {td:TD} {z1 z1':Bool} {z2 z3 z3':Nat} {z4:Option AV}
    (hp:egParts Γ ps.toList=some pl) (ht:ti tb t=some ⟨.sl el,z1,z2,z3,z4⟩) (he:ti tb el=some ⟨td,z1',sz,z3',some z⟩) (hz:partsO z=some zl) (hl:len * sz≤16777216∧zl.length=sz∧0<sz) (hf:fillA (fun i=>some (i * sz,sz)) (repL len zl) pl=some cs)
    (hn:Nat.ble (d+1) n=true) (hw:wantG all Γ ⟨some d,.buildSlice t len ps,ty,pos,after,gd⟩=some true)
    (h:∀i,W P g n V rs (.o b all rest::st) .nrm ((d,.slice (some (i,0)) len (.ex len))::Γ) ((i,.cells cs el sz true)::Δ) Q):W P g n V rs (.o b all (⟨some d,.buildSlice t len ps,ty,pos,after,gd⟩::rest)::st) .nrm Γ Δ Q :=
  W.op hw hn fun F s tm hM hG=>⟨.slice (some (s.nx,0)) len (.ex len),newB s (.cells cs el sz true),(s.nx,.cells cs el sz true)::Δ,⟨0,fun k _=>by
    show ofP (opBuildSlice P t len (evParts tm ps.toList) s)=_
    have hz':=partsO_eq hz
    unfold opBuildSlice
    simp only [egParts_ok hG hp,hT.sl ht,(hT.get he).size,(hT.get he).zero z rfl,hz',if_pos hl,hf];rfl⟩,hM.alloc trivial,h s.nx⟩
theorem W.panic {dst:Option Nat} {z:Nat} {v:AV} (hx:eg Γ x=some (.iface z v)) (hb:panOk P b all ⟨dst,.panic x,ty,pos,after,gd⟩ rest=true) (hw:wantG all Γ ⟨dst,.panic x,ty,pos,after,gd⟩=some true)
    (hq:Q (.pan (.iface z v)) Δ):W P g n V rs (.o b all (⟨dst,.panic x,ty,pos,after,gd⟩::rest)::st) .nrm Γ Δ Q :=
  W.opPan hb hw fun F s tm hM hG=>⟨_,s,Δ,⟨0,fun k _=>by
    show opPanic (ev tm x) s=_
    rw [hG.eg hx];rfl⟩,hM,hq⟩
theorem W.gs {o o':Oper} {j:Nat} {bb:Bool} {p:Prop} [Decidable p] (hg:o.guard=some (j,bb)) (hj:getL all j=some o') (hd:o'.dst=some d) (hx:lk Γ d=some (.bool (decide p)))
    (h1:p→W P g n V rs (.o b all (o::rest)::st) .nrm ((d,.bool true)::Γ) Δ Q) (h2:¬p→W P g n V rs (.o b all (o::rest)::st) .nrm ((d,.bool false)::Γ) Δ Q):W P g n V rs (.o b all (o::rest)::st) .nrm Γ Δ Q :=
  W.splitB d (decide p) hx (fun h=>h1 (of_decide_eq_true h)) (fun h=>h2 (of_decide_eq_false h))
theorem W.gsB {o o':Oper} {j:Nat} {bb c:Bool} (hg:o.guard=some (j,bb)) (hj:getL all j=some o') (hd:o'.dst=some d) (hx:lk Γ d=some (.bool c))
    (h1:c=true→W P g n V rs (.o b all (o::rest)::st) .nrm ((d,.bool true)::Γ) Δ Q) (h2:c=false→W P g n V rs (.o b all (o::rest)::st) .nrm ((d,.bool false)::Γ) Δ Q):W P g n V rs (.o b all (o::rest)::st) .nrm Γ Δ Q :=
  W.splitB d c hx h1 h2
noncomputable def loadsOk (P:Program) (all:List Oper) (rows:List (List Bool)):Nat→List Oper→Bool
  | _,[]=>true
  | r,o::os=>(match cls P o.op with
      | .r=>othersOk P rows r 0 all
      | .f=>false
      | _=>true)&&loadsOk P all rows (r+1) os
where
  othersOk (P:Program) (rows:List (List Bool)) (r:Nat):Nat→List Oper→Bool
  | _,[]=>true
  | j,o::os=>(!isM P o.op||waits rows j r||waits rows r j)&&othersOk P rows r (j+1) os
noncomputable def drawOk (P:Program) (all:List Oper):Bool:=match rowsOf [] 0 all with
  | some rows=>pairs1 P all rows 0 all&&loadsOk P all rows 0 all
  | none=>false
theorem heldBy_ok {rows:List (List Bool)} {r:Nat} {t:TypeId} {p:K×Nat} {v:AV} {s9:St}:∀(os:List Oper) (j:Nat) (tr:List (Tm×St)),loadsOk.othersOk P rows r j os=true→heldBy P rows r t p v j os tr s9=true
  | [],j,tr,h=>by cases tr<;>rfl
  | o::os,j,[],h=>rfl
  | o::os,j,(tm,s)::tr,h=>by
    simp only [loadsOk.othersOk,Bool.and_eq_true] at h
    simp only [heldBy,h.1,Bool.true_or]
    exact heldBy_ok os (j+1) tr h.2
theorem stepG_go {call:Nat→List AV→St→CR} {o:Oper} {tm tm':Tm} {s s':St} (h:stepO P call all n o tm s=.go tm' s'):∃w,wantA all tm o=some w∧(w=true→∃v s1,opQ o P call tm s=.ret v s1):=by
  unfold stepO stepK at h
  cases hw:wantA all tm o with
  | none=>rw [hw] at h;cases h
  | some w =>
    refine ⟨w,rfl,fun e=>?_⟩
    subst e
    rw [hw] at h
    have h:@CR.rec (fun _=>SO) (fun v s=>putK SO.no n tm v (fun tm=>SO.go tm s) o.dst) SO.pan SO.no (opQ o P call tm s)=.go tm' s':=h
    cases ho:opQ o P call tm s with
    | ret v s1=>exact ⟨v,s1,rfl⟩
    | pan v s1=>rw [ho] at h;cases h
    | no=>rw [ho] at h;cases h
theorem trace_cases {call:Nat→List AV→St→CR} {o:Oper} {os:List Oper} {tm tm9:Tm} {s s9:St} {tr:List (Tm×St)} {v:Option AV} (h:traceA P call all n (o::os) tm s=.ok tr v tm9 s9) :
    (∃tm' s' tr',stepO P call all n o tm s=.go tm' s'∧traceA P call all n os tm' s'=.ok tr' v tm9 s9∧tr=(tm,s)::tr')∨∃u,stepO P call all n o tm s=.pan u s9∧tm9=tm∧v=some u∧tr=[(tm,s)]:=by
  simp only [traceA] at h
  split at h
  · rename_i tm' s' h1
    split at h
    · rename_i l v' tm2 s2 h2
      injection h with h3 h4 h5 h6;subst h3;subst h4;subst h5;subst h6
      exact .inl ⟨tm',s',l,h1,h2,rfl⟩
    · cases h
  · rename_i u s' h1
    injection h with h3 h4 h5 h6;subst h3;subst h4;subst h5;subst h6
    exact .inr ⟨u,h1,rfl,rfl,rfl⟩
  · cases h
def LastM (P:Program) (os:List Oper) (tr:List (Tm×St)) (v:Option AV):Prop:=v=none∨∀o,os[tr.length-1]?=some o→isM P o.op=true
theorem trace_pos {call:Nat→List AV→St→CR} {os:List Oper} {tm tm9:Tm} {s s9:St} {tr:List (Tm×St)} {u:AV} (h:traceA P call all n os tm s=.ok tr (some u) tm9 s9):1≤tr.length:=by
  cases os with
  | nil=>injection h with h1 h2;cases h2
  | cons o os =>
    rcases trace_cases h with ⟨tm',s',tr',-,-,rfl⟩|⟨u,-,-,-,rfl⟩<;>simp
theorem LastM.tail {call:Nat→List AV→St→CR} {o:Oper} {os:List Oper} {tm tm' tm9:Tm} {s s' s9:St} {tr':List (Tm×St)} {v:Option AV} (h:LastM P (o::os) ((tm,s)::tr') v) (h2:traceA P call all n os tm' s'=.ok tr' v tm9 s9):LastM P os tr' v:=by
  rcases h with h|h
  · exact .inl h
  · cases v with
    | none=>exact .inl rfl
    | some u =>
      have:=trace_pos h2
      refine .inr fun o' ho=>h o' ?_
      rw [List.length_cons,Nat.add_sub_cancel,show tr'.length=(tr'.length-1)+1 by omega,List.getElem?_cons_succ]
      exact ho
theorem cls_load {o:Op} (h:cls P o=.r):∃t a,o=.load t a:=by
  unfold cls at h
  (repeat' split at h)<;>first|exact ⟨_,_,rfl⟩|(cases h;done)
theorem heldAll_ok {call:Nat→List AV→St→CR} {rows:List (List Bool)} {tr0:List (Tm×St)} {s8 s9:St} {tm9:Tm} {v:Option AV}:∀(os:List Oper) (tr:List (Tm×St)) (tm:Tm) (s:St) (r:Nat),traceA P call all n os tm s=.ok tr v tm9 s9→LastM P os tr v→loadsOk P all rows r os=true→heldAll P all rows tr0 s8 r os tr=true
  | [],tr,tm,s,r,h,_,_=>by rfl
  | o::os,tr,tm,s,r,h,hm,hl=>by
    simp only [loadsOk,Bool.and_eq_true] at hl
    rcases trace_cases h with ⟨tm',s',tr',h1,h2,rfl⟩|⟨u,h1,rfl,rfl,rfl⟩
    · have hh:=heldAll_ok (tr0:=tr0) (s8:=s8) os tr' tm' s' (r+1) h2 (hm.tail h2) hl.2
      cases hc:cls P o.op with
      | p=>simp only [heldAll,hc];exact hh
      | f=>simp only [heldAll,hc];exact hh
      | m=>simp only [heldAll,hc];exact hh
      | r =>
        have hl:=hl.1
        rw [hc] at hl
        simp only at hl
        obtain ⟨w,hw,hop⟩:=stepG_go h1
        simp only [heldAll,hc,hw]
        by_cases hwt:w=true
        case neg =>
          simp only [Bool.not_eq_true] at hwt
          rw [hwt]
          simpa using hh
        case pos =>
          obtain ⟨v1,s1,h4⟩:=hop hwt
          rw [hwt]
          simp only
          obtain ⟨t,a,ho⟩:=cls_load hc
          have h4:=(opQ_not (P:=P) (o:=o) (by rw [hc];intro e;cases e) call tm s).symm.trans h4
          rw [ho] at h4 ⊢
          have h4:ofO (opLoad P t (ev tm a) s) s=.ret v1 s1:=h4
          unfold opLoad at h4
          simp only [readAt]
          cases hp:optK asPtr (ev tm a) with
          | none=>rw [hp] at h4;cases h4
          | some p =>
            rw [hp] at h4
            have h4:ofO (loadAt P t s.hp p) s=.ret v1 s1:=h4
            simp only
            cases hv:loadAt P t s.hp p with
            | none=>rw [hv] at h4;cases h4
            | some v2=>simp only [heldBy_ok all 0 tr0 hl];exact hh
    · have hc:cls P o.op=.m:=by
        rcases hm with hm|hm
        · cases hm
        · have:=hm o (by simp)
          unfold isM at this
          cases hc:cls P o.op<;>rw [hc] at this<;>first|rfl|cases this
      simp only [heldAll,hc]
      cases os<;>rfl
theorem fltOk_ok {call:Nat→List AV→St→CR} {rows:List (List Bool)} {s9:St} {tm9:Tm} {v:Option AV}:∀(os:List Oper) (tr:List (Tm×St)) (tm:Tm) (s:St) (r:Nat) (seen:List (Tm×St)),traceA P call all n os tm s=.ok tr v tm9 s9→loadsOk P all rows r os=true→fltOk P seen os tr=true
  | [],tr,tm,s,r,seen,h,_=>by injection h with h1;subst h1;rfl
  | o::os,tr,tm,s,r,seen,h,hl=>by
    simp only [loadsOk,Bool.and_eq_true] at hl
    rcases trace_cases h with ⟨tm',s',tr',h1,h2,rfl⟩|⟨u,h1,rfl,rfl,rfl⟩
    · have hh:=fltOk_ok os tr' tm' s' (r+1) ((tm,s)::seen) h2 hl.2
      cases hc:cls P o.op with
      | f=>rw [hc] at hl;exact absurd hl.1 (by simp)
      | p=>simp only [fltOk,hc];exact hh
      | r=>simp only [fltOk,hc];exact hh
      | m=>simp only [fltOk,hc];exact hh
    · cases hc:cls P o.op with
      | f=>rw [hc] at hl;exact absurd hl.1 (by simp)
      | p=>simp only [fltOk,hc];cases os<;>rfl
      | r=>simp only [fltOk,hc];cases os<;>rfl
      | m=>simp only [fltOk,hc];cases os<;>rfl
theorem runD_trace {call:Nat→List AV→St→CR}:∀(os:List Oper) (tm:Tm) (s:St) (e:Ex) (tm9:Tm) (s9:St),runD P call true all n os tm s=.ok e tm9 s9 →
    ∃tr v,traceA P call all n os tm s=.ok tr v tm9 s9∧((e=.nrm∧v=none)∨∃u,e=.pan u∧v=some u∧∃o l,panOk P true all o l=true∧os.length=tr.length+l.length∧os[tr.length-1]?=some o)
  | [],tm,s,e,tm9,s9,h=>by
    injection h with h1 h2 h3;subst h1;subst h2;subst h3
    exact ⟨[],none,rfl,.inl ⟨rfl,rfl⟩⟩
  | o::os,tm,s,e,tm9,s9,h=>by
    have h:stepK .no (fun v s=>@Bool.rec (fun _=>Out) .no (.ok (.pan v) tm s) (panOk P true all o os)) (runD P call true all n os) P call all n o tm s=.ok e tm9 s9:=h
    have hgo:∀tm' s',stepO P call all n o tm s=.go tm' s'→runD P call true all n os tm' s'=.ok e tm9 s9→∃tr v,traceA P call all n (o::os) tm s=.ok tr v tm9 s9∧((e=.nrm∧v=none)∨∃u,e=.pan u∧v=some u∧∃o' l,panOk P true all o' l=true∧(o::os).length=tr.length+l.length∧(o::os)[tr.length-1]?=some o'):=fun tm' s' h1 h2=>by
      obtain ⟨tr,v,h3,h4⟩:=runD_trace os tm' s' e tm9 s9 h2
      refine ⟨(tm,s)::tr,v,by simp only [traceA,h1,h3],?_⟩
      rcases h4 with h4|⟨u,rfl,rfl,o',l,h5,h6,h7⟩
      · exact .inl h4
      · have:=trace_pos h3
        refine .inr ⟨u,rfl,rfl,o',l,h5,by simp [h6];omega,?_⟩
        rw [List.length_cons,Nat.add_sub_cancel,show tr.length=(tr.length-1)+1 by omega,List.getElem?_cons_succ]
        exact h7
    unfold stepK at h
    have hst:stepO P call all n o tm s=stepK SO.no SO.pan SO.go P call all n o tm s:=rfl
    unfold stepK at hst
    cases hw:wantA all tm o with
    | none=>rw [hw] at h;cases h
    | some w =>
      rw [hw] at h hst
      have hput:∀ {v:AV} {s1:St},putK Out.no n tm v (fun tm=>runD P call true all n os tm s1) o.dst=.ok e tm9 s9→∃tm',putK SO.no n tm v (fun tm=>SO.go tm s1) o.dst=.go tm' s1∧runD P call true all n os tm' s1=.ok e tm9 s9:=fun {v s1} hp=>by
        cases hd:o.dst with
        | none=>rw [hd] at hp;exact ⟨tm,rfl,hp⟩
        | some d =>
          rw [hd] at hp
          have hp:@Bool.rec (fun _=>Out) .no (runD P call true all n os (T.set tm (K.of d) v) s1) (Nat.ble (Nat.succ d) n)=_:=hp
          cases hb:Nat.ble (Nat.succ d) n with
          | false=>rw [hb] at hp;cases hp
          | true =>
            rw [hb] at hp
            refine ⟨_,?_,hp⟩
            show @Bool.rec (fun _=>SO) .no (SO.go (T.set tm (K.of d) v) s1) (Nat.ble (Nat.succ d) n)=_
            rw [hb]
      cases w with
      | false =>
        obtain ⟨tm',h1,h2⟩:=hput (v:=.tup []) (s1:=s) h
        exact hgo tm' s (hst.trans h1) h2
      | true =>
        have h:@CR.rec (fun _=>Out) (fun v s=>putK Out.no n tm v (fun tm=>runD P call true all n os tm s) o.dst) (fun v s=>@Bool.rec (fun _=>Out) .no (.ok (.pan v) tm s) (panOk P true all o os)) .no (opQ o P call tm s)=_:=h
        have hst:_=@CR.rec (fun _=>SO) (fun v s=>putK SO.no n tm v (fun tm=>SO.go tm s) o.dst) SO.pan SO.no (opQ o P call tm s):=hst
        cases ho:opQ o P call tm s with
        | ret v s1 =>
          rw [ho] at h hst
          obtain ⟨tm',h1,h2⟩:=hput h
          exact hgo tm' s1 (hst.trans h1) h2
        | pan v s1 =>
          rw [ho] at h hst
          have h:@Bool.rec (fun _=>Out) .no (.ok (.pan v) tm s1) (panOk P true all o os)=.ok e tm9 s9:=h
          cases hb:panOk P true all o os with
          | false=>rw [hb] at h;cases h
          | true =>
            rw [hb] at h
            injection h with h1 h2 h3;subst h1;subst h2;subst h3
            have hst:stepO P call all n o tm s=.pan v s1:=hst
            exact ⟨[(tm,s)],some v,by simp only [traceA,hst],.inr ⟨v,rfl,rfl,o,os,hb,by simp;omega,by simp⟩⟩
        | no=>rw [ho] at h;cases h
theorem draw_run {call:Nat→List AV→St→CR} (hs:drawOk P all=true) {tm tm9:Tm} {s s9:St} {e:Ex} (h:runD P call true all n all tm s=.ok e tm9 s9):drawOps1 P call all n tm s=.ok e tm9 s9:=by
  obtain ⟨tr,v,h1,h2⟩:=runD_trace all tm s e tm9 s9 h
  unfold drawOk at hs
  split at hs
  · rename_i rows hrows
    simp only [Bool.and_eq_true] at hs
    have hm:LastM P all tr v:=by
      rcases h2 with ⟨-,rfl⟩|⟨u,-,rfl,o,l,h3,h4,h5⟩
      · exact .inl rfl
      · refine .inr fun o' ho'=>?_
        rw [h5] at ho'
        injection ho' with ho';subst ho'
        simp only [panOk,hrows,Bool.and_eq_true] at h3
        exact h3.2.2
    unfold drawOps1
    simp only [h1,hrows,hs.1,heldAll_ok all tr tm s 0 h1 hm hs.2,fltOk_ok all tr tm s 0 [] h1 hs.2,Bool.and_self]
    rcases h2 with ⟨rfl,rfl⟩|⟨u,rfl,rfl,o,l,h3,h4,h5⟩
    · rfl
    · simp only [panOk,hrows,Bool.and_eq_true] at h3
      have e1:all.length-l.length-1=tr.length-1:=by omega
      rw [e1] at h3
      have hg:getL all (tr.length-1)=some o:=by rw [getL_eq];exact h5
      simp only [h3.1,hg,h3.2.2,Bool.and_self]
  · cases hs
theorem le_same {a k:Nat} (h:a+1≤k):∃j,j=k∧a≤j:=⟨k,rfl,by omega⟩
theorem drawOps_of {call:Nat→List AV→St→CR} {ops:List Oper} {n:Nat} {tm tm':Tm} {s s':St} {e:Ex} (h:drawOps1 P call ops n tm s=.ok e tm' s'):drawOps P call ops n tm s=.ok e tm' s':=by
  unfold drawOps;rw [h]
theorem RnS.no:∀(st:List Fr) (out:Out),RnS P g n st .no out→out=.no:=fun st=>by
  induction st with
  | nil=>intro out h;exact h.symm
  | cons f st ih =>
    rintro out ⟨m2,⟨k2,hk2⟩,hr⟩
    have e:m2=.no:=by rw [←hk2 k2 (Nat.le_refl _)];cases f<;>rfl
    subst e;exact ih out hr
theorem W.reg {i:Nat} {ops:Array Oper} (h:W P g n V rs (.d ops.toList::st) .nrm Γ Δ Q):W P g n V rs (.c (.region i ops true)::st) .nrm Γ Δ Q:=fun F s tm hM hT=>by
  obtain ⟨o,Δ',s',h1,h2,out,⟨m,⟨k1,h3⟩,h4⟩,h5⟩:=h F s tm hM hT
  refine ⟨o,Δ',s',h1,h2,out,⟨m,⟨k1+1,fun k hk=>?_⟩,h4⟩,h5⟩
  obtain ⟨j,rfl,hj⟩:=le_succ_of hk
  have h3:drawOps1 P (callA P g (exec P g j)) ops.toList n tm s=m:=h3 j hj
  show drawOps P (callA P g (exec P g j)) ops.toList n tm s=m
  cases m with
  | no =>
    exfalso
    rw [RnS.no st out h4] at h5
    cases o<;>cases h5
  | ok e tm9 s9=>exact drawOps_of h3
theorem W.drawD {ops:List Oper} (hs:drawOk P ops=true) (h:W P g n V rs (.o true ops ops::st) .nrm Γ Δ Q):W P g n V rs (.d ops::st) .nrm Γ Δ Q:=fun F s tm hM hT=>by
  obtain ⟨o,Δ',s',h1,h2,out,⟨m,⟨k1,h3⟩,h4⟩,h5⟩:=h F s tm hM hT
  refine ⟨o,Δ',s',h1,h2,out,⟨m,⟨k1+1,fun k hk=>?_⟩,h4⟩,h5⟩
  obtain ⟨j,rfl,hj⟩:=le_same hk
  have h3:runD P (callA P g (exec P g j)) true ops n ops tm s=m:=h3 j hj
  show drawOps1 P (callA P g (exec P g j)) ops n tm s=m
  cases m with
  | no =>
    exfalso
    rw [RnS.no st out h4] at h5
    cases o<;>cases h5
  | ok e tm9 s9=>exact draw_run hs h3
theorem W.draw {i:Nat} {ops:Array Oper} (hs:drawOk P ops.toList=true) (h:W P g n V rs (.o true ops.toList ops.toList::st) .nrm Γ Δ Q):W P g n V rs (.c (.region i ops true)::st) .nrm Γ Δ Q:=W.reg (W.drawD hs h)
end Go.Proofs.YtoegffiapnnkiaaGreat.Abs
