/- Parts of one proof. No condition but those that each theorem names. -/
import Derived.Test.YtoegffiapnnkiaaGreatPT10
import Derived.Test.YtoegffiapnnkiaaGreatPT18
namespace Go.Proofs.YtoegffiapnnkiaaGreat.Abs
open Go
set_option linter.unusedVariables false
set_option linter.unusedSimpArgs false
set_option maxRecDepth 100000
def Ext (H H':List Int):Prop:=∀b,0≤b→b<4097→hAt H b≠0→hAt H' b=hAt H b
theorem Ext.refl (H:List Int):Ext H H:=fun _ _ _ _=>rfl
theorem Ext.trans {A B C:List Int} (h:Ext A B) (k:Ext B C):Ext A C:=fun b h0 h1 h2=>by
  have:=h b h0 h1 h2
  rw [←this];exact k b h0 h1 (by rw [this];exact h2)
theorem ext_come {H H':List Int} {a n:Int} (hH:HOk H) (ha:0≤a∧a<4097) (h:comeS H a n=some H'):Ext H H'∧0≤n∧n≤64∧hAt H' a=n+1:=by
  unfold comeS at h
  split at h
  · rename_i hc
    injection h with h;subst h
    refine ⟨fun b h0 h1 h2=>?_,hc.1,hc.2.1,by rw [hAt_set hH ha ha,if_pos rfl]⟩
    rw [hAt_set hH ha ⟨h0,h1⟩]
    split
    · rename_i e;subst e;omega
    · rfl
  · cases h
def Fits (H:List Int) (a n:Int):Prop:=0≤n∧n≤64∧hAt H a=n+1
theorem Fits.ext {H H':List Int} {a n:Int} (h:Fits H a n) (ha:0≤a∧a<4097) (e:Ext H H'):Fits H' a n:=⟨h.1,h.2.1,by rw [e a ha.1 ha.2 (by have:=h.2.2;have:=h.1;omega)];exact h.2.2⟩
def Hgt (H:List Int) (x:Instr) (a:Int) (n:Int):Prop :=
  0≤n∧(if x.k=5 then (if x.a>3 then 2≤n∧Fits H (a+1) (n-1) else 1≤n∧Fits H (a+1) n)
  else if x.k=6∨x.k=7 then Fits H (a+1) (n-1)∧Fits H x.a n
  else if x.k=8 then Fits H (a+1) (n-1)∧Fits H x.a (n-1)
  else if x.k=9 then Fits H x.a n else Fits H (a+1) (n+1))
theorem Hgt.ext {H H':List Int} {x:Instr} {a n:Int} (h:Hgt H x a n) (ha:0≤a∧a<4096) (hx:6≤x.k∧x.k≤9→0≤x.a∧x.a<4097) (e:Ext H H'):Hgt H' x a n:=by
  have h1:0≤a+1∧a+1<4097:=by omega
  refine ⟨h.1,?_⟩
  have h2:=h.2
  split at h2
  · rename_i c;rw [if_pos c]
    split at h2
    · rename_i c;rw [if_pos c];exact ⟨h2.1,h2.2.ext h1 e⟩
    · rename_i c;rw [if_neg c];exact ⟨h2.1,h2.2.ext h1 e⟩
  · rename_i c;rw [if_neg c]
    split at h2
    · rename_i c;rw [if_pos c];exact ⟨h2.1.ext h1 e,h2.2.ext (hx (by omega)) e⟩
    · rename_i c;rw [if_neg c]
      split at h2
      · rename_i c;rw [if_pos c];exact ⟨h2.1.ext h1 e,h2.2.ext (hx (by omega)) e⟩
      · rename_i c;rw [if_neg c]
        split at h2
        · rename_i c;rw [if_pos c];exact h2.ext (hx (by omega)) e
        · rename_i c;rw [if_neg c];exact h2.ext h1 e
theorem goes_of {H H':List Int} {x:Instr} {a:Int} (hH:HOk H) (ha:0≤a∧a<4096) (hx:6≤x.k∧x.k≤9→0≤x.a∧x.a<4097) (h:goS H x a=some H'):Ext H H'∧Hgt H' x a (hAt H a-1):=by
  have h1:0≤a+1∧a+1<4097:=by omega
  have two:∀ {b c m l:Int} {H':List Int},(0≤b∧b<4097)→(0≤c∧c<4097)→((comeS H b m).bind fun H=>comeS H c l)=some H'→Ext H H'∧Fits H' b m∧Fits H' c l:=fun hb hc h=>by
    obtain ⟨G,e1,e2⟩:=Option.bind_eq_some_iff.1 h
    have k1:=ext_come hH hb e1
    have k2:=ext_come (hH.come e1) hc e2
    exact ⟨k1.1.trans k2.1,Fits.ext ⟨k1.2.1,k1.2.2.1,k1.2.2.2⟩ hb k2.1,k2.2⟩
  simp only [goS] at h
  unfold Hgt
  split at h
  · cases h
  rename_i hn
  split at h
  · rename_i c;rw [if_pos c]
    split at h
    · rename_i c;rw [if_pos c]
      split at h
      · have:=ext_come hH h1 h;exact ⟨this.1,by omega,by omega,this.2⟩
      · cases h
    · rename_i c;rw [if_neg c]
      split at h
      · have:=ext_come hH h1 h;exact ⟨this.1,by omega,by omega,this.2⟩
      · cases h
  · rename_i c;rw [if_neg c]
    split at h
    · rename_i c;rw [if_pos c]
      have:=two h1 (hx (by omega)) h
      exact ⟨this.1,by omega,this.2⟩
    · rename_i c;rw [if_neg c]
      split at h
      · rename_i c;rw [if_pos c]
        have:=two h1 (hx (by omega)) h
        exact ⟨this.1,by omega,this.2⟩
      · rename_i c;rw [if_neg c]
        split at h
        · rename_i c;rw [if_pos c]
          have:=ext_come hH (hx (by omega)) h;exact ⟨this.1,by omega,this.2⟩
        · rename_i c;rw [if_neg c]
          have:=ext_come hH h1 h;exact ⟨this.1,by omega,this.2⟩
theorem run_goes {t:Table} {z:Int} (hz:z≤4096):∀(m:Nat) (i:Int) (H H':List Int),HOk H→0≤i→i+m=z→(∀j,i≤j→j<z→Stands t (codeAt t j) j z=true)→runS t m i H=some H'→HOk H'∧Ext H H'∧∀j,i≤j→j<z→Hgt H' (codeAt t j) j (hAt H' j-1)
  | 0,i,H,H',hH,h0,hm,hs,h=>by
    injection h with h;subst h
    exact ⟨hH,.refl _,fun j h1 h2=>by omega⟩
  | m+1,i,H,H',hH,h0,hm,hs,h=>by
    obtain ⟨G,e1,e2⟩:=Option.bind_eq_some_iff.1 (show (goS H (codeAt t i) i).bind (runS t m (i+1))=some H' from h)
    have hto:6≤(codeAt t i).k∧(codeAt t i).k≤9→0≤(codeAt t i).a∧(codeAt t i).a<4097:=fun hk=>by
      have:=stands_to (hs i (Int.le_refl _) (by omega)) hk;omega
    have k1:=goes_of hH ⟨h0,by omega⟩ hto e1
    have k2:=run_goes hz m (i+1) G H' (hH.go e1) (by omega) (by omega) (fun j h1 h2=>hs j (by omega) h2) e2
    refine ⟨k2.1,k1.1.trans k2.2.1,fun j h1 h2=>?_⟩
    by_cases e:j=i
    · subst e
      have k3:=k1.2.ext ⟨h0,by omega⟩ hto k2.2.1
      rw [show hAt H' j=hAt H j from (k1.1.trans k2.2.1) j h0 (by omega) (by have:=k3.1;omega)]
      exact k3
    · exact k2.2.2 j (by omega) h2
structure SpanOk (t:Table) (f z:Int) (H:List Int):Prop where
  stands:∀j,f≤j→j<z→Stands t (codeAt t j) j z=true
  begin_:hAt H f=1
  end_:hAt H z=2
  goes:∀j,f≤j→j<z→Hgt H (codeAt t j) j (hAt H j-1)
theorem span_ok {t:Table} {f z:Int} (h0:0≤f) (h1:f<z) (h2:z≤4096) (h:spanS t f z=none):∃H,SpanOk t f z H:=by
  unfold spanS at h
  split at h
  · rename_i hs
    split at h
    · rename_i H hr
      split at h
      · rename_i he
        obtain ⟨G,e1,e2⟩:=Option.bind_eq_some_iff.1 hr
        have k0:=ext_come H0_ok ⟨h0,by omega⟩ e1
        have hst:∀j,f≤j→j<z→Stands t (codeAt t j) j z=true:=fun j k1 k2=>standAll_at _ f j hs k1 (by omega)
        have k1:=run_goes h2 (z-f).toNat f G H (H0_ok.come e1) h0 (by omega) hst e2
        exact ⟨H,hst,by rw [k1.2.1 f h0 (by omega) (by rw [k0.2.2.2];decide)];exact k0.2.2.2,he,k1.2.2⟩
      · cases h
    · cases h
  · cases h
inductive Stp where
  | go (at_:Int) (S:List Int)
  | bad (e:Int)
  | no
def pushF (a:Int) (S:List Int) (q:Int×Int):Stp:=if q.2=0 then .go (a+1) (q.1::S) else .bad q.2
def insF (t:Table) (regs:List Int) (w:Snap) (a:Int) (S:List Int):Stp :=
  let x:=codeAt t a
  if x.k=1 then .go (a+1) (t.consts.l.getD x.a.toNat 0::S)
  else if x.k=4 then .go (a+1) (regs.getD x.a.toNat 0::S)
  else if x.k=3 then .go (a+1) ((if w.get x.a=0 then 0 else 1)::S)
  else if x.k=2 then (if w.get x.a=0∧x.a≤3 then .bad 170 else .go (a+1) (w.get x.a::S))
  else if x.k=5 then (if x.a≤3 then match S with
      | b::S=>pushF a S (oneS x.a b)
      | []=>.no
    else match S with
      | b::c::S=>pushF a S (twoS x.a c b)
      | _=>.no)
  else if x.k=6∨x.k=7 then match S with
    | v::S=>if (v=0)↔(x.k=6) then .go x.a (v::S) else .go (a+1) S
    | []=>.no
  else if x.k=8 then match S with
    | v::S=>if v=0 then .go x.a S else .go (a+1) S
    | []=>.no
  else .go x.a S
def runF (t:Table) (regs:List Int) (w:Snap) (z:Int):Nat→Int→List Int→Int→Option (Int×Int×Int)
  | 0,_,_,_=>none
  | m+1,a,S,steps=>if z≤a then match S with
      | v::_=>some (v,steps,0)
      | []=>none
    else match insF t regs w a S with
      | .go a' S'=>runF t regs w z m a' S' (steps+1)
      | .bad e=>some (0,steps+1,e)
      | .no=>none
structure At1 (H:List Int) (f z a:Int) (S:List Int):Prop where
  f:f≤a
  z:a≤z
  h:hAt H a=(S.length:Int)+1
  n:S.length≤64
theorem At1.to {H:List Int} {f z a' n:Int} {S:List Int} (h0:f≤a') (h1:a'≤z) (h:Fits H a' n) (e:(S.length:Int)=n):At1 H f z a' S:=⟨h0,h1,by rw [e];exact h.2.2,by have:=h.2.1;omega⟩
theorem step_at {t:Table} {regs:List Int} {w:Snap} {f z a:Int} {H:List Int} {S:List Int} (hs:SpanOk t f z H) (h:At1 H f z a S) (hz:a<z):(∃e,e≠0∧insF t regs w a S=.bad e)∨∃a' S',insF t regs w a S=.go a' S'∧a<a'∧At1 H f z a' S':=by
  obtain ⟨hf,-,hh,hn⟩:=h
  have hg:=hs.goes a hf hz
  rw [hh,show ((S.length:Int)+1)-1=S.length by omega] at hg
  have hst:=hs.stands a hf hz
  have hto:=fun hk=>stands_to hst hk
  obtain ⟨hg0,hg⟩:=hg
  unfold Stands at hst
  simp only [insF]
  split at hg
  · rename_i hk
    rw [if_neg (by omega),if_neg (by omega),if_neg (by omega),if_neg (by omega),if_pos hk]
    have push:∀(S':List Int) (q:Int×Int),Fits H (a+1) ((S'.length:Int)+1)→(∃e,e≠0∧pushF a S' q=.bad e)∨∃a' S'',pushF a S' q=.go a' S''∧a<a'∧At1 H f z a' S'':=fun S' q hF=>by
      unfold pushF
      by_cases e:q.2=0
      · rw [if_pos e];exact .inr ⟨_,_,rfl,by omega,.to (by omega) (by omega) hF (by simp)⟩
      · rw [if_neg e];exact .inl ⟨_,e,rfl⟩
    split at hg
    · rw [if_neg (by omega)]
      match S,hg with
      | [],hg=>simp at hg
      | [_],hg=>simp at hg
      | b::c::S,hg=>exact push S _ (by have:=hg.2;simp at this;exact this)
    · rw [if_pos (by omega)]
      match S,hg with
      | [],hg=>simp at hg
      | b::S,hg=>exact push S _ (by simpa using hg.2)
  · rename_i hk5
    split at hg
    · rename_i hk
      have:=hto (by omega)
      rw [if_neg (by omega),if_neg (by omega),if_neg (by omega),if_neg (by omega),if_neg hk5,if_pos hk]
      match S,hg with
      | [],hg=>have:=hg.1.1;simp at this
      | v::S,hg =>
        simp only
        split
        · exact .inr ⟨_,_,rfl,by omega,.to (by omega) (by omega) hg.2 rfl⟩
        · exact .inr ⟨_,_,rfl,by omega,.to (by omega) (by omega) hg.1 (by simp)⟩
    · rename_i hk6
      split at hg
      · rename_i hk
        have:=hto (by omega)
        rw [if_neg (by omega),if_neg (by omega),if_neg (by omega),if_neg (by omega),if_neg hk5,if_neg hk6,if_pos hk]
        match S,hg with
        | [],hg=>have:=hg.1.1;simp at this
        | v::S,hg =>
          simp only
          split
          · exact .inr ⟨_,_,rfl,by omega,.to (by omega) (by omega) hg.2 (by simp)⟩
          · exact .inr ⟨_,_,rfl,by omega,.to (by omega) (by omega) hg.1 (by simp)⟩
      · rename_i hk8
        split at hg
        · rename_i hk
          have:=hto (by omega)
          rw [if_neg (by omega),if_neg (by omega),if_neg (by omega),if_neg (by omega),if_neg hk5,if_neg hk6,if_neg hk8]
          exact .inr ⟨_,_,rfl,by omega,.to (by omega) (by omega) hg rfl⟩
        · rename_i hk9
          have hF:∀v,At1 H f z (a+1) (v::S):=fun v=>.to (by omega) (by omega) hg (by simp)
          have hk:(codeAt t a).k=1∨(codeAt t a).k=4∨(codeAt t a).k=3∨(codeAt t a).k=2:=by
            (repeat' split at hst)<;>first|omega|cases hst
          rcases hk with hk|hk|hk|hk
          · rw [if_pos hk];exact .inr ⟨_,_,rfl,by omega,hF _⟩
          · rw [if_neg (by omega),if_pos hk];exact .inr ⟨_,_,rfl,by omega,hF _⟩
          · rw [if_neg (by omega),if_neg (by omega),if_pos hk];exact .inr ⟨_,_,rfl,by omega,hF _⟩
          · rw [if_neg (by omega),if_neg (by omega),if_neg (by omega),if_pos hk]
            split
            · exact .inl ⟨_,by decide,rfl⟩
            · exact .inr ⟨_,_,rfl,by omega,hF _⟩
theorem run_ends {t:Table} {regs:List Int} {w:Snap} {f z:Int} {H:List Int} (hs:SpanOk t f z H):∀(m:Nat) (a:Int) (S:List Int) (steps:Int),At1 H f z a S→z-a<m→∃v n e,runF t regs w z m a S steps=some (v,n,e)∧steps≤n∧n≤steps+(z-a)
  | 0,a,S,steps,h,hm=>by have:=h.z;omega
  | m+1,a,S,steps,h,hm=>by
    simp only [runF]
    by_cases hz:z≤a
    · have:a=z:=by have:=h.z;omega
      subst this
      rw [if_pos hz]
      match S,h with
      | [],h=>have:=h.h;rw [hs.end_] at this;simp at this
      | v::S,h=>exact ⟨_,_,_,rfl,Int.le_refl _,by omega⟩
    · rw [if_neg hz]
      rcases step_at (regs:=regs) (w:=w) hs h (by omega) with ⟨e,-,he⟩|⟨a',S',he,h1,h2⟩
      · rw [he];exact ⟨_,_,_,rfl,by omega,by omega⟩
      · rw [he]
        obtain ⟨v,n,e,k1,k2,k3⟩:=run_ends hs m a' S' (steps+1) h2 (by omega)
        exact ⟨v,n,e,k1,by omega,by omega⟩
end Go.Proofs.YtoegffiapnnkiaaGreat.Abs
namespace Go.Proofs.YtoegffiapnnkiaaGreat.Abs
open Go
set_option linter.unusedVariables false
set_option linter.unusedSimpArgs false
set_option maxRecDepth 100000
set_option maxHeartbeats 4000000
theorem oneS_in {o a:Int} (ha:In64 a):In64 (oneS o a).1:=by
  unfold oneS
  by_cases h1:o=2
  · rw [if_pos h1];show In64 (if a=0 then 1 else 0);split<;>(unfold In64;omega)
  rw [if_neg h1]
  by_cases h2:o=3∧0≤a
  · rw [if_pos h2];exact ha
  rw [if_neg h2]
  by_cases h3:In64 (-a)
  · rw [if_pos h3];exact h3
  rw [if_neg h3];show In64 0;unfold In64;omega
theorem twoS_in {o a b:Int} (ha:In64 a) (hb:In64 b):In64 (twoS o a b).1:=by
  have h0:In64 0:=by unfold In64;omega
  have e:∀x,In64 (exS x).1:=fun x=>by
    unfold exS
    by_cases h:In64 x
    · rw [if_pos h];exact h
    · rw [if_neg h];exact h0
  have e1:∀(p:Prop) [Decidable p],In64 (b01 p).1:=fun p _=>by
    show In64 (if p then 1 else 0)
    split<;>(unfold In64;omega)
  unfold twoS
  by_cases h4:o=4
  · rw [if_pos h4]
    show In64 (min a b);unfold In64 at *;omega
  rw [if_neg h4]
  by_cases h5:o=5
  · rw [if_pos h5]
    show In64 (max a b);unfold In64 at *;omega
  rw [if_neg h5]
  by_cases h11:o=11
  · rw [if_pos h11]
    exact e1 _
  rw [if_neg h11]
  by_cases h12:o=12
  · rw [if_pos h12]
    exact e1 _
  rw [if_neg h12]
  by_cases h13:o=13
  · rw [if_pos h13]
    exact e1 _
  rw [if_neg h13]
  by_cases h14:o=14
  · rw [if_pos h14]
    exact e1 _
  rw [if_neg h14]
  by_cases h15:o=15
  · rw [if_pos h15]
    exact e1 _
  rw [if_neg h15]
  by_cases h16:o=16
  · rw [if_pos h16]
    exact e1 _
  rw [if_neg h16]
  by_cases h7:o=7
  · rw [if_pos h7]
    exact e _
  rw [if_neg h7]
  by_cases h8:o=8
  · rw [if_pos h8]
    exact e _
  rw [if_neg h8]
  by_cases h9:o=9
  · rw [if_pos h9]
    by_cases hb0:b=0
    · rw [if_pos hb0];exact h0
    · rw [if_neg hb0];exact e _
  rw [if_neg h9]
  by_cases h10:o=10
  · rw [if_pos h10]
    by_cases hb0:b=0
    · rw [if_pos hb0];exact h0
    · rw [if_neg hb0];exact tmod_in ha hb hb0
  rw [if_neg h10]
  exact e _
theorem step_in {t:Table} {regs:List Int} {w:Snap} {a a':Int} {S S':List Int} (hc:∀n∈t.consts.l,In64 n) (hr:∀n∈regs,In64 n) (hw:w.Ok) (hS:∀v∈S,In64 v) (h:insF t regs w a S=.go a' S'):∀v∈S',In64 v:=by
  have h0:In64 0:=by unfold In64;omega
  have gd:∀(l:List Int),(∀n∈l,In64 n)→∀i,In64 (l.getD i 0):=fun l hl i=>by
    rw [List.getD_eq_getElem?_getD]
    cases hi:l[i]? with
    | none=>exact h0
    | some x=>exact hl x (List.mem_of_getElem? hi)
  have cons:∀ {v:Int} {S:List Int},In64 v→(∀v∈S,In64 v)→∀u∈v::S,In64 u:=fun hv hS u hu=>by
    rcases List.mem_cons.1 hu with rfl|hu
    · exact hv
    · exact hS u hu
  unfold insF at h
  generalize codeAt t a=x at h
  simp only at h
  split at h
  · injection h with h1 h2;subst h2;exact cons (gd _ hc _) hS
  split at h
  · injection h with h1 h2;subst h2;exact cons (gd _ hr _) hS
  split at h
  · injection h with h1 h2;subst h2;refine cons ?_ hS;split<;>(unfold In64;omega)
  split at h
  · split at h
    · cases h
    · injection h with h1 h2;subst h2;exact cons (hw.get _) hS
  split at h
  · split at h
    · split at h
      · rename_i b S
        unfold pushF at h
        split at h
        · injection h with h1 h2;subst h2;exact cons (oneS_in (hS b (by simp))) fun v hv=>hS v (by simp [hv])
        · cases h
      · cases h
    · split at h
      · rename_i b c S
        unfold pushF at h
        split at h
        · injection h with h1 h2;subst h2;exact cons (twoS_in (hS c (by simp)) (hS b (by simp))) fun v hv=>hS v (by simp [hv])
        · cases h
      · cases h
  split at h
  · split at h
    · split at h
      · injection h with h1 h2;subst h2;exact hS
      · injection h with h1 h2;subst h2;exact fun v hv=>hS v (by simp [hv])
    · cases h
  split at h
  · split at h
    · split at h
      · injection h with h1 h2;subst h2;exact fun v hv=>hS v (by simp [hv])
      · injection h with h1 h2;subst h2;exact fun v hv=>hS v (by simp [hv])
    · cases h
  injection h with h1 h2;subst h2;exact hS
def resV (q:Int×Int×Int):AV:=.tup [.int .i64 q.1,.int .i64 q.2.1,.int .i64 q.2.2]
end Go.Proofs.YtoegffiapnnkiaaGreat.Abs
