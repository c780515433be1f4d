/- Parts of one proof. No condition but those that each theorem names. -/
import Derived.Test.YtoegffiapnnkiaaGreatPE18
namespace Go.Proofs.YtoegffiapnnkiaaGreat.Abs
open Go
set_option linter.unusedVariables false
set_option linter.unusedSimpArgs false
structure Sim (f z:Int) (H L:List Int):Prop where
  hH:HOk H
  hL:LOk L
  len:L.length=(z+1-f).toNat
  at_:∀i,0≤i→i≤z-f→hAt H (f+i)=lAt L i+1
theorem hAt_set {H:List Int} (hH:HOk H) {a b n:Int} (ha:0≤a∧a<4097) (hb:0≤b∧b<4097):hAt (H.set a.toNat n) b=if b=a then n else hAt H b:=by
  have hl:=hH.len
  unfold hAt
  rw [List.getD_eq_getElem?_getD,List.getD_eq_getElem?_getD,List.getElem?_set]
  by_cases e:b=a
  · subst e;rw [if_pos rfl,if_pos rfl,if_pos (by omega)];rfl
  · rw [if_neg e,if_neg (by omega)]
theorem lAt_set {L:List Int} {a b n:Int} (ha:0≤a∧a<L.length) (hb:0≤b∧b<L.length):lAt (L.set a.toNat n) b=if b=a then n else lAt L b:=by
  unfold lAt
  rw [List.getD_eq_getElem?_getD,List.getD_eq_getElem?_getD,List.getElem?_set]
  by_cases e:b=a
  · subst e;rw [if_pos rfl,if_pos rfl,if_pos (by omega)];rfl
  · rw [if_neg e,if_neg (by omega)]
theorem comeR_bad (L:List Int) (i n:Int):(comeR L true i n).2=true:=by unfold comeR;split<;>rfl
variable {f z:Int} {H L:List Int}
theorem Sim.come (hf:0≤f∧f≤z∧z≤4096) (h:Sim f z H L) {a n:Int} (ha:f≤a∧a≤z) :
    (∀H',comeS H a n=some H'→(comeR L false (a-f) n).2=false∧Sim f z H' (comeR L false (a-f) n).1)∧(comeS H a n=none→(comeR L false (a-f) n).2=true):=by
  have hlen:=h.len
  have e:=h.at_ (a-f) (by omega) (by omega)
  rw [show f+(a-f)=a by omega] at e
  have hb:=lAt_ok h.hL (a-f)
  unfold comeS comeR
  by_cases hc:0≤n∧n≤64∧(hAt H a=0∨hAt H a=n+1)
  · have hc':0≤n∧n≤64∧(lAt L (a-f)<0∨lAt L (a-f)=n):=by omega
    rw [if_pos hc,if_pos hc']
    refine ⟨fun H' e'=>?_,fun e'=>by cases e'⟩
    have hH':HOk H':=h.hH.come (a:=a) (n:=n) (by unfold comeS;rw [if_pos hc];exact e')
    injection e' with e';subst e'
    have hL':=h.hL.come false (a-f) n
    unfold comeR at hL'
    rw [if_pos hc'] at hL'
    refine ⟨rfl,hH',hL',by simp [hlen],fun i h0 h1=>?_⟩
    rw [hAt_set h.hH (by omega) (by omega),lAt_set (by omega) (by omega)]
    by_cases e2:i=a-f
    · rw [if_pos (by omega),if_pos e2]
    · rw [if_neg (by omega),if_neg e2];exact h.at_ i h0 h1
  · have hc':¬(0≤n∧n≤64∧(lAt L (a-f)<0∨lAt L (a-f)=n)):=by omega
    rw [if_neg hc,if_neg hc']
    exact ⟨fun H' e'=>(by cases e'),fun _=>rfl⟩
theorem come_comm (hH:HOk H) {a b n m:Int} (ha:0≤a∧a<4097) (hb:0≤b∧b<4097):(comeS H a n).bind (fun H=>comeS H b m)=(comeS H b m).bind (fun H=>comeS H a n):=by
  have key:∀ {a b n m:Int},0≤a∧a<4097→0≤b∧b<4097→∀H',(comeS H a n).bind (fun H=>comeS H b m)=some H'→(comeS H b m).bind (fun H=>comeS H a n)=some H':=fun {a b n m} ha hb H' e=>by
    obtain ⟨H1,e1,e2⟩:=Option.bind_eq_some_iff.1 e
    have hO1:=hH.come e1
    unfold comeS at e1 e2
    split at e1
    · rename_i c1
      split at e2
      · rename_i c2
        injection e1 with e1;injection e2 with e2;subst e1;subst e2
        rw [hAt_set hH ha hb] at c2
        by_cases hab:b=a
        · subst hab
          rw [if_pos rfl] at c2
          have:n=m:=by omega
          subst this
          unfold comeS
          rw [if_pos c1,Option.bind_some,if_pos (by rw [hAt_set hH hb hb,if_pos rfl];omega)]
        · rw [if_neg hab] at c2
          unfold comeS
          rw [if_pos c2,Option.bind_some,if_pos (by rw [hAt_set hH hb ha,if_neg (fun e=>hab e.symm)];exact c1)]
          rw [List.set_comm _ _ (by omega)]
      · cases e2
    · cases e1
  cases h1:(comeS H a n).bind (fun H=>comeS H b m) with
  | some H'=>exact (key ha hb H' h1).symm
  | none =>
    cases h2:(comeS H b m).bind (fun H=>comeS H a n) with
    | some H'=>rw [key hb ha H' h2] at h1;cases h1
    | none=>rfl
theorem Sim.come2 (hf:0≤f∧f≤z∧z≤4096) (h:Sim f z H L) {a b n m:Int} (ha:f≤a∧a≤z) (hb:f≤b∧b≤z) :
    (∀H',(comeS H a n).bind (fun H=>comeS H b m)=some H'→(comeR (comeR L false (a-f) n).1 (comeR L false (a-f) n).2 (b-f) m).2=false∧Sim f z H' (comeR (comeR L false (a-f) n).1 (comeR L false (a-f) n).2 (b-f) m).1)∧((comeS H a n).bind (fun H=>comeS H b m)=none→(comeR (comeR L false (a-f) n).1 (comeR L false (a-f) n).2 (b-f) m).2=true):=by
  obtain ⟨p1,p2⟩:=h.come hf (n:=n) ha
  refine ⟨fun H' e=>?_,fun e=>?_⟩
  · obtain ⟨H1,e1,e2⟩:=Option.bind_eq_some_iff.1 e
    obtain ⟨q1,q2⟩:=p1 H1 e1
    rw [q1]
    exact (q2.come hf (n:=m) hb).1 H' e2
  · cases e1:comeS H a n with
    | none=>rw [p2 e1];exact comeR_bad _ _ _
    | some H1 =>
      obtain ⟨q1,q2⟩:=p1 H1 e1
      rw [q1]
      rw [e1,Option.bind_some] at e
      exact (q2.come hf (n:=m) hb).2 e
theorem Sim.step (hf:0≤f∧f≤z∧z≤4096) (h:Sim f z H L) {x:Instr} {a:Int} (ha:f≤a∧a<z) (hx:6≤x.k∧x.k≤9→f≤x.a∧x.a≤z) (hn:0≤lAt L (a-f)) :
    (∀H',goS H x a=some H'→(stepR f L false x a).2=false∧Sim f z H' (stepR f L false x a).1)∧(goS H x a=none→(stepR f L false x a).2=true):=by
  have e:=h.at_ (a-f) (by omega) (by omega)
  rw [show f+(a-f)=a by omega] at e
  have en:hAt H a-1=lAt L (a-f):=by omega
  have hneg:∀(c:Int) (b:Int),c<0→comeS H b c=none:=fun c b hc=>by unfold comeS;rw [if_neg (by omega)]
  unfold goS
  simp only [en]
  rw [if_neg (by omega)]
  by_cases h5:x.k=5
  · rw [if_pos h5]
    by_cases h3:x.a≤3
    · rw [if_neg (by omega),stepR_5a h5 h3,show lAt L (a-f)+1-1=lAt L (a-f) by omega]
      obtain ⟨p1,p2⟩:=h.come hf (n:=lAt L (a-f)) (a:=a+1) (by omega)
      by_cases hm:lAt L (a-f)≥1
      · rw [if_pos hm]
        refine ⟨fun H' e'=>?_,fun e'=>?_⟩
        · obtain ⟨q1,q2⟩:=p1 H' e'
          exact ⟨by rw [q1];simp;omega,q2⟩
        · rw [p2 e'];rfl
      · rw [if_neg hm]
        refine ⟨fun H' e'=>(by cases e'),fun _=>?_⟩
        rw [decide_eq_true (by omega),Bool.or_true]
    · rw [if_pos (by omega),stepR_5b h5 h3,show lAt L (a-f)+1-2=lAt L (a-f)-1 by omega]
      obtain ⟨p1,p2⟩:=h.come hf (n:=lAt L (a-f)-1) (a:=a+1) (by omega)
      by_cases hm:lAt L (a-f)-1≥1
      · rw [if_pos hm]
        refine ⟨fun H' e'=>?_,fun e'=>?_⟩
        · obtain ⟨q1,q2⟩:=p1 H' e'
          exact ⟨by rw [q1];simp;omega,q2⟩
        · rw [p2 e'];rfl
      · rw [if_neg hm]
        refine ⟨fun H' e'=>(by cases e'),fun _=>?_⟩
        rw [decide_eq_true (by omega),Bool.or_true]
  rw [if_neg h5]
  by_cases h67:x.k=6∨x.k=7
  · have hxa:=hx (by omega)
    rw [if_pos h67,stepR_67 h67,come_comm h.hH (by omega) (by omega)]
    obtain ⟨p1,p2⟩:=h.come2 hf (a:=x.a) (b:=a+1) (n:=lAt L (a-f)) (m:=lAt L (a-f)-1) (by omega) (by omega)
    refine ⟨fun H' e'=>?_,fun e'=>by rw [p2 e'];rfl⟩
    obtain ⟨q1,q2⟩:=p1 H' e'
    have:1≤lAt L (a-f):=by
      rcases Int.lt_or_le (lAt L (a-f)) 1 with hlt|hle
      · exfalso
        rw [←come_comm h.hH (by omega) (by omega),hneg _ _ (by omega)] at e';cases e'
      · exact hle
    exact ⟨by rw [q1];simp;omega,q2⟩
  rw [if_neg h67]
  by_cases h8:x.k=8
  · have hxa:=hx (by omega)
    rw [if_pos h8,stepR_8 h8,come_comm h.hH (by omega) (by omega)]
    obtain ⟨p1,p2⟩:=h.come2 hf (a:=x.a) (b:=a+1) (n:=lAt L (a-f)-1) (m:=lAt L (a-f)-1) (by omega) (by omega)
    refine ⟨fun H' e'=>?_,fun e'=>by rw [p2 e'];rfl⟩
    obtain ⟨q1,q2⟩:=p1 H' e'
    have:1≤lAt L (a-f):=by
      rcases Int.lt_or_le (lAt L (a-f)) 1 with hlt|hle
      · exfalso
        rw [hneg _ _ (by omega)] at e';cases e'
      · exact hle
    exact ⟨by rw [q1];simp;omega,q2⟩
  rw [if_neg h8]
  by_cases h9:x.k=9
  · have hxa:=hx (by omega)
    rw [if_pos h9,stepR_9 h9,decide_eq_false (by omega),Bool.or_false]
    exact h.come hf hxa
  · rw [if_neg h9,stepR_e h5 (by omega),decide_eq_false (by omega),Bool.or_false]
    exact h.come hf (by omega)
theorem Sim.run {t:Table} (hf:0≤f∧f≤z∧z≤4096) (hst:∀i,f≤i→i<z→Stands t (codeAt t i) i z=true):∀(m:Nat) (i:Int) (H L:List Int),f≤i→i+m≤z→Sim f z H L →
    (∀H',runS t m i H=some H'→∃L',runR t f m i L false=some L'∧Sim f z H' L')∧(runS t m i H=none→runR t f m i L false=none)
  | 0,i,H,L,h0,h1,h=>⟨fun H' e=>by injection e with e;subst e;exact ⟨L,rfl,h⟩,fun e=>by cases e⟩
  | m+1,i,H,L,h0,h1,h=>by
    have e:=h.at_ (i-f) (by omega) (by omega)
    rw [show f+(i-f)=i by omega] at e
    rw [runS,runR,if_neg (by simp)]
    by_cases hn:lAt L (i-f)<0
    · rw [if_pos hn]
      have:goS H (codeAt t i) i=none:=by unfold goS;simp only;rw [if_pos (by omega)]
      rw [this]
      exact ⟨fun H' e=>(by cases e),fun _=>rfl⟩
    · rw [if_neg hn]
      obtain ⟨p1,p2⟩:=h.step hf (x:=codeAt t i) (a:=i) (by omega) (fun hk=>by have:=stands_to (hst i h0 (by omega)) hk;omega) (by omega)
      cases hg:goS H (codeAt t i) i with
      | none =>
        have hb:∀k L,runR t f k (i+1) L true=none:=fun k L=>by cases k<;>rfl
        rw [p2 hg]
        refine ⟨fun H' e=>(by cases e),fun _=>hb _ _⟩
      | some H1 =>
        obtain ⟨q1,q2⟩:=p1 H1 hg
        rw [q1]
        exact Sim.run hf hst m (i+1) H1 _ (by omega) (by omega) q2
theorem Sim.zero (hf:0≤f∧f≤z∧z≤4096):Sim f z H0 (L0 f z):=by
  refine ⟨H0_ok,⟨by simp [L0];omega,fun n hn=>by rw [List.eq_of_mem_replicate hn];omega⟩,by simp [L0],fun i h0 h1=>?_⟩
  unfold hAt lAt H0 L0
  rw [List.getD_eq_getElem?_getD,List.getD_eq_getElem?_getD,List.getElem?_replicate,List.getElem?_replicate,if_pos (by omega),if_pos (by omega)]
  rfl
theorem span_fit {t:Table} (hf:0≤f∧f<z∧z≤4096) (hst:standAll t z (z-f).toNat f=true):spanS t f z=if fitR t f z=true then none else some 192:=by
  have h1:=fun i (h0:f≤i) (h1:i<z)=>standAll_at (z-f).toNat f i hst h0 (by omega)
  have hz:=Sim.zero (f:=f) (z:=z) (by omega)
  obtain ⟨p1,p2⟩:=hz.come (by omega) (a:=f) (n:=0) (by omega)
  unfold spanS fitR
  rw [if_pos hst]
  cases hc:comeS H0 f 0 with
  | none =>
    have hb:∀k i L,runR t f k i L true=none:=fun k i L=>by cases k<;>rfl
    rw [p2 hc,hb];rfl
  | some H1 =>
    obtain ⟨q1,q2⟩:=p1 H1 hc
    rw [q1,Option.bind_some]
    obtain ⟨r1,r2⟩:=Sim.run (t:=t) (by omega) h1 (z-f).toNat f H1 _ (by omega) (by omega) q2
    cases hr:runS t (z-f).toNat f H1 with
    | none=>rw [r2 hr];rfl
    | some H2 =>
      obtain ⟨L2,s1,s2⟩:=r1 H2 hr
      rw [s1]
      have e:=s2.at_ (z-f) (by omega) (by omega)
      rw [show f+(z-f)=z by omega] at e
      by_cases hh:hAt H2 z=2
      · simp [hh];omega
      · simp [hh];omega
end Go.Proofs.YtoegffiapnnkiaaGreat.Abs
