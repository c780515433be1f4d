/- Parts of one proof. No condition but those that each theorem names. -/
import Derived.Test.YtoegffiapnnkiaaGreatPE12
namespace Go.Proofs.YtoegffiapnnkiaaGreat.Abs
open Go
set_option linter.unusedVariables false
set_option linter.unusedSimpArgs false
set_option maxRecDepth 100000
set_option maxHeartbeats 4000000
theorem Bd.mono {P:Program} {g:Cg} {V:K→Option (List AV)} {f:Nat} {args:List AV} {Δ:Dm} {Q Q':RO→Dm→Prop} (h:Bd P g V f args Δ Q) (hq:∀o Δ,Q o Δ→Q' o Δ):Bd P g V f args Δ Q':=fun F s hM=>by
  obtain ⟨o,Δ',s',h1,h2⟩:=h F s hM
  exact ⟨o,Δ',s',hq _ _ h1,h2⟩
attribute [local irreducible] W Cl Bd
variable {g:Cg} {V:K→Option (List AV)}
theorem chain_in {t:Table}:∀(l:List Span) (n m:Int),chain l n=some m→n≤m∧∀x∈l,n≤x.f∧x.f<x.t∧x.t≤m
  | [],n,m,h=>by injection h with h;subst h;simp
  | x::l,n,m,h=>by
    simp only [chain] at h
    split at h
    · rename_i hs
      have:=chain_in (t:=t) l _ _ h
      unfold SpanAt at hs
      refine ⟨by omega,fun y hy=>?_⟩
      rcases List.mem_cons.1 hy with rfl|hy
      · omega
      · have:=this.2 y hy;omega
    · cases h
theorem row_in {t:Table} {r:Row} {n m:Int} (h:RowAt t r n=some m):n≤m∧∀x∈r.spans,n≤x.f∧x.f<x.t∧x.t≤m:=by
  simp only [RowAt,Option.ite_none_right_eq_some] at h
  exact chain_in (t:=t) _ _ _ h.2
theorem rows_in {t:Table}:∀(l:List Row) (p n m:Int),rowsAt t p l n=some m→n≤m∧∀r∈l,∀x∈r.spans,n≤x.f∧x.f<x.t∧x.t≤m
  | [],p,n,m,h=>by injection h with h;subst h;simp
  | r::l,p,n,m,h=>by
    simp only [rowsAt] at h
    split at h
    · obtain ⟨k,h1,h2⟩:=Option.bind_eq_some_iff.1 h
      have a:=row_in h1
      have b:=rows_in l _ _ _ h2
      refine ⟨by omega,fun y hy x hx=>?_⟩
      rcases List.mem_cons.1 hy with rfl|hy
      · have:=a.2 x hx;omega
      · have:=b.2 y hy x hx;omega
    · cases h
def GuardIn (n m:Int) (x:Guard):Prop:=(n≤x.when.f∧x.when.f<x.when.t∧x.when.t≤m)∧∀r∈x.rows.l,∀y∈r.spans,n≤y.f∧y.f<y.t∧y.t≤m
theorem GuardIn.le {n m n' m':Int} {x:Guard} (h:GuardIn n m x) (h1:n'≤n) (h2:m≤m'):GuardIn n' m' x :=
  ⟨by have:=h.1;omega,fun r hr y hy=>by have:=h.2 r hr y hy;omega⟩
theorem guard_in {t:Table} {x:Guard} {n m:Int} (h:guardAt t x n=some m):n≤m∧GuardIn n m x:=by
  unfold guardAt at h
  split at h
  · rename_i hs
    have a:=rows_in _ _ _ _ h
    have hs:=hs.1
    unfold SpanAt at hs
    exact ⟨by omega,by omega,fun r hr y hy=>by have:=a.2 r hr y hy;omega⟩
  · cases h
theorem guards_in {t:Table}:∀(l:List Guard) (n m:Int),guardsAt t l n=some m→n≤m∧∀x∈l,GuardIn n m x
  | [],n,m,h=>by injection h with h;subst h;simp
  | x::l,n,m,h=>by
    obtain ⟨k,h1,h2⟩:=Option.bind_eq_some_iff.1 h
    have a:=guard_in h1
    have b:=guards_in l _ _ h2
    refine ⟨by omega,fun y hy=>?_⟩
    rcases List.mem_cons.1 hy with rfl|hy
    · exact a.2.le (by omega) (by omega)
    · exact (b.2 y hy).le (by omega) (by omega)
theorem states_in {t:Table}:∀(l:List (Sl Guard)) (n m:Int),statesAt t l n=some m→n≤m∧∀s∈l,∀x∈s.l,GuardIn n m x
  | [],n,m,h=>by injection h with h;subst h;simp
  | x::l,n,m,h=>by
    simp only [statesAt] at h
    split at h
    · obtain ⟨k,h1,h2⟩:=Option.bind_eq_some_iff.1 h
      have a:=guards_in _ _ _ h1
      have b:=states_in l _ _ h2
      refine ⟨by omega,fun y hy z hz=>?_⟩
      rcases List.mem_cons.1 hy with rfl|hy
      · exact (a.2 z hz).le (by omega) (by omega)
      · exact (b.2 y hy z hz).le (by omega) (by omega)
    · cases h
theorem Formed.in {t:Table} (h:Formed t):∀s∈t.states.l,∀x∈s.l,GuardIn 0 t.code.l.length x:=(states_in _ _ _ h.2).2
def spansErr (t:Table):List Span→Option Int
  | []=>none
  | x::l=>(spanS t x.f x.t).or (spansErr t l)
def rowsErr (t:Table):List Row→Option Int
  | []=>none
  | r::l=>(spansErr t r.spans).or (rowsErr t l)
noncomputable def masksS (t:Table) (x:Span):Int×Int:=readsS (codeAt t) (min x.t t.code.l.length-max x.f 0).toNat (max x.f 0) 0 0
noncomputable def maskErr (t:Table) (x:Guard):Option Int:=if (masksS t x.when).1=x.fields∧(masksS t x.when).2=x.regs then none else some 193
noncomputable def guardErr (t:Table) (x:Guard):Option Int:=(spanS t x.when.f x.when.t).or ((maskErr t x).or (rowsErr t x.rows.l))
noncomputable def guardsErr (t:Table):List Guard→Option Int
  | []=>none
  | x::l=>(guardErr t x).or (guardsErr t l)
noncomputable def statesErr (t:Table):List (Sl Guard)→Option Int
  | []=>none
  | x::l=>(guardsErr t x.l).or (statesErr t l)
noncomputable def checkS (t:Table):Option Int:=if Formed t then statesErr t t.states.l else some 190
structure Plains (g:Cg):Prop where
  formed:Plain g 109=true
  row:Plain g 144=true
  must:Plain g 112=true
  index:Plain g 178=true
  spans:Plain g 86=true
  fspan:Plain g 143=true
  span:Plain g 110=true
  stands:Plain g 145=true
  go1:Plain g 147=true
  come:Plain g 146=true
  reads:Plain g 111=true
theorem check1_b (P:Plains g) {t:Table} (ht:t.Ok V) (hn:∀V,Cl Tryz.prog g V 142 [.str t.name] [] fun o _=>o=.ret (.bool (NameS t.name))) (b:K) :
    Bd Tryz.prog g V 108 [.ptr (some (b,0))] [(b,.cells [.str t.name,t.regs.v,.int .i64 t.slots,t.consts.v,t.code.v,t.states.v] 26 6 true)] fun o _=>(o=.ret (.tup [])∧checkS t=none)∨∃c,o=.pan (pn c)∧checkS t=some c:=by
  refine Bd.enter Tryz.func108 rfl ?_
  repeat first|(with_reducible first|refine za ?_|refine zb ?_)|refine yn 0 zr ?_
  refine W.callMP rfl rfl rfl rfl (formed_c P.formed P.row P.must P.index P.spans P.fspan ht (hn V)) (by decide +kernel) ?_ ?_<;>intro hF
  rotate_left
  · exact .inr ⟨190,rfl,by unfold checkS;rw [if_neg hF]⟩
  have hE:checkS t=statesErr t t.states.l:=by unfold checkS;rw [if_pos hF]
  rw [hE]
  generalize hR:statesErr t t.states.l=R
  have hin:=hF.in
  have hc4:t.code.l.length≤4096:=hF.1.2.2.2.2.2.1
  have hlen:=ht.states.1
  unfold Len at hlen
  repeat first|(with_reducible first|refine za ?_|refine zb ?_|refine zc ?_)|refine ym zr ?_|refine yn 0 zr ?_|with_reducible refine ze ?_
  refine W.loopR (α:={ i:Nat // i≤t.states.l.length∧R=statesErr t (t.states.l.drop i) }) (fun i=>t.states.l.length-i.1) (fun i=>[(0,_),(14,_),(15,_),(16,.int .i64 (i.1:Int))]) (fun _=>_) ⟨0,by omega,hR.symm⟩ ⟨rfl,rfl,rfl,rfl⟩ (List.Sublist.refl _) ?_
  rintro ⟨i,hi1,hi2⟩ ih
  simp only at ih hi1 hi2 ⊢
  repeat first|(with_reducible first|refine za ?_|refine zb ?_|refine zc ?_)|refine ym zr ?_
  refine W.condP rfl ?_ ?_<;>intro hlt
  rotate_left
  · clear ih
    rw [List.drop_eq_nil_of_le (by omega)] at hi2
    repeat' first|(with_reducible first|refine zg ?_|refine zh ?_|refine zi ?_)|refine W.doneN zr ?_
    exact .inl ⟨rfl,hi2⟩
  have hlt:i<t.states.l.length:=by omega
  obtain ⟨jn,o,cs,ha,hV,hpt⟩:=Sl.In.get ht.states.2.1 hlt
  have hl:=ht.states.2.2 _ (List.getElem_mem hlt)
  have hin1:=hin _ (List.getElem_mem hlt)
  rw [List.drop_eq_getElem_cons hlt,statesErr] at hi2
  generalize t.states.l[i]=l at hpt hl hi2 hin1
  have hll:=hl.1
  unfold Len at hll
  repeat first|refine W.ia tblOk rfl rfl rfl rfl rfl rfl ha (by omega) (by omega) ?_|refine W.ldV tblOk rfl rfl rfl hV hpt ?_|(with_reducible first|refine za ?_|refine zb ?_|refine zc ?_)|refine ym zr ?_|(with_reducible first|refine zd ?_|refine ze ?_)
  refine W.loopR (α:={ k:Nat // k≤l.l.length∧R=(guardsErr t (l.l.drop k)).or (statesErr t (t.states.l.drop (i+1))) }) (fun k=>l.l.length-k.1) (fun k=>[(0,_),(14,_),(15,_),(16,.int .i64 (i:Int)),(20,_),(21,_),(22,.int .i64 (k.1:Int))]) (fun _=>_) ⟨0,by omega,hi2⟩ ⟨rfl,rfl,rfl,rfl,rfl,rfl,rfl⟩ (List.Sublist.refl _) ?_
  clear hi2
  rintro ⟨k,hk1,hk2⟩ ih2
  simp only at ih2 hk1 hk2 ⊢
  repeat first|(with_reducible first|refine za ?_|refine zb ?_|refine zc ?_)|refine ym zr ?_
  refine W.condP rfl ?_ ?_<;>intro hlt2
  rotate_left
  · clear ih2
    rw [List.drop_eq_nil_of_le (by omega),guardsErr,Option.none_or] at hk2
    repeat first|(with_reducible first|refine zb ?_|refine zc ?_)|refine ym zr ?_|(with_reducible first|refine zf ?_|refine zg ?_|refine zh ?_|refine zi ?_)
    rw [wN (by omega)]
    have h9:=ih ⟨i+1,by omega,hk2⟩ (by show t.states.l.length-(i+1)<t.states.l.length-i;omega)
    refine W.weak _ _ ?_ ?_ h9
    · exact ⟨rfl,rfl,rfl,rfl⟩
    · exact List.Sublist.refl _
  have hlt2:k<l.l.length:=by omega
  obtain ⟨jn2,o2,cs2,ha2,hV2,hpt2⟩:=Sl.In.get hl.2.1 hlt2
  have hg:=hl.2.2 _ (List.getElem_mem hlt2)
  have hin2:=hin1 _ (List.getElem_mem hlt2)
  rw [List.drop_eq_getElem_cons hlt2,guardsErr,guardErr] at hk2
  generalize l.l[k]=x at hpt2 hg hk2 hin2
  have hx:=hg.2.2.2.1
  unfold Len at hx
  obtain ⟨hw0,hrows⟩:=hin2
  repeat first|refine W.ia tblOk rfl rfl rfl rfl rfl rfl ha2 (by omega) (by omega) ?_|refine W.ldV tblOk rfl rfl rfl hV2 hpt2 ?_|(with_reducible first|refine za ?_|refine zb ?_|refine zc ?_)|refine ym zr ?_|refine yn 0 zr ?_|refine yn 1 zr ?_|(refine yp zr ?_;intro _)|refine yq zr ?_|(with_reducible first|refine zd ?_|refine ze ?_)
  refine W.callE (pf:=pn) rfl rfl rfl rfl (span_c (t:=t) P.span P.stands P.go1 P.come P.must ht (f:=x.when.f) (z:=x.when.t) (by omega) (by omega) (by omega) hc4) (by decide +kernel) ?_ ?_
  rotate_left
  · intro c hc;exact .inr ⟨c,rfl,by rw [hk2,hc];rfl⟩
  intro hs1
  rw [hs1,Option.none_or] at hk2
  repeat' first|refine W.callP rfl rfl rfl rfl (reads_c (t:=t) P.reads ht (f:=x.when.f) (z:=x.when.t) (by omega) (by omega)) ?_|(refine W.callM rfl rfl rfl rfl (must_c P.must _ _) (by decide +kernel) ?_ ?_<;>intro hm_<;>(try simp only [decide_eq_true_eq,decide_eq_false_iff_not,Bool.true_eq_false,Bool.false_eq_true] at hm_))|(with_reducible first|refine za ?_|refine zb ?_|refine zc ?_)|refine ym zr ?_|refine yn 0 zr ?_|refine yn 1 zr ?_|with_reducible refine ze ?_|refine zx zr zr zr ?_|(refine W.gs zr zr zr zr ?_ ?_<;>intro _)
  all_goals first
    | with_reducible refine W.id ?_
    | (refine .inr ⟨193,rfl,?_⟩
       have hm:maskErr t x=some 193:=by unfold maskErr masksS;rw [if_neg (by rintro ⟨q1,q2⟩;first|exact hm_ q2|exact ‹¬_› q1)]
       rw [hk2,hm];rfl)
  have hm:maskErr t x=none:=by unfold maskErr masksS;rw [if_pos ⟨‹_›,hm_⟩]
  rw [hm,Option.none_or] at hk2
  refine W.loopR (α:={ j:Nat // j≤x.rows.l.length∧R=((rowsErr t (x.rows.l.drop j)).or (guardsErr t (l.l.drop (k+1)))).or (statesErr t (t.states.l.drop (i+1))) }) (fun j=>x.rows.l.length-j.1) (fun j=>[(0,_),(14,_),(15,_),(16,.int .i64 (i:Int)),(20,_),(21,_),(22,.int .i64 (k:Int)),(49,_),(50,_),(51,.int .i64 (j.1:Int))]) (fun _=>_) ⟨0,by omega,hk2⟩ ⟨rfl,rfl,rfl,rfl,rfl,rfl,rfl,rfl,rfl,rfl⟩ (List.sublist_cons_self _ _) ?_
  clear hk2
  rintro ⟨j,hj1,hj2⟩ ih3
  simp only at ih3 hj1 hj2 ⊢
  repeat first|(with_reducible first|refine za ?_|refine zb ?_|refine zc ?_)|refine ym zr ?_
  refine W.condP rfl ?_ ?_<;>intro hlt3
  rotate_left
  · clear ih3
    rw [List.drop_eq_nil_of_le (by omega),rowsErr,Option.none_or] at hj2
    repeat first|(with_reducible first|refine zb ?_|refine zc ?_)|refine ym zr ?_|(with_reducible first|refine zf ?_|refine zg ?_|refine zh ?_|refine zi ?_)
    rw [wN (by omega)]
    have h9:=ih2 ⟨k+1,by omega,hj2⟩ (by show l.l.length-(k+1)<l.l.length-k;omega)
    refine W.weak _ _ ?_ ?_ h9
    · exact ⟨rfl,rfl,rfl,rfl,rfl,rfl,rfl⟩
    · exact List.Sublist.refl _
  have hlt3:j<x.rows.l.length:=by omega
  obtain ⟨jn3,o3,cs3,ha3,hV3,hpt3⟩:=Sl.In.get hg.2.2.2.2.1 hlt3
  have hrow:=hrows _ (List.getElem_mem hlt3)
  rw [List.drop_eq_getElem_cons hlt3,rowsErr] at hj2
  generalize x.rows.l[j]=r at hpt3 hj2 hrow
  repeat first|refine W.ia tblOk rfl rfl rfl rfl rfl rfl ha3 (by omega) (by omega) ?_|refine W.ldV tblOk rfl rfl rfl hV3 hpt3 ?_|(with_reducible first|refine za ?_|refine zb ?_|refine zc ?_)|(refine yp zr ?_;intro _)|refine yq zr ?_|(with_reducible first|refine zd ?_|refine ze ?_)
  refine W.callR (Δ:=[rowK _ r]) rfl rfl rfl rfl (spans_c P.spans _ r) ?_ ?_
  · intro v Δ' h;exfalso;split at h
    · cases h.1
    · obtain ⟨i,h,-⟩:=h;cases h
  intro v Δ' h
  have hcase:(r.k=1∧r.o=2)∨(r.k=1∧¬r.o=2)∨r.k=2∨r.k=4∨(¬r.k=1∧¬r.k=2∧¬r.k=4):=by omega
  rcases hcase with ⟨hk,ho⟩|⟨hk,ho⟩|hk|hk|⟨hk1,hk2,hk4⟩
  · skip
    have hl2:r.spans=[r.side,r.qty]:=by simp [Row.spans,hk,ho]
    have hf0:=hrow r.side (by rw [hl2];simp)
    have hf1:=hrow r.qty (by rw [hl2];simp)
    rw [hl2] at hj2
    rw [offs_a hk ho] at h
    rw [if_neg (by simp)] at h
    obtain ⟨i5,hv,rfl⟩:=h
    injection hv with hv;subst hv
    repeat' first|refine W.condDT rfl (by decide) ?_|refine W.condDF rfl (by decide) ?_|with_reducible refine W.loop (a:=.seq (.region 14 _ _) _) ?_|refine W.ia tblOk rfl rfl rfl rfl rfl rfl rfl (by decide) (by decide) ?_|refine W.callE (pf:=pn) rfl rfl rfl rfl (span_c (t:=t) P.span P.stands P.go1 P.come P.must ht (f:=r.side.f) (z:=r.side.t) (by omega) (by omega) (by omega) hc4) (by decide +kernel) (fun _=>?_) (fun _ _=>?_)|refine W.callE (pf:=pn) rfl rfl rfl rfl (span_c (t:=t) P.span P.stands P.go1 P.come P.must ht (f:=r.qty.f) (z:=r.qty.t) (by omega) (by omega) (by omega) hc4) (by decide +kernel) (fun _=>?_) (fun _ _=>?_)|(with_reducible first|refine za ?_|refine zb ?_|refine zc ?_)|refine ym zr ?_|refine yn 0 zr ?_|refine yn 1 zr ?_|refine yn 2 zr ?_|(with_reducible first|refine zd ?_|refine ze ?_|refine zf ?_|refine zg ?_|refine zh ?_|refine zi ?_)|refine zw (by decide +kernel) ?_
    all_goals first
      | with_reducible refine W.id ?_
      | (refine .inr ⟨_,rfl,?_⟩;rw [hj2];simp [spansErr, *];done)
    all_goals
      rw [wN (by omega)]
      have h9:=ih3 ⟨j+1,by omega,by rw [hj2];simp [spansErr, *]⟩ (by show x.rows.l.length-(j+1)<x.rows.l.length-j;omega)
      refine W.weak _ _ ?_ ?_ h9
      · exact ⟨rfl,rfl,rfl,rfl,rfl,rfl,rfl,rfl,rfl,rfl⟩
      · first|exact .cons _ (.cons _ (List.Sublist.refl _))|exact .cons _ (List.Sublist.refl _)
  · skip
    have hl2:r.spans=[r.side,r.qty,r.price]:=by simp [Row.spans,hk,ho]
    have hf0:=hrow r.side (by rw [hl2];simp)
    have hf1:=hrow r.qty (by rw [hl2];simp)
    have hf2:=hrow r.price (by rw [hl2];simp)
    rw [hl2] at hj2
    rw [offs_b hk ho] at h
    rw [if_neg (by simp)] at h
    obtain ⟨i5,hv,rfl⟩:=h
    injection hv with hv;subst hv
    repeat' first|refine W.condDT rfl (by decide) ?_|refine W.condDF rfl (by decide) ?_|with_reducible refine W.loop (a:=.seq (.region 14 _ _) _) ?_|refine W.ia tblOk rfl rfl rfl rfl rfl rfl rfl (by decide) (by decide) ?_|refine W.callE (pf:=pn) rfl rfl rfl rfl (span_c (t:=t) P.span P.stands P.go1 P.come P.must ht (f:=r.side.f) (z:=r.side.t) (by omega) (by omega) (by omega) hc4) (by decide +kernel) (fun _=>?_) (fun _ _=>?_)|refine W.callE (pf:=pn) rfl rfl rfl rfl (span_c (t:=t) P.span P.stands P.go1 P.come P.must ht (f:=r.qty.f) (z:=r.qty.t) (by omega) (by omega) (by omega) hc4) (by decide +kernel) (fun _=>?_) (fun _ _=>?_)|refine W.callE (pf:=pn) rfl rfl rfl rfl (span_c (t:=t) P.span P.stands P.go1 P.come P.must ht (f:=r.price.f) (z:=r.price.t) (by omega) (by omega) (by omega) hc4) (by decide +kernel) (fun _=>?_) (fun _ _=>?_)|(with_reducible first|refine za ?_|refine zb ?_|refine zc ?_)|refine ym zr ?_|refine yn 0 zr ?_|refine yn 1 zr ?_|refine yn 2 zr ?_|(with_reducible first|refine zd ?_|refine ze ?_|refine zf ?_|refine zg ?_|refine zh ?_|refine zi ?_)|refine zw (by decide +kernel) ?_
    all_goals first
      | with_reducible refine W.id ?_
      | (refine .inr ⟨_,rfl,?_⟩;rw [hj2];simp [spansErr, *];done)
    all_goals
      rw [wN (by omega)]
      have h9:=ih3 ⟨j+1,by omega,by rw [hj2];simp [spansErr, *]⟩ (by show x.rows.l.length-(j+1)<x.rows.l.length-j;omega)
      refine W.weak _ _ ?_ ?_ h9
      · exact ⟨rfl,rfl,rfl,rfl,rfl,rfl,rfl,rfl,rfl,rfl⟩
      · first|exact .cons _ (.cons _ (List.Sublist.refl _))|exact .cons _ (List.Sublist.refl _)
  · skip
    have hl2:r.spans=[r.qty,r.price]:=by simp [Row.spans,hk]
    have hf0:=hrow r.qty (by rw [hl2];simp)
    have hf1:=hrow r.price (by rw [hl2];simp)
    rw [hl2] at hj2
    rw [offs_c hk] at h
    rw [if_neg (by simp)] at h
    obtain ⟨i5,hv,rfl⟩:=h
    injection hv with hv;subst hv
    repeat' first|refine W.condDT rfl (by decide) ?_|refine W.condDF rfl (by decide) ?_|with_reducible refine W.loop (a:=.seq (.region 14 _ _) _) ?_|refine W.ia tblOk rfl rfl rfl rfl rfl rfl rfl (by decide) (by decide) ?_|refine W.callE (pf:=pn) rfl rfl rfl rfl (span_c (t:=t) P.span P.stands P.go1 P.come P.must ht (f:=r.qty.f) (z:=r.qty.t) (by omega) (by omega) (by omega) hc4) (by decide +kernel) (fun _=>?_) (fun _ _=>?_)|refine W.callE (pf:=pn) rfl rfl rfl rfl (span_c (t:=t) P.span P.stands P.go1 P.come P.must ht (f:=r.price.f) (z:=r.price.t) (by omega) (by omega) (by omega) hc4) (by decide +kernel) (fun _=>?_) (fun _ _=>?_)|(with_reducible first|refine za ?_|refine zb ?_|refine zc ?_)|refine ym zr ?_|refine yn 0 zr ?_|refine yn 1 zr ?_|refine yn 2 zr ?_|(with_reducible first|refine zd ?_|refine ze ?_|refine zf ?_|refine zg ?_|refine zh ?_|refine zi ?_)|refine zw (by decide +kernel) ?_
    all_goals first
      | with_reducible refine W.id ?_
      | (refine .inr ⟨_,rfl,?_⟩;rw [hj2];simp [spansErr, *];done)
    all_goals
      rw [wN (by omega)]
      have h9:=ih3 ⟨j+1,by omega,by rw [hj2];simp [spansErr, *]⟩ (by show x.rows.l.length-(j+1)<x.rows.l.length-j;omega)
      refine W.weak _ _ ?_ ?_ h9
      · exact ⟨rfl,rfl,rfl,rfl,rfl,rfl,rfl,rfl,rfl,rfl⟩
      · first|exact .cons _ (.cons _ (List.Sublist.refl _))|exact .cons _ (List.Sublist.refl _)
  · skip
    have hl2:r.spans=[r.value]:=by simp [Row.spans,hk]
    have hf0:=hrow r.value (by rw [hl2];simp)
    rw [hl2] at hj2
    rw [offs_d hk] at h
    rw [if_neg (by simp)] at h
    obtain ⟨i5,hv,rfl⟩:=h
    injection hv with hv;subst hv
    repeat' first|refine W.condDT rfl (by decide) ?_|refine W.condDF rfl (by decide) ?_|with_reducible refine W.loop (a:=.seq (.region 14 _ _) _) ?_|refine W.ia tblOk rfl rfl rfl rfl rfl rfl rfl (by decide) (by decide) ?_|refine W.callE (pf:=pn) rfl rfl rfl rfl (span_c (t:=t) P.span P.stands P.go1 P.come P.must ht (f:=r.value.f) (z:=r.value.t) (by omega) (by omega) (by omega) hc4) (by decide +kernel) (fun _=>?_) (fun _ _=>?_)|(with_reducible first|refine za ?_|refine zb ?_|refine zc ?_)|refine ym zr ?_|refine yn 0 zr ?_|refine yn 1 zr ?_|refine yn 2 zr ?_|(with_reducible first|refine zd ?_|refine ze ?_|refine zf ?_|refine zg ?_|refine zh ?_|refine zi ?_)|refine zw (by decide +kernel) ?_
    all_goals first
      | with_reducible refine W.id ?_
      | (refine .inr ⟨_,rfl,?_⟩;rw [hj2];simp [spansErr, *];done)
    all_goals
      rw [wN (by omega)]
      have h9:=ih3 ⟨j+1,by omega,by rw [hj2];simp [spansErr, *]⟩ (by show x.rows.l.length-(j+1)<x.rows.l.length-j;omega)
      refine W.weak _ _ ?_ ?_ h9
      · exact ⟨rfl,rfl,rfl,rfl,rfl,rfl,rfl,rfl,rfl,rfl⟩
      · first|exact .cons _ (.cons _ (List.Sublist.refl _))|exact .cons _ (List.Sublist.refl _)
  · skip
    have hl2:r.spans=[]:=by simp [Row.spans,hk1,hk2,hk4]
    rw [hl2] at hj2
    rw [offs_e hk1 hk2 hk4] at h
    rw [if_pos rfl] at h
    obtain ⟨hv,rfl⟩:=h
    injection hv with hv;subst hv
    repeat' first|refine W.condDF rfl (by decide) ?_|with_reducible refine W.loop (a:=.seq (.region 14 _ _) _) ?_|(with_reducible first|refine za ?_|refine zb ?_|refine zc ?_)|refine ym zr ?_|(with_reducible first|refine ze ?_|refine zf ?_|refine zg ?_|refine zh ?_|refine zi ?_)
    all_goals first
      | with_reducible refine W.id ?_
      | (refine .inr ⟨_,rfl,?_⟩;rw [hj2];simp [spansErr, *];done)
    all_goals
      rw [wN (by omega)]
      have h9:=ih3 ⟨j+1,by omega,by rw [hj2];simp [spansErr, *]⟩ (by show x.rows.l.length-(j+1)<x.rows.l.length-j;omega)
      refine W.weak _ _ ?_ ?_ h9
      · exact ⟨rfl,rfl,rfl,rfl,rfl,rfl,rfl,rfl,rfl,rfl⟩
      · first|exact .cons _ (.cons _ (List.Sublist.refl _))|exact .cons _ (List.Sublist.refl _)
theorem check_c (P:Plains g) (hp:Plain g 59=true) (hcg:g.cg=107) (hwt:g.wt=271) (hG:Nat.beq 108 g.cg=false) (hms:(g.ms.all fun m=>!(Nat.beq g.cg m.f))=true) {t:Table} (ht:t.Ok V) (hn:∀V,Cl Tryz.prog g V 142 [.str t.name] [] fun o _=>o=.ret (.bool (NameS t.name))) :
    Cl Tryz.prog g V 59 [t.v] [] fun o _=>o=.ret (.int .i64 ((checkS t).getD 0)):=by
  refine Cl.enter hp Tryz.func59 rfl ?_
  repeat first|(with_reducible first|refine za ?_|refine zb ?_|refine zc ?_)|refine ym zr ?_|(refine yo zr ?_;intro _)
  have hC:∀b,Cl Tryz.prog g V 107 [.func 108 [] [.ptr (some (b,0))]] [(b,.cells [.str t.name,t.regs.v,.int .i64 t.slots,t.consts.v,t.code.v,t.states.v] 26 6 true)] (fun o _=>o=.ret (.int .i64 ((checkS t).getD 0))):=fun b=>by
    rw [←hcg]
    refine Cl.caught hG hms ((check1_b P ht hn b).mono fun o Δ h=>?_)
    rcases h with ⟨h1,h2⟩|⟨c,h1,h2⟩
    · exact .inl ⟨h1,by rw [h2];rfl⟩
    · exact .inr ⟨c,by rw [h1,hwt];rfl,by rw [h2];rfl⟩
  refine W.callR (Δ:=[_]) (R:=[]) rfl rfl rfl rfl (hC _) ?_ ?_
  · intro v Δ' h;cases h
  intro v Δ' h
  injection h with h;subst h
  repeat' first|with_reducible refine zc ?_|refine ym zr ?_|with_reducible refine zj ?_|refine W.done zr ?_
  rfl
end Go.Proofs.YtoegffiapnnkiaaGreat.Abs
