/- Parts of one proof. No condition but those that each theorem names. -/
import Derived.Test.YtoegffiapnnkiaaGreatPE06
import Derived.Tactics
namespace Go.Proofs.YtoegffiapnnkiaaGreat.Abs
open Go
set_option linter.unusedSimpArgs false
set_option linter.unusedVariables false
set_option maxRecDepth 100000
set_option maxHeartbeats 4000000
attribute [local irreducible] W Cl Bd
variable {g:Cg} {V:K→Option (List AV)}
def fm (f:K) (n:Int):K×Bk:=(f,.cells [.int .i64 n] 275 1 true)
def SpanAt (a z n:Int):Prop:=a=n∧a<z
instance (a z n:Int):Decidable (SpanAt a z n):=by unfold SpanAt;exact inferInstance
theorem fspan_c (hp:Plain g 143=true) (hm:Plain g 112=true) (f:K) (n a z:Int):Cl Tryz.prog g V 143 [.ptr (some (f,0)),.agg [.int .i64 a,.int .i64 z]] [fm f n] fun o Δ=>if SpanAt a z n then o=.ret (.tup [])∧fm f z∈Δ else o=.pan (pn 190):=by
  refine Cl.enter hp Tryz.func143 rfl ?_
  repeat' first|(refine W.callM rfl rfl rfl rfl (must_c hm _ _) (by decide +kernel) ?_ ?_<;>intro hm_<;>(try simp only [decide_eq_true_eq,decide_eq_false_iff_not,Bool.true_eq_false,Bool.false_eq_true] at hm_))|(with_reducible first|refine za ?_|refine zb ?_|refine zc ?_)|refine ym zr ?_|refine yn 0 zr ?_|refine yn 1 zr ?_|(refine yo zr ?_;intro _)|refine ys zr ?_|refine zw (by decide +kernel) ?_|refine zx zr zr zr ?_|(refine W.gs zr zr zr zr ?_ ?_<;>intro _)|refine W.doneN zr ?_
  · rw [if_pos ⟨‹_›,hm_⟩];exact ⟨rfl,by simp [fm]⟩
  · rw [if_neg fun h=>hm_ h.2]
  · rw [if_neg fun h=>‹¬_› h.1]
def offs (k o:Int):List Nat:=if k=1 then (if o=2 then [3,5] else [3,5,7]) else if k=2 then [5,7] else if k=4 then [9] else []
def rowK (r:K) (x:Row):K×Bk:=(r,.cells [.int .u8 x.k,.int .u8 x.o,.int .i64 x.i,.int .i64 x.side.f,.int .i64 x.side.t,.int .i64 x.qty.f,.int .i64 x.qty.t,.int .i64 x.price.f,.int .i64 x.price.t,.int .i64 x.value.f,.int .i64 x.value.t] 148 11 true)
theorem spans_c (hp:Plain g 86=true) (r:K) (x:Row):Cl Tryz.prog g V 86 [.ptr (some (r,0))] [rowK r x] fun o Δ =>
    if offs x.k x.o=[] then o=.ret (.slice none 0 (.ex 0))∧Δ=[rowK r x]
    else ∃i,o=.ret (.slice (some (i,0)) (offs x.k x.o).length (.ex (offs x.k x.o).length))∧Δ=[(i,.cells ((offs x.k x.o).map fun p=>.ptr (some (r,p))) 167 1 true),rowK r x]:=by
  refine Cl.enter hp Tryz.func86 rfl ?_
  unfold rowK
  repeat' first|(refine W.bsl tblOk rfl rfl rfl rfl (by decide) rfl rfl rfl ?_;intro _)|(with_reducible first|refine za ?_|refine zb ?_|refine zc ?_)|refine ym zr ?_|refine yn 0 zr ?_|(with_reducible first|refine zd ?_|refine ze ?_|refine zf ?_|refine zj ?_|refine zk ?_|refine zl ?_)|refine zw (by decide +kernel) ?_|(refine W.condP zr ?_ ?_<;>intro _)|refine W.done zr ?_
  · have ho:offs x.k x.o=[3,5]:=by simp [offs, *]
    rw [ho];exact ⟨_,rfl,rfl⟩
  · have ho:offs x.k x.o=[3,5,7]:=by simp [offs, *]
    rw [ho];exact ⟨_,rfl,rfl⟩
  · have ho:offs x.k x.o=[5,7]:=by simp [offs, *]
    rw [ho];exact ⟨_,rfl,rfl⟩
  · have ho:offs x.k x.o=[9]:=by simp [offs, *]
    rw [ho];exact ⟨_,rfl,rfl⟩
  · have ho:offs x.k x.o=[]:=by simp [offs, *]
    rw [ho];exact ⟨rfl,rfl⟩
theorem offs_a {k o:Int} (h:k=1) (h':o=2):offs k o=[3,5]:=by simp [offs,h,h']
theorem offs_b {k o:Int} (h:k=1) (h':¬o=2):offs k o=[3,5,7]:=by simp [offs,h,h']
theorem offs_c {k o:Int} (h:k=2):offs k o=[5,7]:=by simp [offs,h]
theorem offs_d {k o:Int} (h:k=4):offs k o=[9]:=by simp [offs,h]
theorem offs_e {k o:Int} (h:¬k=1) (h2:¬k=2) (h4:¬k=4):offs k o=[]:=by simp [offs,h,h2,h4]
theorem eqRow (a b c d e f g h i j k a' b' c' d' e' f' g' h' i' j' k':Int):eqStr Tryz.prog 148 (.agg [.int .u8 a,.int .u8 b,.int .i64 c,.int .i64 d,.int .i64 e,.int .i64 f,.int .i64 g,.int .i64 h,.int .i64 i,.int .i64 j,.int .i64 k]) (.agg [.int .u8 a',.int .u8 b',.int .i64 c',.int .i64 d',.int .i64 e',.int .i64 f',.int .i64 g',.int .i64 h',.int .i64 i',.int .i64 j',.int .i64 k']) =
    some (ieqb a a'&&(ieqb b b'&&(ieqb c c'&&((ieqb d d'&&(ieqb e e'&&true))&&((ieqb f f'&&(ieqb g g'&&true))&&((ieqb h h'&&(ieqb i i'&&true))&&((ieqb j j'&&(ieqb k k'&&true))&&true))))))):=by kernel_rfl
theorem eqSpan (a b a' b':Int):eqStr Tryz.prog 53 (.agg [.int .i64 a,.int .i64 b]) (.agg [.int .i64 a',.int .i64 b'])=some (ieqb a a'&&(ieqb b b'&&true)):=by kernel_rfl
theorem eqInstr (a b a' b':Int):eqStr Tryz.prog 86 (.agg [.int .u8 a,.int .i64 b]) (.agg [.int .u8 a',.int .i64 b'])=some (ieqb a a'&&(ieqb b b'&&true)):=by kernel_rfl
def chain:List Span→Int→Option Int
  | [],n=>some n
  | x::l,n=>if SpanAt x.f x.t n then chain l x.t else none
def Row.spans (x:Row):List Span:=if x.k=1 then (if x.o=2 then [x.side,x.qty] else [x.side,x.qty,x.price]) else if x.k=2 then [x.qty,x.price] else if x.k=4 then [x.value] else []
def Span.no (x:Span):Prop:=x.f=0∧x.t=0
def Row.rest (x:Row):Prop:=if x.k=1 then (if x.o=2 then x.price.no∧x.value.no else x.value.no) else if x.k=2 then x.side.no∧x.value.no else if x.k=4 then x.side.no∧x.qty.no∧x.price.no else x.side.no∧x.qty.no∧x.price.no∧x.value.no
instance (x:Span):Decidable x.no:=by unfold Span.no;exact inferInstance
instance (x:Row):Decidable x.rest:=by unfold Row.rest;exact inferInstance
def RowAt (t:Table) (x:Row) (n:Int):Option Int :=
  if (1≤x.k∧x.k≤6)∧Index t x=true∧(if x.k=1 then 1≤x.o∧x.o≤5 else x.o=0)∧x.rest then chain x.spans n else none
theorem rowAt_a {t:Table} {x:Row} {n:Int} (h1:x.k=1) (h2:x.o=2):RowAt t x n=if Index t x=true∧x.price.no∧x.value.no then chain [x.side,x.qty] n else none:=by
  simp [RowAt,Row.spans,Row.rest,h1,h2]
theorem rowAt_b {t:Table} {x:Row} {n:Int} (h1:x.k=1) (h2:¬x.o=2):RowAt t x n=if Index t x=true∧(1≤x.o∧x.o≤5)∧x.value.no then chain [x.side,x.qty,x.price] n else none:=by
  simp [RowAt,Row.spans,Row.rest,h1,h2]
theorem rowAt_c {t:Table} {x:Row} {n:Int} (h1:x.k=2):RowAt t x n=if Index t x=true∧x.o=0∧x.side.no∧x.value.no then chain [x.qty,x.price] n else none:=by
  simp [RowAt,Row.spans,Row.rest,h1]
theorem rowAt_d {t:Table} {x:Row} {n:Int} (h1:x.k=4):RowAt t x n=if Index t x=true∧x.o=0∧x.side.no∧x.qty.no∧x.price.no then chain [x.value] n else none:=by
  simp [RowAt,Row.spans,Row.rest,h1]
theorem rowAt_e {t:Table} {x:Row} {n:Int} (h1:¬x.k=1) (h2:¬x.k=2) (h4:¬x.k=4):RowAt t x n=if (1≤x.k∧x.k≤6)∧Index t x=true∧x.o=0∧x.side.no∧x.qty.no∧x.price.no∧x.value.no then some n else none:=by
  simp [RowAt,Row.spans,Row.rest,chain,h1,h2,h4]
theorem frow_c (hp:Plain g 144=true) (hm:Plain g 112=true) (hi:Plain g 178=true) (hs:Plain g 86=true) (hf:Plain g 143=true) (f:K) (n:Int) {t:Table} (ht:t.Ok V) (x:Row) :
    Cl Tryz.prog g V 144 [.ptr (some (f,0)),t.v,x.v] [fm f n] fun o Δ=>if (RowAt t x n).isSome then o=.ret (.tup [])∧fm f ((RowAt t x n).getD 0)∈Δ else o=.pan (pn 190):=by
  refine Cl.enter hp Tryz.func144 rfl ?_
  have hcase:(x.k=1∧x.o=2)∨(x.k=1∧¬x.o=2)∨x.k=2∨x.k=4∨(¬x.k=1∧¬x.k=2∧¬x.k=4):=by omega
  repeat' first|(refine W.callM rfl rfl rfl rfl (must_c hm _ _) (by decide +kernel) ?_ ?_<;>intro hm_<;>(try simp only [decide_eq_true_eq,decide_eq_false_iff_not,Bool.true_eq_false,Bool.false_eq_true] at hm_))|refine W.callP rfl rfl rfl rfl (index_c hi ht) ?_|(with_reducible first|refine za ?_|refine zb ?_|refine zc ?_)|refine ym zr ?_|refine yn 0 zr ?_|refine yn 1 zr ?_|(refine yo zr ?_;intro _)|(refine yp zr ?_;intro _)|refine yq zr ?_|with_reducible refine zd ?_|refine zx zr zr zr ?_|(refine W.condP zr ?_ ?_<;>intro _)|(refine W.gs zr zr zr zr ?_ ?_<;>intro _)
  all_goals first
    | (refine of_none ?_ (by first|exact rfl|exact True.intro);unfold RowAt;rw [if_neg];intro h;simp_all;done)
    | refine W.callR (Δ:=[rowK _ x]) rfl rfl rfl rfl (spans_c hs _ x) ?_ ?_
    | skip
  all_goals first
    | (intro v Δ' h;exfalso;split at h;· cases h.1
       · obtain ⟨i,h,-⟩:=h;cases h;done)
    | skip
  all_goals first
    | (refine of_none ?_ (by first|exact rfl|exact True.intro);unfold RowAt;rw [if_neg];rintro ⟨⟨h1,h2⟩,h3,h4,h5⟩;simp_all;omega)
    | skip
  all_goals
    intro v Δ' h
    rcases hcase with ⟨hk,ho⟩|⟨hk,ho⟩|hk|hk|⟨hk1,hk2,hk4⟩
  all_goals first
    | (exfalso;omega)
    | (rw [offs_a hk ho] at h;rw [if_neg (by simp)] at h;obtain ⟨i,hv,rfl⟩:=h;injection hv with hv;subst hv)
    | (rw [offs_b hk ho] at h;rw [if_neg (by simp)] at h;obtain ⟨i,hv,rfl⟩:=h;injection hv with hv;subst hv)
    | (rw [offs_c hk] at h;rw [if_neg (by simp)] at h;obtain ⟨i,hv,rfl⟩:=h;injection hv with hv;subst hv)
    | (rw [offs_d hk] at h;rw [if_neg (by simp)] at h;obtain ⟨i,hv,rfl⟩:=h;injection hv with hv;subst hv)
    | (rw [offs_e hk1 hk2 hk4] at h;rw [if_pos rfl] at h;obtain ⟨hv,rfl⟩:=h;injection hv with hv;subst hv)
  repeat' first|refine W.condDT rfl (by decide) ?_|refine W.condDF rfl (by decide) ?_|(refine W.callM rfl rfl rfl rfl (must_c hm _ _) (by decide +kernel) ?_ ?_<;>intro hm_<;>(try simp only [decide_eq_true_eq,decide_eq_false_iff_not,Bool.true_eq_false,Bool.false_eq_true] at hm_))|(refine W.fr1 ?_;refine W.callF rfl rfl rfl rfl (fspan_c hf hm _ _ _ _) (by decide +kernel) ?_ ?_<;>intro _)|(refine W.fr4 ?_;refine W.callF rfl rfl rfl rfl (fspan_c hf hm _ _ _ _) (by decide +kernel) ?_ ?_<;>intro _)|with_reducible refine W.loop ?_|refine W.ia tblOk rfl rfl rfl rfl rfl rfl rfl (by decide) (by decide) ?_|refine W.eqS tblOk rfl rfl rfl rfl rfl (eqRow ..) ?_|(with_reducible first|refine za ?_|refine zb ?_|refine zc ?_)|refine ym zr ?_|refine yn 0 zr ?_|refine yn 1 zr ?_|refine yn 2 zr ?_|refine yn 3 zr ?_|refine ys zr ?_|refine yu zr ?_|(with_reducible first|refine zd ?_|refine ze ?_|refine zf ?_|refine zg ?_|refine zh ?_|refine zi ?_)|refine W.doneN zr ?_
  all_goals (try simp only [ieqb_eq,Bool.and_true,Bool.and_eq_true,Bool.and_eq_false_iff,beq_self_eq_true,beq_iff_eq,beq_eq_false_iff_ne,true_and,ne_eq,Bool.true_eq_false,false_or] at hm_)
  all_goals first|rw [rowAt_a hk ho]|rw [rowAt_b hk ho]|rw [rowAt_c hk]|rw [rowAt_d hk]|rw [rowAt_e hk1 hk2 hk4]|skip
  all_goals first
    | (refine of_someM (fm f) (x.qty.t) ?_ rfl ?_
       · simp_all [chain,Span.no];done
       · simp [fm];done)
    | (refine of_someM (fm f) (x.price.t) ?_ rfl ?_
       · simp_all [chain,Span.no];done
       · simp [fm];done)
    | (refine of_someM (fm f) (x.value.t) ?_ rfl ?_
       · simp_all [chain,Span.no];done
       · simp [fm];done)
    | (refine of_someM (fm f) (n) ?_ rfl ?_
       · simp_all [chain,Span.no];done
       · simp [fm];done)
    | (refine of_none ?_ (by first|exact rfl|exact True.intro);simp_all [chain,Span.no];done)
    | (refine of_none ?_ (by first|exact rfl|exact True.intro);rw [if_neg];simp only [Span.no];omega)
    | trace_state
end Go.Proofs.YtoegffiapnnkiaaGreat.Abs
