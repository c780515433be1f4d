/- Parts of one proof. No condition but those that each theorem names. -/
import Derived.Test.YtoegffiapnnkiaaGreatPT19
import Derived.Test.YtoegffiapnnkiaaGreatPT24
namespace Go.Proofs.YtoegffiapnnkiaaGreat.Abs
open Go
set_option linter.unusedVariables false
set_option linter.unusedSimpArgs false
set_option maxRecDepth 100000
structure Act where
  k:Int
  o:Int
  side:Int
  price:Int
  qty:Int
  slot:Int
def Act.cs (a:Act):List AV:=[.int .u8 a.k,.int .u8 a.o,.int .u8 a.side,.int .i64 a.price,.int .i64 a.qty,.int .i64 a.slot]
structure Bod where
  s:Int
  regs:List Int
  acts:List Act
  st:Int
  steps:Int
  err:Int
noncomputable def partF (t:Table) (w:Snap) (b:Bod) (x:Span):Int×Bod :=
  if b.err=0 then (if x.t=0 then (0,b) else (((runF t b.regs w x.t 5000 x.f [] 0).getD (0,0,0)).1,{ b with steps:=b.steps+((runF t b.regs w x.t 5000 x.f [] 0).getD (0,0,0)).2.1,err:=((runF t b.regs w x.t 5000 x.f [] 0).getD (0,0,0)).2.2 })) else (0,b)
noncomputable def sideF (t:Table) (w:Snap) (b:Bod) (r:Row):Int×Bod :=
  if r.k=1 then ((partF t w b r.side).1,if (partF t w b r.side).2.err=0∧(partF t w b r.side).1≠1∧(partF t w b r.side).1≠2 then { (partF t w b r.side).2 with err:=201 } else (partF t w b r.side).2) else (0,b)
noncomputable def layF (t:Table) (w:Snap) (b:Bod) (r:Row) (v:Int):Bod :=
  { (partF t w (partF t w b r.qty).2 r.price).2 with acts:=b.acts++[⟨r.k,if r.k=1 then r.o else 0,if r.k=1 then IntKind.u8.wrap v else 0,(partF t w (partF t w b r.qty).2 r.price).1,(partF t w b r.qty).1,r.i⟩] }
noncomputable def rowF (t:Table) (w:Snap) (b:Bod) (r:Row):Bod :=
  if r.k=1∨r.k=2∨r.k=3 then layF t w (sideF t w b r).2 r (sideF t w b r).1
  else if r.k=4 then (if (partF t w b r.value).2.err=0 then { (partF t w b r.value).2 with regs:=(partF t w b r.value).2.regs.set r.i.toNat (partF t w b r.value).1 } else (partF t w b r.value).2)
  else if r.k=5 then { b with s:=r.i }
  else { b with st:=2 }
noncomputable def doF (t:Table) (w:Snap):List Row→Bod→Bod
  | [],b=>b
  | r::l,b=>if (rowF t w b r).err=0 then doF t w l (rowF t w b r) else rowF t w b r
theorem partF_same (t:Table) (w:Snap) (b:Bod) (x:Span):(partF t w b x).2.regs=b.regs∧(partF t w b x).2.acts=b.acts∧(partF t w b x).2.s=b.s∧(partF t w b x).2.st=b.st:=by
  unfold partF
  split
  · split<;>exact ⟨rfl,rfl,rfl,rfl⟩
  · exact ⟨rfl,rfl,rfl,rfl⟩
theorem runF_in {t:Table} {regs:List Int} {w:Snap} (hc:∀n∈t.consts.l,In64 n) (hr:∀n∈regs,In64 n) (hw:w.Ok) (z:Int):∀(m:Nat) (a:Int) (S:List Int) (n:Int) (q:Int×Int×Int),(∀v∈S,In64 v)→runF t regs w z m a S n=some q→In64 q.1
  | 0,_,_,_,_,_,h=>by cases h
  | m+1,a,S,n,q,hS,h=>by
    unfold runF at h
    split at h
    · split at h
      · injection h with h;subst h;exact hS _ (by simp)
      · cases h
    · split at h
      · exact runF_in hc hr hw z m _ _ _ _ (step_in hc hr hw hS ‹_›) h
      · injection h with h;subst h;exact ⟨by show -9223372036854775808≤(0:Int);omega,by show (0:Int)≤9223372036854775807;omega⟩
      · cases h
def lenT (x:Span):Int:=if x.t=0 then 0 else x.t-x.f
theorem part_steps {t:Table} (hck:checkS t=none) (w:Snap) (b:Bod) {x:Span} (hx:x.t=0∨SpanRuns t x):b.steps≤(partF t w b x).2.steps∧(partF t w b x).2.steps≤b.steps+lenT x:=by
  unfold partF lenT
  by_cases hz:x.t=0
  · rw [if_pos hz,if_pos hz]
    split<;>exact ⟨Int.le_refl _,by show b.steps≤b.steps+0;omega⟩
  · have hx:=hx.resolve_left hz
    rw [if_neg hz,if_neg hz]
    obtain ⟨H,q,hs,hq,hq1,hq2⟩:=runs_to hck hx b.regs w
    rw [hq]
    have:=hx.2.1
    split
    · exact ⟨by show b.steps≤b.steps+q.2.1;omega,by show b.steps+q.2.1≤_;omega⟩
    · exact ⟨Int.le_refl _,by show b.steps≤_;omega⟩
theorem in64_0:In64 0:=⟨by show -9223372036854775808≤(0:Int);omega,by show (0:Int)≤9223372036854775807;omega⟩
theorem part_in {t:Table} (hck:checkS t=none) {w:Snap} (hc:∀n∈t.consts.l,In64 n) (hw:w.Ok) (b:Bod) (hr:∀n∈b.regs,In64 n) {x:Span} (hx:x.t=0∨SpanRuns t x):In64 (partF t w b x).1:=by
  unfold partF
  split
  · split
    · exact in64_0
    · have hx:=hx.resolve_left ‹_›
      obtain ⟨H,q,hs,hq,hq1,hq2⟩:=runs_to hck hx b.regs w
      rw [hq]
      exact runF_in hc hr hw _ _ _ _ _ _ (by simp) hq
  · exact in64_0
structure RowOk (t:Table) (r:Row):Prop where
  rest:r.rest
  runs:∀x∈r.spans,SpanRuns t x
  index:Index t r=true
  k:1≤r.k∧r.k≤6
theorem RowOk.span {t:Table} {r:Row} (h:RowOk t r) {y:Span} (hy:y=r.side∨y=r.qty∨y=r.price∨y=r.value):y.t=0∨SpanRuns t y:=by
  rcases row_no h.rest hy with h0|h0
  · exact .inl h0.2
  · exact .inr (h.runs y h0)
theorem no_T {x:Span} (h:x.no):lenT x=0:=if_pos h.2
theorem runs_T {t:Table} {x:Span} (h:SpanRuns t x):lenT x=lenS x:=if_neg (by have:=h.1;have:=h.2.1;omega)
theorem RowOk.body {t:Table} {r:Row} (h:RowOk t r):bodyS r=lenT r.side+lenT r.qty+lenT r.price+lenT r.value:=by
  have hr:=h.rest
  have hu:=h.runs
  unfold bodyS
  unfold Row.rest at hr
  unfold Row.spans at hu ⊢
  split at hr
  · rename_i h1;rw [if_pos h1] at hu ⊢
    split at hr
    · rename_i h2;rw [if_pos h2] at hu ⊢
      rw [runs_T (hu r.side (by simp)),runs_T (hu r.qty (by simp)),no_T hr.1,no_T hr.2]
      simp
    · rename_i h2;rw [if_neg h2] at hu ⊢
      rw [runs_T (hu r.side (by simp)),runs_T (hu r.qty (by simp)),runs_T (hu r.price (by simp)),no_T hr]
      simp only [List.map_cons,List.map_nil,List.sum_cons,List.sum_nil];omega
  · rename_i h1;rw [if_neg h1] at hu ⊢
    split at hr
    · rename_i h2;rw [if_pos h2] at hu ⊢
      rw [runs_T (hu r.qty (by simp)),runs_T (hu r.price (by simp)),no_T hr.1,no_T hr.2]
      simp
    · rename_i h2;rw [if_neg h2] at hu ⊢
      split at hr
      · rename_i h3;rw [if_pos h3] at hu ⊢
        rw [runs_T (hu r.value (by simp)),no_T hr.1,no_T hr.2.1,no_T hr.2.2]
        simp
      · rename_i h3;rw [if_neg h3] at hu ⊢
        rw [no_T hr.1,no_T hr.2.1,no_T hr.2.2.1,no_T hr.2.2.2]
        rfl
theorem lenT_0 {t:Table} {x:Span} (h:x.t=0∨SpanRuns t x):0≤lenT x:=by
  unfold lenT
  split
  · exact Int.le_refl _
  · have:=(h.resolve_left ‹_›).2.1;omega
theorem side_steps {t:Table} (hck:checkS t=none) (w:Snap) (b:Bod) {r:Row} (hr:RowOk t r):b.steps≤(sideF t w b r).2.steps∧(sideF t w b r).2.steps≤b.steps+lenT r.side:=by
  have h1:=part_steps hck w b (hr.span (.inl rfl))
  unfold sideF
  split
  · simp only
    split<;>exact h1
  · exact ⟨Int.le_refl _,by have:=lenT_0 (hr.span (.inl rfl));show b.steps≤_;omega⟩
theorem row_steps {t:Table} (hck:checkS t=none) (w:Snap) (b:Bod) {r:Row} (hr:RowOk t r):b.steps≤(rowF t w b r).steps∧(rowF t w b r).steps≤b.steps+bodyS r:=by
  rw [hr.body]
  have l1:=lenT_0 (hr.span (.inl rfl))
  have l2:=lenT_0 (hr.span (.inr (.inl rfl)))
  have l3:=lenT_0 (hr.span (.inr (.inr (.inl rfl))))
  have l4:=lenT_0 (hr.span (.inr (.inr (.inr rfl))))
  unfold rowF
  split
  · have h1:=side_steps hck w b hr
    have h2:=part_steps hck w (sideF t w b r).2 (hr.span (.inr (.inl rfl)))
    have h3:=part_steps hck w (partF t w (sideF t w b r).2 r.qty).2 (hr.span (.inr (.inr (.inl rfl))))
    unfold layF
    simp only
    omega
  · split
    · have h4:=part_steps hck w b (hr.span (.inr (.inr (.inr rfl))))
      split<;>(try simp only)<;>omega
    · split<;>(try simp only)<;>omega
structure BodOk (t:Table) (b:Bod):Prop where
  len:b.regs.length=t.regs.l.length
  in_:∀n∈b.regs,In64 n
  s:0≤b.s∧b.s<t.states.l.length
theorem part_ok {t:Table} {w:Snap} {b:Bod} (h:BodOk t b) (x:Span):BodOk t (partF t w b x).2:=by
  obtain ⟨h1,h2,h3,h4⟩:=partF_same t w b x
  exact ⟨by rw [h1];exact h.len,by rw [h1];exact h.in_,by rw [h3];exact h.s⟩
theorem side_ok {t:Table} {w:Snap} {b:Bod} (h:BodOk t b) (r:Row):BodOk t (sideF t w b r).2:=by
  unfold sideF
  split
  · simp only
    split
    · exact ⟨(part_ok h r.side).len,(part_ok h r.side).in_,(part_ok h r.side).s⟩
    · exact part_ok h r.side
  · exact h
theorem side_acts (t:Table) (w:Snap) (b:Bod) (r:Row):(sideF t w b r).2.acts=b.acts:=by
  unfold sideF
  split
  · simp only
    split<;>exact (partF_same t w b r.side).2.1
  · rfl
theorem row_ok {t:Table} (hck:checkS t=none) {w:Snap} (hc:∀n∈t.consts.l,In64 n) (hw:w.Ok) {b:Bod} (h:BodOk t b) {r:Row} (hr:RowOk t r):BodOk t (rowF t w b r):=by
  unfold rowF
  split
  · unfold layF
    have:=part_ok (w:=w) (part_ok (w:=w) (side_ok (w:=w) h r) r.qty) r.price
    exact ⟨this.len,this.in_,this.s⟩
  · split
    · have h1:=part_ok (w:=w) h r.value
      split
      · refine ⟨by show (List.set _ _ _).length=_;rw [List.length_set];exact h1.len,fun n hn=>?_,h1.s⟩
        rcases List.mem_or_eq_of_mem_set hn with hn|rfl
        · exact h1.in_ n hn
        · exact part_in hck hc hw b h.in_ (hr.span (.inr (.inr (.inr rfl))))
      · exact h1
    · split
      · rename_i h1 h2 h3
        refine ⟨h.len,h.in_,?_⟩
        have hi:=hr.index
        unfold Index at hi
        rw [if_neg (by omega),if_neg (by omega),if_neg (by omega),if_pos h3] at hi
        exact of_decide_eq_true hi
      · exact ⟨h.len,h.in_,h.s⟩
theorem row_acts {t:Table} {w:Snap} {b:Bod} {r:Row} (hr:RowOk t r):(rowF t w b r).acts.length=b.acts.length+(if r.k≤3 then 1 else 0):=by
  have hk:=hr.k
  unfold rowF
  split
  · rename_i h
    rw [if_pos (show r.k≤3 by omega)]
    unfold layF
    simp only [List.length_append,List.length_cons,List.length_nil,side_acts]
  · rw [if_neg (show ¬r.k≤3 by omega)]
    split
    · split
      · show (partF t w b r.value).2.acts.length=_;rw [(partF_same t w b r.value).2.1];rfl
      · rw [(partF_same t w b r.value).2.1];rfl
    · split<;>rfl
theorem rowsB_add:∀(l:List Row) (p:Int×Int),rowsB l p=(p.1+(rowsB l (0,0)).1,p.2+(rowsB l (0,0)).2)
  | [],p=>by show p=(p.1+0,p.2+0);rw [Int.add_zero,Int.add_zero]
  | r::l,p=>by
    show rowsB l _=(_+(rowsB l _).1,_+(rowsB l _).2)
    rw [rowsB_add l (p.1+bodyS r,if r.k≤3 then p.2+1 else p.2),rowsB_add l (((0,0):Int×Int).1+bodyS r,if r.k≤3 then ((0,0):Int×Int).2+1 else ((0,0):Int×Int).2)]
    refine Prod.ext ?_ ?_
    · simp only;omega
    · simp only;split<;>omega
theorem rowsB_0 {t:Table}:∀ {l:List Row},(∀r∈l,RowOk t r)→0≤(rowsB l (0,0)).1∧0≤(rowsB l (0,0)).2
  | [],_=>⟨Int.le_refl _,Int.le_refl _⟩
  | r::l,h=>by
    have h1:=rowsB_0 (l:=l) fun x hx=>h x (by simp [hx])
    have hr:=h r (by simp)
    have hb:0≤bodyS r:=by
      rw [hr.body]
      have l1:=lenT_0 (hr.span (.inl rfl))
      have l2:=lenT_0 (hr.span (.inr (.inl rfl)))
      have l3:=lenT_0 (hr.span (.inr (.inr (.inl rfl))))
      have l4:=lenT_0 (hr.span (.inr (.inr (.inr rfl))))
      omega
    show 0≤(rowsB l _).1∧0≤(rowsB l _).2
    rw [rowsB_add]
    refine ⟨?_,?_⟩
    · simp only;omega
    · simp only;split<;>omega
theorem doF_ok {t:Table} (hck:checkS t=none) {w:Snap} (hc:∀n∈t.consts.l,In64 n) (hw:w.Ok):∀(l:List Row) (b:Bod),(∀r∈l,RowOk t r)→BodOk t b →
    BodOk t (doF t w l b)∧b.steps≤(doF t w l b).steps∧(doF t w l b).steps≤b.steps+(rowsB l (0,0)).1∧((doF t w l b).acts.length:Int)≤b.acts.length+(rowsB l (0,0)).2
  | [],b,_,hb=>⟨hb,Int.le_refl _,by show b.steps≤b.steps+0;omega,by show (b.acts.length:Int)≤b.acts.length+0;omega⟩
  | r::l,b,h,hb=>by
    have hr:=h r (by simp)
    have hl:∀x∈l,RowOk t x:=fun x hx=>h x (by simp [hx])
    have h1:=row_ok hck hc hw hb hr
    have h2:=row_steps hck w b hr
    have h3:=row_acts (w:=w) (b:=b) hr
    have h0:=rowsB_0 hl
    have e:rowsB (r::l) (0,0)=rowsB l (0+bodyS r,if r.k≤3 then 0+1 else 0):=rfl
    rw [e,rowsB_add]
    simp only
    unfold doF
    split
    · obtain ⟨q1,q2,q3,q4⟩:=doF_ok hck hc hw l _ hl h1
      refine ⟨q1,by omega,by omega,?_⟩
      rw [h3] at q4
      split at q4<;>rename_i hk<;>simp only [hk,if_true,if_false]<;>omega
    · refine ⟨h1,h2.1,by omega,?_⟩
      rw [h3]
      split<;>omega
end Go.Proofs.YtoegffiapnnkiaaGreat.Abs
