/- A table's spans: which are its own, and that those of a table that may be run. No condition but those that each theorem names. -/
import Derived.Test.YtoegffiapnnkiaaGreatMC
import Derived.Test.YtoegffiapnnkiaaGreatTV
namespace Go.Proofs.YtoegffiapnnkiaaGreat.Abs
open Go
set_option linter.unusedVariables false
set_option linter.unusedSimpArgs false
set_option maxRecDepth 100000
def spanB (a b:Span):Bool:=ieqb a.f b.f&&(ieqb a.t b.t&&true)
theorem spanB_eq {a b:Span}:spanB a b=true↔a.f=b.f∧a.t=b.t:=by
  unfold spanB
  rw [ieqb_eq,ieqb_eq];simp
def rowHas (x:Span) (r:Row):Bool:=decide (0<x.t)&&(spanB r.side x||spanB r.qty x||spanB r.price x||spanB r.value x)
def guardHas (x:Span) (g:Guard):Bool:=spanB g.when x||g.rows.l.any (rowHas x)
def tabHas (x:Span) (t:Table):Bool:=t.states.l.any fun s=>s.l.any (guardHas x)
theorem statesErr_none {t:Table}:∀ {l:List (Sl Guard)},statesErr t l=none→∀s∈l,∀g∈s.l,guardErr t g=none
  | [],_,s,hs=>by simp at hs
  | x::l,h,s,hs=>by
    rw [statesErr] at h
    have h1:guardsErr t x.l=none:=by cases e:guardsErr t x.l with|none=>rfl|some c=>rw [e] at h;cases h
    rw [h1] at h
    rcases List.mem_cons.1 hs with rfl|hs
    · have key:∀(gs:List Guard),guardsErr t gs=none→∀g∈gs,guardErr t g=none:=fun gs=>by
        induction gs with
        | nil=>intro _ g hg;simp at hg
        | cons y gs ih =>
          intro h g hg
          rw [guardsErr] at h
          have h1:guardErr t y=none:=by cases e:guardErr t y with|none=>rfl|some c=>rw [e] at h;cases h
          rw [h1] at h
          rcases List.mem_cons.1 hg with rfl|hg
          · exact h1
          · exact ih h g hg
      exact key _ h1
    · exact statesErr_none h s hs
theorem rowsErr_none {t:Table}:∀ {l:List Row},rowsErr t l=none→∀r∈l,∀x∈r.spans,spanS t x.f x.t=none
  | [],_,r,hr=>by simp at hr
  | y::l,h,r,hr=>by
    rw [rowsErr] at h
    have h1:spansErr t y.spans=none:=by cases e:spansErr t y.spans with|none=>rfl|some c=>rw [e] at h;cases h
    rw [h1] at h
    rcases List.mem_cons.1 hr with rfl|hr
    · have key:∀(xs:List Span),spansErr t xs=none→∀x∈xs,spanS t x.f x.t=none:=fun xs=>by
        induction xs with
        | nil=>intro _ x hx;simp at hx
        | cons z xs ih =>
          intro h x hx
          rw [spansErr] at h
          have h1:spanS t z.f z.t=none:=by cases e:spanS t z.f z.t with|none=>rfl|some c=>rw [e] at h;cases h
          rw [h1] at h
          rcases List.mem_cons.1 hx with rfl|hx
          · exact h1
          · exact ih h x hx
      exact key _ h1
    · exact rowsErr_none h r hr
theorem rowsAt_rest {t:Table}:∀(l:List Row) (p n m:Int),rowsAt t p l n=some m→∀r∈l,(1≤r.k∧r.k≤6)∧Index t r=true∧(if r.k=1 then 1≤r.o∧r.o≤5 else r.o=0)∧r.rest
  | [],p,n,m,h=>fun r hr=>by simp at hr
  | y::l,p,n,m,h=>fun r hr=>by
    simp only [rowsAt] at h
    split at h
    · obtain ⟨k,h1,h2⟩:=Option.bind_eq_some_iff.1 h
      rcases List.mem_cons.1 hr with rfl|hr
      · simp only [RowAt,Option.ite_none_right_eq_some] at h1
        exact h1.1
      · exact rowsAt_rest l _ _ _ h2 r hr
    · cases h
theorem statesAt_rest {t:Table}:∀(l:List (Sl Guard)) (n m:Int),statesAt t l n=some m→∀s∈l,∀g∈s.l,(1≤g.rows.l.length∧g.rows.l.length≤8)∧∀r∈g.rows.l,(1≤r.k∧r.k≤6)∧Index t r=true∧(if r.k=1 then 1≤r.o∧r.o≤5 else r.o=0)∧r.rest
  | [],n,m,h=>fun s hs=>by simp at hs
  | x::l,n,m,h=>fun s hs=>by
    simp only [statesAt] at h
    split at h
    · obtain ⟨k,h1,h2⟩:=Option.bind_eq_some_iff.1 h
      rcases List.mem_cons.1 hs with rfl|hs
      · have key:∀(gs:List Guard) (n m:Int),guardsAt t gs n=some m→∀g∈gs,(1≤g.rows.l.length∧g.rows.l.length≤8)∧∀r∈g.rows.l,(1≤r.k∧r.k≤6)∧Index t r=true∧(if r.k=1 then 1≤r.o∧r.o≤5 else r.o=0)∧r.rest:=fun gs=>by
          induction gs with
          | nil=>intro _ _ _ g hg;simp at hg
          | cons y gs ih =>
            intro n m h g hg
            obtain ⟨k,h1,h2⟩:=Option.bind_eq_some_iff.1 h
            rcases List.mem_cons.1 hg with rfl|hg
            · unfold guardAt at h1
              split at h1
              · rename_i hc
                exact ⟨hc.2,rowsAt_rest _ _ _ _ h1⟩
              · cases h1
            · exact ih _ _ h2 g hg
        exact key _ _ _ h1
      · exact statesAt_rest l _ _ h2 s hs
    · cases h
theorem check_formed {t:Table} (h:checkS t=none):Formed t∧statesErr t t.states.l=none:=by
  unfold checkS at h
  split at h
  · exact ⟨‹_›,h⟩
  · cases h
def SpanRuns (t:Table) (x:Span):Prop:=0≤x.f∧x.f<x.t∧x.t≤t.code.l.length∧spanS t x.f x.t=none
theorem row_spans {r:Row} (hr:r.rest) (x:Span) (h0:0<x.t) (h:x=r.side∨x=r.qty∨x=r.price∨x=r.value):x∈r.spans:=by
  have no:∀y:Span,y.no→x=y→False:=fun y hy e=>by rw [e,hy.2] at h0;omega
  unfold Row.rest at hr
  unfold Row.spans
  split at hr
  · rename_i h1;rw [if_pos h1]
    split at hr
    · rename_i h2;rw [if_pos h2]
      rcases h with h|h|h|h
      · simp [h]
      · simp [h]
      · exact (no _ hr.1 h).elim
      · exact (no _ hr.2 h).elim
    · rename_i h2;rw [if_neg h2]
      rcases h with h|h|h|h
      · simp [h]
      · simp [h]
      · simp [h]
      · exact (no _ hr h).elim
  · rename_i h1;rw [if_neg h1]
    split at hr
    · rename_i h2;rw [if_pos h2]
      rcases h with h|h|h|h
      · exact (no _ hr.1 h).elim
      · simp [h]
      · simp [h]
      · exact (no _ hr.2 h).elim
    · rename_i h2;rw [if_neg h2]
      split at hr
      · rename_i h3;rw [if_pos h3]
        rcases h with h|h|h|h
        · exact (no _ hr.1 h).elim
        · exact (no _ hr.2.1 h).elim
        · exact (no _ hr.2.2 h).elim
        · simp [h]
      · rcases h with h|h|h|h
        · exact (no _ hr.1 h).elim
        · exact (no _ hr.2.1 h).elim
        · exact (no _ hr.2.2.1 h).elim
        · exact (no _ hr.2.2.2 h).elim
theorem guard_runs {t:Table} (h:checkS t=none) {s:Sl Guard} (hs:s∈t.states.l) {g:Guard} (hg:g∈s.l):SpanRuns t g.when∧∀r∈g.rows.l,∀x∈r.spans,SpanRuns t x:=by
  obtain ⟨hf,he⟩:=check_formed h
  have hin:=hf.in s hs g hg
  have hge:=statesErr_none he s hs g hg
  unfold guardErr at hge
  have h1:spanS t g.when.f g.when.t=none:=by cases e:spanS t g.when.f g.when.t with|none=>rfl|some c=>rw [e] at hge;cases hge
  rw [h1] at hge
  have h2:maskErr t g=none:=by cases e:maskErr t g with|none=>rfl|some c=>rw [e] at hge;cases hge
  rw [h2] at hge
  exact ⟨⟨hin.1.1,hin.1.2.1,hin.1.2.2,h1⟩,fun r hr x hx=>⟨(hin.2 r hr x hx).1,(hin.2 r hr x hx).2.1,(hin.2 r hr x hx).2.2,rowsErr_none hge r hr x hx⟩⟩
theorem has_runs {t:Table} (h:checkS t=none) {x:Span} (hx:tabHas x t=true):SpanRuns t x:=by
  unfold tabHas at hx
  obtain ⟨s,hs,hx⟩:=List.any_eq_true.1 hx
  obtain ⟨g,hg,hx⟩:=List.any_eq_true.1 hx
  have hr:=guard_runs h hs hg
  have eq:∀ {a:Span},spanB a x=true→x=a:=fun {a} e=>by
    have:=spanB_eq.1 e
    cases a;cases x;simp only at this;rw [this.1,this.2]
  unfold guardHas at hx
  rw [Bool.or_eq_true] at hx
  rcases hx with hx|hx
  · rw [eq hx];exact hr.1
  · obtain ⟨r,hr1,hx⟩:=List.any_eq_true.1 hx
    unfold rowHas at hx
    simp only [Bool.and_eq_true,Bool.or_eq_true,decide_eq_true_eq] at hx
    have hrest:=(statesAt_rest _ _ _ (check_formed h).1.2 s hs g hg).2 r hr1
    refine hr.2 r hr1 x (row_spans hrest.2.2.2 x hx.1 ?_)
    rcases hx.2 with ((e|e)|e)|e
    · exact .inl (eq e)
    · exact .inr (.inl (eq e))
    · exact .inr (.inr (.inl (eq e)))
    · exact .inr (.inr (.inr (eq e)))
theorem check_code {t:Table} (h:checkS t=none):t.code.l.length≤4096∧t.regs.l.length≤12:=by
  obtain ⟨hf,-⟩:=check_formed h
  exact ⟨hf.1.2.2.2.2.2.1,hf.1.2.1⟩
theorem runs_to {t:Table} (h:checkS t=none) {x:Span} (hx:SpanRuns t x) (regs:List Int) (w:Snap):∃H q,SpanOk t x.f x.t H∧runF t regs w x.t 5000 x.f [] 0=some q∧0≤q.2.1∧q.2.1≤x.t-x.f:=by
  have hc:=(check_code h).1
  obtain ⟨H,hH⟩:=span_ok hx.1 hx.2.1 (by have:=hx.2.2.1;omega) hx.2.2.2
  obtain ⟨v,n,e,h1,h2,h3⟩:=run_ends (regs:=regs) (w:=w) hH 5000 x.f [] 0 ⟨Int.le_refl _,by have:=hx.2.1;omega,by rw [hH.begin_];rfl,by simp⟩ (by have:=hx.2.2.1;have:=hx.1;omega)
  exact ⟨H,(v,n,e),hH,h1,by simpa using h2,by simpa using h3⟩
end Go.Proofs.YtoegffiapnnkiaaGreat.Abs
