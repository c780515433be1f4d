/- Parts of one proof. No condition but those that each theorem names. -/
import Derived.Test.YtoegffiapnnkiaaGreatPT05
import Derived.Test.YtoegffiapnnkiaaGreatPT19
import Derived.Test.YtoegffiapnnkiaaGreatPT22
namespace Go.Proofs.YtoegffiapnnkiaaGreat.Abs
open Go
set_option linter.unusedVariables false
set_option linter.unusedSimpArgs false
set_option maxRecDepth 100000
set_option maxHeartbeats 4000000
theorem rowsErr_ne {t:Table}:∀(l:List Row),(rowsErr t l).getD 0=0→rowsErr t l=none
  | [],_=>rfl
  | r::l,h=>by
    have h1:=spansErr_ne (t:=t) r.spans
    simp only [rowsErr] at h ⊢
    cases hs:spansErr t r.spans with
    | none=>rw [hs,Option.none_or] at h;rw [Option.none_or];exact rowsErr_ne l h
    | some c=>rw [hs] at h h1;exact absurd (h1 h) (by simp)
theorem guardErr_ne {t:Table} {x:Guard} (h:(guardErr t x).getD 0=0):guardErr t x=none:=by
  have h1:=spanS_ne (t:=t) (f:=x.when.f) (z:=x.when.t)
  have h2:=rowsErr_ne (t:=t) x.rows.l
  unfold guardErr at h ⊢
  cases hs:spanS t x.when.f x.when.t with
  | some c=>rw [hs] at h h1;exact absurd (h1 h) (by simp)
  | none =>
    rw [hs,Option.none_or] at h;rw [Option.none_or]
    cases hm:maskErr t x with
    | some c =>
      rw [hm] at h
      have:c=193:=by
        unfold maskErr at hm
        split at hm
        · cases hm
        · injection hm with hm;exact hm.symm
      subst this
      exact absurd h (by simp)
    | none=>rw [hm,Option.none_or] at h;rw [Option.none_or];exact h2 h
theorem guardsErr_ne {t:Table}:∀(l:List Guard),(guardsErr t l).getD 0=0→guardsErr t l=none
  | [],_=>rfl
  | r::l,h=>by
    have h1:=guardErr_ne (t:=t) (x:=r)
    simp only [guardsErr] at h ⊢
    cases hs:guardErr t r with
    | none=>rw [hs,Option.none_or] at h;rw [Option.none_or];exact guardsErr_ne l h
    | some c=>rw [hs] at h h1;exact absurd (h1 h) (by simp)
theorem statesErr_ne {t:Table}:∀(l:List (Sl Guard)),(statesErr t l).getD 0=0→statesErr t l=none
  | [],_=>rfl
  | r::l,h=>by
    have h1:=guardsErr_ne (t:=t) r.l
    simp only [statesErr] at h ⊢
    cases hs:guardsErr t r.l with
    | none=>rw [hs,Option.none_or] at h;rw [Option.none_or];exact statesErr_ne l h
    | some c=>rw [hs] at h h1;exact absurd (h1 h) (by simp)
theorem checkS_ne {t:Table} (h:(checkS t).getD 0=0):checkS t=none:=by
  unfold checkS at h ⊢
  split
  · rename_i hF;rw [if_pos hF] at h;exact statesErr_ne _ h
  · rename_i hF;rw [if_neg hF] at h;exact absurd h (by simp)
theorem row_rest {t:Table} {r:Row} {n m:Int} (h:RowAt t r n=some m):r.rest:=by
  simp only [RowAt,Option.ite_none_right_eq_some] at h
  exact h.1.2.2.2
theorem rows_rest {t:Table}:∀(l:List Row) (p n m:Int),rowsAt t p l n=some m→∀r∈l,r.rest
  | [],p,n,m,h=>by simp
  | r::l,p,n,m,h=>by
    simp only [rowsAt] at h
    split at h
    · obtain ⟨k,h1,h2⟩:=Option.bind_eq_some_iff.1 h
      intro y hy
      rcases List.mem_cons.1 hy with rfl|hy
      · exact row_rest h1
      · exact rows_rest l _ _ _ h2 y hy
    · cases h
theorem guard_rest {t:Table} {x:Guard} {n m:Int} (h:guardAt t x n=some m):(∀r∈x.rows.l,r.rest)∧x.rows.l.length≤8:=by
  unfold guardAt at h
  split at h
  · rename_i hs;exact ⟨rows_rest _ _ _ _ h,hs.2.2⟩
  · cases h
theorem guards_rest {t:Table}:∀(l:List Guard) (n m:Int),guardsAt t l n=some m→∀x∈l,(∀r∈x.rows.l,r.rest)∧x.rows.l.length≤8
  | [],n,m,h=>by simp
  | x::l,n,m,h=>by
    obtain ⟨k,h1,h2⟩:=Option.bind_eq_some_iff.1 h
    intro y hy
    rcases List.mem_cons.1 hy with rfl|hy
    · exact guard_rest h1
    · exact guards_rest l _ _ h2 y hy
theorem states_rest {t:Table}:∀(l:List (Sl Guard)) (n m:Int),statesAt t l n=some m→∀s∈l,s.l.length≤12∧∀x∈s.l,(∀r∈x.rows.l,r.rest)∧x.rows.l.length≤8
  | [],n,m,h=>by simp
  | x::l,n,m,h=>by
    simp only [statesAt] at h
    split at h
    · obtain ⟨k,h1,h2⟩:=Option.bind_eq_some_iff.1 h
      intro y hy
      rcases List.mem_cons.1 hy with rfl|hy
      · exact ⟨by assumption,guards_rest _ _ _ h1⟩
      · exact states_rest l _ _ h2 y hy
    · cases h
theorem Formed.rest {t:Table} (h:Formed t):∀s∈t.states.l,s.l.length≤12∧∀x∈s.l,(∀r∈x.rows.l,r.rest)∧x.rows.l.length≤8:=states_rest _ _ _ h.2
def lenS (x:Span):Int:=x.t-x.f
def bodyS (r:Row):Int:=(r.spans.map lenS).sum
def rowsB:List Row→Int×Int→Int×Int
  | [],p=>p
  | r::l,p=>rowsB l (p.1+bodyS r,if r.k≤3 then p.2+1 else p.2)
end Go.Proofs.YtoegffiapnnkiaaGreat.Abs
namespace Go.Proofs.YtoegffiapnnkiaaGreat.Abs
open Go
set_option linter.unusedVariables false
set_option linter.unusedSimpArgs false
set_option maxRecDepth 100000
theorem rowsAt_rest {t:Table}:∀(l:List Row) (p n m:Int),rowsAt t p l n=some m→∀r∈l,(1≤r.k∧r.k≤6)∧Index t r=true∧(if r.k=1 then 1≤r.o∧r.o≤5 else r.o=0)∧r.rest
  | [],p,n,m,h=>fun r hr=>by simp at hr
  | y::l,p,n,m,h=>fun r hr=>by
    simp only [rowsAt] at h
    split at h
    · obtain ⟨k,h1,h2⟩:=Option.bind_eq_some_iff.1 h
      rcases List.mem_cons.1 hr with rfl|hr
      · simp only [RowAt,Option.ite_none_right_eq_some] at h1
        exact h1.1
      · exact rowsAt_rest l _ _ _ h2 r hr
    · cases h
theorem statesAt_rest {t:Table}:∀(l:List (Sl Guard)) (n m:Int),statesAt t l n=some m→∀s∈l,∀g∈s.l,(1≤g.rows.l.length∧g.rows.l.length≤8)∧∀r∈g.rows.l,(1≤r.k∧r.k≤6)∧Index t r=true∧(if r.k=1 then 1≤r.o∧r.o≤5 else r.o=0)∧r.rest
  | [],n,m,h=>fun s hs=>by simp at hs
  | x::l,n,m,h=>fun s hs=>by
    simp only [statesAt] at h
    split at h
    · obtain ⟨k,h1,h2⟩:=Option.bind_eq_some_iff.1 h
      rcases List.mem_cons.1 hs with rfl|hs
      · have key:∀(gs:List Guard) (n m:Int),guardsAt t gs n=some m→∀g∈gs,(1≤g.rows.l.length∧g.rows.l.length≤8)∧∀r∈g.rows.l,(1≤r.k∧r.k≤6)∧Index t r=true∧(if r.k=1 then 1≤r.o∧r.o≤5 else r.o=0)∧r.rest:=fun gs=>by
          induction gs with
          | nil=>intro _ _ _ g hg;simp at hg
          | cons y gs ih =>
            intro n m h g hg
            obtain ⟨k,h1,h2⟩:=Option.bind_eq_some_iff.1 h
            rcases List.mem_cons.1 hg with rfl|hg
            · unfold guardAt at h1
              split at h1
              · rename_i hc
                exact ⟨hc.2,rowsAt_rest _ _ _ _ h1⟩
              · cases h1
            · exact ih _ _ h2 g hg
        exact key _ _ _ h1
      · exact statesAt_rest l _ _ h2 s hs
    · cases h
theorem check_formed {t:Table} (h:checkS t=none):Formed t∧statesErr t t.states.l=none:=by
  unfold checkS at h
  split at h
  · exact ⟨‹_›,h⟩
  · cases h
end Go.Proofs.YtoegffiapnnkiaaGreat.Abs
namespace Go.Proofs.YtoegffiapnnkiaaGreat.Abs
open Go
set_option linter.unusedVariables false
set_option linter.unusedSimpArgs false
set_option maxRecDepth 100000
theorem statesErr_none {t:Table}:∀ {l:List (Sl Guard)},statesErr t l=none→∀s∈l,∀g∈s.l,guardErr t g=none
  | [],_,s,hs=>by simp at hs
  | x::l,h,s,hs=>by
    rw [statesErr] at h
    have h1:guardsErr t x.l=none:=by cases e:guardsErr t x.l with|none=>rfl|some c=>rw [e] at h;cases h
    rw [h1] at h
    rcases List.mem_cons.1 hs with rfl|hs
    · have key:∀(gs:List Guard),guardsErr t gs=none→∀g∈gs,guardErr t g=none:=fun gs=>by
        induction gs with
        | nil=>intro _ g hg;simp at hg
        | cons y gs ih =>
          intro h g hg
          rw [guardsErr] at h
          have h1:guardErr t y=none:=by cases e:guardErr t y with|none=>rfl|some c=>rw [e] at h;cases h
          rw [h1] at h
          rcases List.mem_cons.1 hg with rfl|hg
          · exact h1
          · exact ih h g hg
      exact key _ h1
    · exact statesErr_none h s hs
theorem rowsErr_none {t:Table}:∀ {l:List Row},rowsErr t l=none→∀r∈l,∀x∈r.spans,spanS t x.f x.t=none
  | [],_,r,hr=>by simp at hr
  | y::l,h,r,hr=>by
    rw [rowsErr] at h
    have h1:spansErr t y.spans=none:=by cases e:spansErr t y.spans with|none=>rfl|some c=>rw [e] at h;cases h
    rw [h1] at h
    rcases List.mem_cons.1 hr with rfl|hr
    · have key:∀(xs:List Span),spansErr t xs=none→∀x∈xs,spanS t x.f x.t=none:=fun xs=>by
        induction xs with
        | nil=>intro _ x hx;simp at hx
        | cons z xs ih =>
          intro h x hx
          rw [spansErr] at h
          have h1:spanS t z.f z.t=none:=by cases e:spanS t z.f z.t with|none=>rfl|some c=>rw [e] at h;cases h
          rw [h1] at h
          rcases List.mem_cons.1 hx with rfl|hx
          · exact h1
          · exact ih h x hx
      exact key _ h1
    · exact rowsErr_none h r hr
def SpanRuns (t:Table) (x:Span):Prop:=0≤x.f∧x.f<x.t∧x.t≤t.code.l.length∧spanS t x.f x.t=none
theorem guard_runs {t:Table} (h:checkS t=none) {s:Sl Guard} (hs:s∈t.states.l) {g:Guard} (hg:g∈s.l):SpanRuns t g.when∧∀r∈g.rows.l,∀x∈r.spans,SpanRuns t x:=by
  obtain ⟨hf,he⟩:=check_formed h
  have hin:=hf.in s hs g hg
  have hge:=statesErr_none he s hs g hg
  unfold guardErr at hge
  have h1:spanS t g.when.f g.when.t=none:=by cases e:spanS t g.when.f g.when.t with|none=>rfl|some c=>rw [e] at hge;cases hge
  rw [h1] at hge
  have h2:maskErr t g=none:=by cases e:maskErr t g with|none=>rfl|some c=>rw [e] at hge;cases hge
  rw [h2] at hge
  exact ⟨⟨hin.1.1,hin.1.2.1,hin.1.2.2,h1⟩,fun r hr x hx=>⟨(hin.2 r hr x hx).1,(hin.2 r hr x hx).2.1,(hin.2 r hr x hx).2.2,rowsErr_none hge r hr x hx⟩⟩
theorem check_code {t:Table} (h:checkS t=none):t.code.l.length≤4096∧t.regs.l.length≤12:=by
  obtain ⟨hf,-⟩:=check_formed h
  exact ⟨hf.1.2.2.2.2.2.1,hf.1.2.1⟩
theorem runs_to {t:Table} (h:checkS t=none) {x:Span} (hx:SpanRuns t x) (regs:List Int) (w:Snap):∃H q,SpanOk t x.f x.t H∧runF t regs w x.t 5000 x.f [] 0=some q∧0≤q.2.1∧q.2.1≤x.t-x.f:=by
  have hc:=(check_code h).1
  obtain ⟨H,hH⟩:=span_ok hx.1 hx.2.1 (by have:=hx.2.2.1;omega) hx.2.2.2
  obtain ⟨v,n,e,h1,h2,h3⟩:=run_ends (regs:=regs) (w:=w) hH 5000 x.f [] 0 ⟨Int.le_refl _,by have:=hx.2.1;omega,by rw [hH.begin_];rfl,by simp⟩ (by have:=hx.2.2.1;have:=hx.1;omega)
  exact ⟨H,(v,n,e),hH,h1,by simpa using h2,by simpa using h3⟩
end Go.Proofs.YtoegffiapnnkiaaGreat.Abs
