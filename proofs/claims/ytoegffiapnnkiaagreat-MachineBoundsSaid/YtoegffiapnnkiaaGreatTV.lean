/- How many steps and actions a table can need: plain. No condition but those that each theorem names. -/
import Derived.Test.YtoegffiapnnkiaaGreatTQ
import Derived.Test.YtoegffiapnnkiaaGreatWS
namespace Go.Proofs.YtoegffiapnnkiaaGreat.Abs
open Go
set_option linter.unusedVariables false
set_option linter.unusedSimpArgs false
set_option maxRecDepth 100000
set_option maxHeartbeats 4000000
theorem rowsErr_ne {t:Table}:∀(l:List Row),(rowsErr t l).getD 0=0→rowsErr t l=none
  | [],_=>rfl
  | r::l,h=>by
    have h1:=spansErr_ne (t:=t) r.spans
    simp only [rowsErr] at h ⊢
    cases hs:spansErr t r.spans with
    | none=>rw [hs,Option.none_or] at h;rw [Option.none_or];exact rowsErr_ne l h
    | some c=>rw [hs] at h h1;exact absurd (h1 h) (by simp)
theorem guardErr_ne {t:Table} {x:Guard} (h:(guardErr t x).getD 0=0):guardErr t x=none:=by
  have h1:=spanS_ne (t:=t) (f:=x.when.f) (z:=x.when.t)
  have h2:=rowsErr_ne (t:=t) x.rows.l
  unfold guardErr at h ⊢
  cases hs:spanS t x.when.f x.when.t with
  | some c=>rw [hs] at h h1;exact absurd (h1 h) (by simp)
  | none =>
    rw [hs,Option.none_or] at h;rw [Option.none_or]
    cases hm:maskErr t x with
    | some c =>
      rw [hm] at h
      have:c=193:=by
        unfold maskErr at hm
        split at hm
        · cases hm
        · injection hm with hm;exact hm.symm
      subst this
      exact absurd h (by simp)
    | none=>rw [hm,Option.none_or] at h;rw [Option.none_or];exact h2 h
theorem guardsErr_ne {t:Table}:∀(l:List Guard),(guardsErr t l).getD 0=0→guardsErr t l=none
  | [],_=>rfl
  | r::l,h=>by
    have h1:=guardErr_ne (t:=t) (x:=r)
    simp only [guardsErr] at h ⊢
    cases hs:guardErr t r with
    | none=>rw [hs,Option.none_or] at h;rw [Option.none_or];exact guardsErr_ne l h
    | some c=>rw [hs] at h h1;exact absurd (h1 h) (by simp)
theorem statesErr_ne {t:Table}:∀(l:List (Sl Guard)),(statesErr t l).getD 0=0→statesErr t l=none
  | [],_=>rfl
  | r::l,h=>by
    have h1:=guardsErr_ne (t:=t) r.l
    simp only [statesErr] at h ⊢
    cases hs:guardsErr t r.l with
    | none=>rw [hs,Option.none_or] at h;rw [Option.none_or];exact statesErr_ne l h
    | some c=>rw [hs] at h h1;exact absurd (h1 h) (by simp)
theorem checkS_ne {t:Table} (h:(checkS t).getD 0=0):checkS t=none:=by
  unfold checkS at h ⊢
  split
  · rename_i hF;rw [if_pos hF] at h;exact statesErr_ne _ h
  · rename_i hF;rw [if_neg hF] at h;exact absurd h (by simp)
theorem checkS_formed {t:Table} (h:checkS t=none):Formed t:=by
  unfold checkS at h
  split at h
  · assumption
  · cases h
theorem row_rest {t:Table} {r:Row} {n m:Int} (h:RowAt t r n=some m):r.rest:=by
  simp only [RowAt,Option.ite_none_right_eq_some] at h
  exact h.1.2.2.2
theorem rows_rest {t:Table}:∀(l:List Row) (p n m:Int),rowsAt t p l n=some m→∀r∈l,r.rest
  | [],p,n,m,h=>by simp
  | r::l,p,n,m,h=>by
    simp only [rowsAt] at h
    split at h
    · obtain ⟨k,h1,h2⟩:=Option.bind_eq_some_iff.1 h
      intro y hy
      rcases List.mem_cons.1 hy with rfl|hy
      · exact row_rest h1
      · exact rows_rest l _ _ _ h2 y hy
    · cases h
theorem guard_rest {t:Table} {x:Guard} {n m:Int} (h:guardAt t x n=some m):(∀r∈x.rows.l,r.rest)∧x.rows.l.length≤8:=by
  unfold guardAt at h
  split at h
  · rename_i hs;exact ⟨rows_rest _ _ _ _ h,hs.2.2⟩
  · cases h
theorem guards_rest {t:Table}:∀(l:List Guard) (n m:Int),guardsAt t l n=some m→∀x∈l,(∀r∈x.rows.l,r.rest)∧x.rows.l.length≤8
  | [],n,m,h=>by simp
  | x::l,n,m,h=>by
    obtain ⟨k,h1,h2⟩:=Option.bind_eq_some_iff.1 h
    intro y hy
    rcases List.mem_cons.1 hy with rfl|hy
    · exact guard_rest h1
    · exact guards_rest l _ _ h2 y hy
theorem states_rest {t:Table}:∀(l:List (Sl Guard)) (n m:Int),statesAt t l n=some m→∀s∈l,s.l.length≤12∧∀x∈s.l,(∀r∈x.rows.l,r.rest)∧x.rows.l.length≤8
  | [],n,m,h=>by simp
  | x::l,n,m,h=>by
    simp only [statesAt] at h
    split at h
    · obtain ⟨k,h1,h2⟩:=Option.bind_eq_some_iff.1 h
      intro y hy
      rcases List.mem_cons.1 hy with rfl|hy
      · exact ⟨by assumption,guards_rest _ _ _ h1⟩
      · exact states_rest l _ _ h2 y hy
    · cases h
theorem Formed.rest {t:Table} (h:Formed t):∀s∈t.states.l,s.l.length≤12∧∀x∈s.l,(∀r∈x.rows.l,r.rest)∧x.rows.l.length≤8:=states_rest _ _ _ h.2
def lenS (x:Span):Int:=x.t-x.f
def bodyS (r:Row):Int:=(r.spans.map lenS).sum
def mx (a b:Int):Int:=if b>a then b else a
def rowsB:List Row→Int×Int→Int×Int
  | [],p=>p
  | r::l,p=>rowsB l (p.1+bodyS r,if r.k≤3 then p.2+1 else p.2)
def guardB (s m A:Int) (q:Int×Int):Int×Int×Int:=(s,mx m q.1,mx A q.2)
def guardsB:List Guard→Int×Int×Int→Int×Int×Int
  | [],p=>p
  | g::l,p=>guardsB l (guardB (p.1+lenS g.when) p.2.1 p.2.2 (rowsB g.rows.l (0,0)))
def stateB (S:Int) (q:Int×Int×Int):Int×Int:=(mx S (q.1+q.2.1),q.2.2)
def statesB:List (Sl Guard)→Int×Int→Int×Int
  | [],p=>p
  | s::l,p=>statesB l (stateB p.1 (guardsB s.l (0,0,p.2)))
noncomputable def boundV (t:Table):AV:=match checkS t with
  | none=>.tup [.agg [.int .i64 (statesB t.states.l (0,0)).1,.int .i64 (statesB t.states.l (0,0)).2],.int .i64 0]
  | some c=>.tup [.agg [.int .i64 0,.int .i64 0],.int .i64 c]
theorem body_in {r:Row} {n:Int} (h:∀y∈r.spans,0≤y.f∧y.f<y.t∧y.t≤n) (hn:n≤4096):0≤bodyS r∧bodyS r≤16384:=by
  unfold bodyS
  have hl:r.spans.length≤3:=by unfold Row.spans;(repeat' split)<;>simp
  have key:∀(l:List Span),(∀y∈l,0≤y.f∧y.f<y.t∧y.t≤n)→0≤(l.map lenS).sum∧(l.map lenS).sum≤4096 * (l.length:Int):=fun l=>by
    induction l with
    | nil=>simp
    | cons x l ih =>
      intro h
      have h1:=h x (by simp)
      have h2:=ih fun y hy=>h y (by simp [hy])
      simp only [List.map_cons,List.sum_cons,List.length_cons,lenS]
      omega
  have:=key r.spans h
  omega
theorem bodyR_eq {r:Row} (h:r.rest):bodyS r=(r.side.t-r.side.f)+(r.qty.t-r.qty.f)+(r.price.t-r.price.f)+(r.value.t-r.value.f):=by
  unfold Row.rest at h
  unfold bodyS Row.spans
  simp only [Span.no] at h
  (repeat' split at h)<;>simp_all [lenS]
  all_goals omega
end Go.Proofs.YtoegffiapnnkiaaGreat.Abs
