/- Parts of one proof. No condition but those that each theorem names. -/
import Derived.Test.YtoegffiapnnkiaaGreatPE05
import Derived.Test.YtoegffiapnnkiaaGreatPE22
namespace Go.Proofs.YtoegffiapnnkiaaGreat.Abs
open Go
set_option linter.unusedVariables false
set_option linter.unusedSimpArgs false
set_option maxRecDepth 100000
set_option maxHeartbeats 4000000
theorem rowsErr_ne {t:Table}:∀(l:List Row),(rowsErr t l).getD 0=0→rowsErr t l=none
  | [],_=>rfl
  | r::l,h=>by
    have h1:=spansErr_ne (t:=t) r.spans
    simp only [rowsErr] at h ⊢
    cases hs:spansErr t r.spans with
    | none=>rw [hs,Option.none_or] at h;rw [Option.none_or];exact rowsErr_ne l h
    | some c=>rw [hs] at h h1;exact absurd (h1 h) (by simp)
theorem guardErr_ne {t:Table} {x:Guard} (h:(guardErr t x).getD 0=0):guardErr t x=none:=by
  have h1:=spanS_ne (t:=t) (f:=x.when.f) (z:=x.when.t)
  have h2:=rowsErr_ne (t:=t) x.rows.l
  unfold guardErr at h ⊢
  cases hs:spanS t x.when.f x.when.t with
  | some c=>rw [hs] at h h1;exact absurd (h1 h) (by simp)
  | none =>
    rw [hs,Option.none_or] at h;rw [Option.none_or]
    cases hm:maskErr t x with
    | some c =>
      rw [hm] at h
      have:c=193:=by
        unfold maskErr at hm
        split at hm
        · cases hm
        · injection hm with hm;exact hm.symm
      subst this
      exact absurd h (by simp)
    | none=>rw [hm,Option.none_or] at h;rw [Option.none_or];exact h2 h
theorem guardsErr_ne {t:Table}:∀(l:List Guard),(guardsErr t l).getD 0=0→guardsErr t l=none
  | [],_=>rfl
  | r::l,h=>by
    have h1:=guardErr_ne (t:=t) (x:=r)
    simp only [guardsErr] at h ⊢
    cases hs:guardErr t r with
    | none=>rw [hs,Option.none_or] at h;rw [Option.none_or];exact guardsErr_ne l h
    | some c=>rw [hs] at h h1;exact absurd (h1 h) (by simp)
theorem statesErr_ne {t:Table}:∀(l:List (Sl Guard)),(statesErr t l).getD 0=0→statesErr t l=none
  | [],_=>rfl
  | r::l,h=>by
    have h1:=guardsErr_ne (t:=t) r.l
    simp only [statesErr] at h ⊢
    cases hs:guardsErr t r.l with
    | none=>rw [hs,Option.none_or] at h;rw [Option.none_or];exact statesErr_ne l h
    | some c=>rw [hs] at h h1;exact absurd (h1 h) (by simp)
theorem checkS_ne {t:Table} (h:(checkS t).getD 0=0):checkS t=none:=by
  unfold checkS at h ⊢
  split
  · rename_i hF;rw [if_pos hF] at h;exact statesErr_ne _ h
  · rename_i hF;rw [if_neg hF] at h;exact absurd h (by simp)
theorem row_rest {t:Table} {r:Row} {n m:Int} (h:RowAt t r n=some m):r.rest:=by
  simp only [RowAt,Option.ite_none_right_eq_some] at h
  exact h.1.2.2.2
theorem rows_rest {t:Table}:∀(l:List Row) (p n m:Int),rowsAt t p l n=some m→∀r∈l,r.rest
  | [],p,n,m,h=>by simp
  | r::l,p,n,m,h=>by
    simp only [rowsAt] at h
    split at h
    · obtain ⟨k,h1,h2⟩:=Option.bind_eq_some_iff.1 h
      intro y hy
      rcases List.mem_cons.1 hy with rfl|hy
      · exact row_rest h1
      · exact rows_rest l _ _ _ h2 y hy
    · cases h
theorem guard_rest {t:Table} {x:Guard} {n m:Int} (h:guardAt t x n=some m):(∀r∈x.rows.l,r.rest)∧x.rows.l.length≤8:=by
  unfold guardAt at h
  split at h
  · rename_i hs;exact ⟨rows_rest _ _ _ _ h,hs.2.2⟩
  · cases h
theorem guards_rest {t:Table}:∀(l:List Guard) (n m:Int),guardsAt t l n=some m→∀x∈l,(∀r∈x.rows.l,r.rest)∧x.rows.l.length≤8
  | [],n,m,h=>by simp
  | x::l,n,m,h=>by
    obtain ⟨k,h1,h2⟩:=Option.bind_eq_some_iff.1 h
    intro y hy
    rcases List.mem_cons.1 hy with rfl|hy
    · exact guard_rest h1
    · exact guards_rest l _ _ h2 y hy
theorem states_rest {t:Table}:∀(l:List (Sl Guard)) (n m:Int),statesAt t l n=some m→∀s∈l,s.l.length≤12∧∀x∈s.l,(∀r∈x.rows.l,r.rest)∧x.rows.l.length≤8
  | [],n,m,h=>by simp
  | x::l,n,m,h=>by
    simp only [statesAt] at h
    split at h
    · obtain ⟨k,h1,h2⟩:=Option.bind_eq_some_iff.1 h
      intro y hy
      rcases List.mem_cons.1 hy with rfl|hy
      · exact ⟨by assumption,guards_rest _ _ _ h1⟩
      · exact states_rest l _ _ h2 y hy
    · cases h
theorem Formed.rest {t:Table} (h:Formed t):∀s∈t.states.l,s.l.length≤12∧∀x∈s.l,(∀r∈x.rows.l,r.rest)∧x.rows.l.length≤8:=states_rest _ _ _ h.2
end Go.Proofs.YtoegffiapnnkiaaGreat.Abs
