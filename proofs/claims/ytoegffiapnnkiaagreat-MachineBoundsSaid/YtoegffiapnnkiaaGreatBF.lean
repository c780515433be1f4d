/- A turn's steps and actions lie within the table's bounds: plain. No condition but those that each theorem names. -/
import Derived.Test.YtoegffiapnnkiaaGreatBE
namespace Go.Proofs.YtoegffiapnnkiaaGreat.Abs
open Go
set_option linter.unusedVariables false
set_option linter.unusedSimpArgs false
set_option maxRecDepth 100000
theorem mx_l (a b:Int):a≤mx a b:=by unfold mx;split<;>omega
theorem mx_r (a b:Int):b≤mx a b:=by unfold mx;split<;>omega
structure GuardOk (t:Table) (g:Guard):Prop where
  when:SpanRuns t g.when
  rows:∀r∈g.rows.l,RowOk t r
theorem guardsB_le {t:Table}:∀ {l:List Guard} {p:Int×Int×Int},(∀g∈l,GuardOk t g)→p.1≤(guardsB l p).1∧p.2.1≤(guardsB l p).2.1∧p.2.2≤(guardsB l p).2.2
  | [],p,_=>⟨Int.le_refl _,Int.le_refl _,Int.le_refl _⟩
  | g::l,p,h=>by
    have h1:=guardsB_le (l:=l) (p:=guardB (p.1+lenS g.when) p.2.1 p.2.2 (rowsB g.rows.l (0,0))) fun x hx=>h x (by simp [hx])
    have hw:=(h g (by simp)).when.2.1
    have m1:=mx_l p.2.1 (rowsB g.rows.l (0,0)).1
    have m2:=mx_l p.2.2 (rowsB g.rows.l (0,0)).2
    unfold guardB lenS at h1
    simp only at h1
    show p.1≤(guardsB l (guardB _ _ _ _)).1∧p.2.1≤(guardsB l (guardB _ _ _ _)).2.1∧p.2.2≤(guardsB l (guardB _ _ _ _)).2.2
    unfold guardB lenS
    omega
theorem guardsF_le {t:Table} (hck:checkS t=none) {w:Snap} (hc:∀n∈t.consts.l,In64 n) (hw:w.Ok) {s:Int} {regs:List Int} (hb:BodOk t (bod0 s regs)) (cf:Bool):∀(l:List Guard) (i n N m A:Int),(∀g∈l,GuardOk t g)→0≤n→n≤N→0≤m→0≤A →
    n≤(guardsF t w s regs cf l i n).steps∧(guardsF t w s regs cf l i n).steps≤(guardsB l (N,m,A)).1+(guardsB l (N,m,A)).2.1∧((guardsF t w s regs cf l i n).acts.length:Int)≤(guardsB l (N,m,A)).2.2 ∧
      ((guardsF t w s regs cf l i n).regs.length=t.regs.l.length∧0≤(guardsF t w s regs cf l i n).s∧(guardsF t w s regs cf l i n).s<t.states.l.length)∧(guardsF t w s regs cf l i n).steps=(guardsF t w s regs true l i n).steps
  | [],i,n,N,m,A,_,h0,h1,h2,h3=>⟨Int.le_refl _,by show n≤N+m;omega,h3,⟨hb.len,hb.s⟩,rfl⟩
  | g::l,i,n,N,m,A,hl,h0,h1,h2,h3=>by
    have hg:=hl g (by simp)
    have hl':∀x∈l,GuardOk t x:=fun x hx=>hl x (by simp [hx])
    obtain ⟨H,q,hs,hq,hq1,hq2⟩:=runs_to hck hg.when regs w
    have hwq:whenF t w regs g.when=q:=by unfold whenF;rw [hq];rfl
    have hmono:=guardsB_le (l:=l) (p:=guardB (N+lenS g.when) m A (rowsB g.rows.l (0,0))) hl'
    have m1:=mx_l m (rowsB g.rows.l (0,0)).1
    have m2:=mx_l A (rowsB g.rows.l (0,0)).2
    have m3:=mx_r m (rowsB g.rows.l (0,0)).1
    have m4:=mx_r A (rowsB g.rows.l (0,0)).2
    have e:guardsB (g::l) (N,m,A)=guardsB l (guardB (N+lenS g.when) m A (rowsB g.rows.l (0,0))):=rfl
    rw [e]
    unfold guardsF
    rw [hwq]
    unfold guardB at hmono ⊢
    unfold lenS at hmono ⊢
    simp only at hmono
    by_cases he:q.2.2=0
    · rw [if_pos he,if_pos he]
      by_cases hz:q.1=0
      · rw [if_pos hz,if_pos hz]
        obtain ⟨r1,r2,r3,r4,r5⟩:=guardsF_le hck hc hw hb cf l (i+1) (n+q.2.1) (N+(g.when.t-g.when.f)) (mx m (rowsB g.rows.l (0,0)).1) (mx A (rowsB g.rows.l (0,0)).2) hl' (by omega) (by omega) (by omega) (by omega)
        exact ⟨by omega,r2,r3,r4,r5⟩
      · rw [if_neg hz,if_neg hz]
        obtain ⟨k1,k2,k3,k4⟩:=doF_ok hck hc hw g.rows.l (bod0 s regs) hg.rows hb
        unfold fireF
        generalize doF t w g.rows.l (bod0 s regs)=b' at k1 k2 k3 k4 ⊢
        have k2:0≤b'.steps:=k2
        have k3:b'.steps≤0+(rowsB g.rows.l (0,0)).1:=k3
        have k4:(b'.acts.length:Int)≤((0:Nat):Int)+(rowsB g.rows.l (0,0)).2:=k4
        by_cases hbe:b'.err=0
        · rw [if_pos hbe,if_pos hbe]
          rw [if_neg (c:=0<b'.acts.length∧true=false) (fun h=>by cases h.2)]
          by_cases hd:0<b'.acts.length∧cf=false
          · rw [if_pos hd]
            refine ⟨?_,?_,?_,⟨hb.len,hb.s⟩,rfl⟩<;>simp only [List.length_nil]<;>omega
          · rw [if_neg hd]
            refine ⟨?_,?_,?_,⟨k1.len,k1.s⟩,rfl⟩<;>simp only<;>omega
        · rw [if_neg hbe,if_neg hbe]
          refine ⟨?_,?_,?_,⟨hb.len,hb.s⟩,rfl⟩<;>simp only [List.length_nil]<;>omega
    · rw [if_neg he,if_neg he]
      refine ⟨?_,?_,?_,⟨hb.len,hb.s⟩,rfl⟩<;>simp only [List.length_nil]<;>omega
theorem statesB_le {t:Table}:∀ {l:List (Sl Guard)} {p:Int×Int},(∀s∈l,∀g∈s.l,GuardOk t g)→p.1≤(statesB l p).1∧p.2≤(statesB l p).2
  | [],p,_=>⟨Int.le_refl _,Int.le_refl _⟩
  | s::l,p,h=>by
    have h1:=statesB_le (l:=l) (p:=stateB p.1 (guardsB s.l (0,0,p.2))) fun x hx=>h x (by simp [hx])
    have h2:=guardsB_le (p:=(0,0,p.2)) (h s (by simp))
    have m1:=mx_l p.1 ((guardsB s.l (0,0,p.2)).1+(guardsB s.l (0,0,p.2)).2.1)
    unfold stateB at h1
    simp only at h1 h2
    show p.1≤(statesB l (stateB _ _)).1∧p.2≤(statesB l (stateB _ _)).2
    unfold stateB
    omega
theorem statesB_in {t:Table}:∀ {l:List (Sl Guard)} {p:Int×Int} {s:Sl Guard},s∈l→(∀s∈l,∀g∈s.l,GuardOk t g)→0≤p.2→∃A,0≤A∧(guardsB s.l (0,0,A)).1+(guardsB s.l (0,0,A)).2.1≤(statesB l p).1∧(guardsB s.l (0,0,A)).2.2≤(statesB l p).2
  | [],_,_,h,_,_=>by simp at h
  | x::l,p,s,h,hl,h0=>by
    have hl':∀s∈l,∀g∈s.l,GuardOk t g:=fun y hy=>hl y (by simp [hy])
    show ∃A,0≤A∧_≤(statesB l (stateB p.1 (guardsB x.l (0,0,p.2)))).1∧_≤(statesB l (stateB p.1 (guardsB x.l (0,0,p.2)))).2
    have h2:=guardsB_le (p:=(0,0,p.2)) (hl x (by simp))
    simp only at h2
    rcases List.mem_cons.1 h with rfl|h
    · refine ⟨p.2,h0,?_⟩
      have h1:=statesB_le (l:=l) (p:=stateB p.1 (guardsB s.l (0,0,p.2))) hl'
      have m1:=mx_r p.1 ((guardsB s.l (0,0,p.2)).1+(guardsB s.l (0,0,p.2)).2.1)
      have e1:(stateB p.1 (guardsB s.l (0,0,p.2))).1=mx p.1 ((guardsB s.l (0,0,p.2)).1+(guardsB s.l (0,0,p.2)).2.1):=rfl
      have e2:(stateB p.1 (guardsB s.l (0,0,p.2))).2=(guardsB s.l (0,0,p.2)).2.2:=rfl
      omega
    · exact statesB_in h hl' (by show 0≤(guardsB x.l (0,0,p.2)).2.2;omega)
end Go.Proofs.YtoegffiapnnkiaaGreat.Abs
