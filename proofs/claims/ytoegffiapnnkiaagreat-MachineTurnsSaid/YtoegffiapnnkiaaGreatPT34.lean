/- Parts of one proof. No condition but those that each theorem names. -/
import Derived.Test.YtoegffiapnnkiaaGreatPT19
import Derived.Test.YtoegffiapnnkiaaGreatPT33
namespace Go.Proofs.YtoegffiapnnkiaaGreat.Abs
open Go
set_option linter.unusedVariables false
set_option linter.unusedSimpArgs false
set_option maxRecDepth 100000
set_option maxHeartbeats 4000000
attribute [local irreducible] W Cl Bd
variable {g:Cg} {V:K→Option (List AV)}
theorem spanRun_c (O:OprG g) (G:RunG g) (hC:∀k,CallS Tryz.prog (callA Tryz.prog g (exec Tryz.prog g k))) {t:Table} (ht:t.Ok V) {regs:Sl Int} (hr:regs.In V false 1 (AV.int .i64)) (hrn:∀n∈regs.l,In64 n) (hrl:regs.l.length=t.regs.l.length) {w:Snap} (hw:w.Ok)
    {f z:Int} {H:List Int} (h0:0≤f) (h1:f<z) (h2:z≤t.code.l.length) (h3:t.code.l.length≤4096) (hs:SpanOk t f z H) {m:Nat} (hm:z-f<m) {q:Int×Int×Int} (hq:runF t regs.l w z m f [] 0=some q) :
    Cl Tryz.prog g V 77 [t.v,.agg [.int .i64 f,.int .i64 z],regs.v,w.v] [] fun o _=>o=.ret (resV q):=by
  refine Cl.enter G.span Tryz.func77 rfl ?_
  repeat first|(with_reducible first|refine za ?_|refine zb ?_|refine zc ?_)|refine ym zr ?_|refine yn 1 zr ?_|(refine yo zr ?_;intro _)|with_reducible refine ze ?_
  rename_i it ix iw k
  have hst0:At1 H f z f []:=⟨Int.le_refl _,by omega,by rw [hs.begin_];rfl,by simp⟩
  refine W.loopR (α:={ q':(Nat×Int×Int)×(List Int×AV×Dm) // At1 H f z q'.1.2.1 q'.2.1∧(∀v∈q'.2.1,In64 v)∧RS q'.2.1 q'.2.2.1 q'.2.2.2∧z-q'.1.2.1<q'.1.1∧runF t regs.l w z q'.1.1 q'.1.2.1 q'.2.1 q'.1.2.2=some q∧0≤q'.1.2.2∧q'.1.2.2≤q'.1.2.1-f }) (fun q'=>(z-q'.1.1.2.1).toNat)
    (fun q'=>[(2,regs.v),(4,.ptr (some (it,0))),(5,.ptr (some (ix,0))),(7,.ptr (some (iw,0))),(11,.ptr (some (k,0)))])
    (fun q'=>rR k q'.1.1.2.1 q'.1.2.2.1 q'.1.1.2.2 0::(iw,.cells [.int .i64 w.bid,.int .i64 w.ask,.int .i64 w.last,.int .i64 w.volume,.int .i64 w.now,.int .i64 w.open_] 55 6 true)::(ix,.cells [.int .i64 f,.int .i64 z] 53 2 true)::(it,.cells [.str t.name,t.regs.v,.int .i64 t.slots,t.consts.v,t.code.v,t.states.v] 26 6 true)::q'.1.2.2.2)
    ⟨((m,f,0),([],.slice none 0 (.ex 0),[])),hst0,by simp,.none,hm,hq,by simp,by simp⟩ ⟨rfl,rfl,rfl,rfl,rfl⟩ (List.Sublist.refl _) ?_
  clear hq hm hst0
  rintro ⟨⟨⟨m,a,steps⟩,S,h,D⟩,hat,hnum,hS,hm,hq,hs0,hs1⟩ ih
  simp only at ih hat hnum hS hm hq hs0 hs1 ⊢
  have hzf:=hat.z
  have haf:=hat.f
  obtain ⟨m,rfl⟩:∃m',m=m'+1:=⟨m-1,by omega⟩
  simp only [runF] at hq
  by_cases haz:a<z
  · rw [if_neg (by omega)] at hq
    have hno:insF t regs.l w a S≠.no:=fun e=>by rw [e] at hq;cases hq
    have hsn:=hat.n
    have hstep:=istep_c (V:=V) O G hC ht hr hrn hrl hw k a steps hS hnum (by omega) (z:=z) (by omega) (by omega) h3 (hs.stands a haf haz) (by omega) (by omega) hno
    unfold rR at hstep ⊢
    repeat first|(refine W.gs rfl rfl rfl rfl (fun _=>?_) (fun h=>absurd haz h))|(with_reducible first|refine za ?_|refine zb ?_|refine zc ?_)|refine ym zr ?_|refine yn 0 zr ?_|refine yn 1 zr ?_|refine yn 2 zr ?_|refine yn 3 zr ?_|(with_reducible first|refine zd ?_|refine ze ?_)|refine zw (by decide +kernel) ?_|refine W.condT zr ?_
    refine W.perm (((k,_)::D)++[_,_,_]) (.cons _ List.perm_append_comm) ?_
    refine W.callR rfl rfl rfl rfl hstep (fun v Δ' h1=>?_) ?_
    · cases hi:insF t regs.l w a S with
      | no=>exact absurd hi hno
      | go a' S'=>rw [hi] at h1;cases h1.1
      | bad e=>rw [hi] at h1;cases h1.1
    intro v Δ' hp
    rcases step_at (regs:=regs.l) (w:=w) hs hat haz with ⟨e,he0,he⟩|⟨a',S',he,ha',hat'⟩
    · rw [he] at hp hq
      obtain ⟨h1_,a',h',D',rfl⟩:=hp
      injection h1_ with h1_;subst h1_
      injection hq with hq;subst hq
      clear ih
      refine W.perm (rR k a' h' (steps+1) e::_::_::_::D') (.cons _ (List.perm_append_comm (l₁:=[_,_,_]))) ?_
      unfold rR
      repeat first|(with_reducible first|refine zc ?_|refine zf ?_)
      refine W.loop ?_
      repeat' first|refine W.condP rfl (fun h=>absurd h he0) (fun _=>?_)|(with_reducible first|refine za ?_|refine zb ?_|refine zc ?_)|refine ym zr ?_|refine yn 0 zr ?_|refine yn 2 zr ?_|(with_reducible first|refine zd ?_|refine zg ?_|refine zh ?_|refine zi ?_|refine zj ?_|refine zk ?_)|refine zw (by decide +kernel) ?_|refine zx zr zr zr ?_|(refine W.condP zr ?_ ?_<;>intro _)|refine W.condF zr ?_|(refine W.gs zr zr zr zr ?_ ?_<;>intro _)|refine W.done zr ?_
      all_goals first
        | rfl
        | exact absurd he0 ‹¬ ¬e=0›
    · rw [he] at hp hq
      obtain ⟨h1_,h',D',rfl,hS'⟩:=hp
      injection h1_ with h1_;subst h1_
      have hq:runF t regs.l w z m a' S' (steps+1)=some q:=hq
      have hnext:=ih ⟨((m,a',steps+1),(S',h',D')),hat',step_in ht.consts.2.2 hrn hw hnum he,hS',by show z-a'<m;omega,hq,by show 0≤steps+1;omega,by show steps+1≤a'-f;omega⟩ (by show (z-a').toNat<(z-a).toNat;omega)
      clear ih
      refine W.perm (rR k a' h' (steps+1) 0::_::_::_::D') (.cons _ (List.perm_append_comm (l₁:=[_,_,_]))) ?_
      repeat first|(with_reducible first|refine zc ?_|refine zf ?_)
      exact W.wk hnext ⟨rfl,rfl,rfl,rfl,rfl⟩ (List.Sublist.refl _)
  · have:a=z:=by omega
    subst this
    rw [if_pos (Int.le_refl _)] at hq
    clear ih
    match S,hS,hat,hq with
    | [],_,hat,_=>have:=hat.h;rw [hs.end_] at this;simp at this
    | v::S,hS,hat,hq =>
    injection hq with hq;subst hq
    have hsn:=hat.n
    have htop:=topR_c (V:=V) G k a steps 0 hS (by simp at hsn;omega)
    unfold rR at htop ⊢
    have hold:∀(Δ:Dm),(k,Bk.cells [.int .i64 a,h,.int .i64 steps,.int .i64 0] 235 4 true)∈Δ→Hold tbl k 3 2 (.int .i64 steps) Δ:=fun Δ h=>⟨_,_,h,rfl,rfl⟩
    repeat first|(refine W.gs rfl rfl rfl rfl (fun h=>absurd h (by omega)) (fun _=>?_))|(with_reducible first|refine za ?_|refine zb ?_|refine zc ?_)|refine ym zr ?_|refine yn 0 zr ?_|refine yn 2 zr ?_|(with_reducible first|refine zd ?_|refine zg ?_|refine zh ?_|refine zi ?_)|refine zw (by decide +kernel) ?_|refine zx zr zr zr ?_|refine W.condF zr ?_
    refine W.drawL _ (i0:=k) (q:=2) (v:=.int .i64 steps) 5 1 2 (by decide +kernel) tbl tblOk rfl rfl (by simp [sameA]) ?_ ?_ ?_
    · show W _ _ _ _ _ [.o false _ [_,_,_,_,_]] _ _ _ _
      repeat' first|(refine W.perm (((k,_)::D)++[_,_,_]) (.cons _ List.perm_append_comm) ?_;refine W.callR rfl rfl rfl rfl htop (by rintro v Δ' ⟨h1,-⟩;cases h1) ?_;rintro _ _ ⟨h1_,rfl⟩;injection h1_ with h1_;subst h1_)|with_reducible refine zc ?_|refine ym zr ?_|refine W.doneN zr ?_
      exact ⟨rfl,hold _ (.head _)⟩
    · intro m h1 h2
      obtain rfl|rfl:m=1∨m=2:=by omega
      · show W _ _ _ _ _ [.o false _ [_]] _ _ _ _
        repeat' first|with_reducible refine zc ?_|refine ym zr ?_|refine W.doneN zr ?_
        exact hold _ (.head _)
      · show W _ _ _ _ _ [.o false _ [_,_]] _ _ _ _
        repeat' first|(refine W.perm (((k,_)::D)++[_,_,_]) (.cons _ List.perm_append_comm) ?_;refine W.callR rfl rfl rfl rfl htop (by rintro v Δ' ⟨h1,-⟩;cases h1) ?_;rintro _ _ ⟨h1_,rfl⟩;injection h1_ with h1_;subst h1_)|with_reducible refine zc ?_|refine ym zr ?_|refine W.doneN zr ?_
        exact hold _ (.head _)
    repeat' first|(refine W.perm (((k,_)::D)++[_,_,_]) (.cons _ List.perm_append_comm) ?_;refine W.callR rfl rfl rfl rfl htop (by rintro v Δ' ⟨h1,-⟩;cases h1) ?_;rintro _ _ ⟨h1_,rfl⟩;injection h1_ with h1_;subst h1_)|with_reducible refine zc ?_|refine ym zr ?_|refine yn 0 zr ?_|with_reducible refine zj ?_|refine W.done zr ?_
    rfl
end Go.Proofs.YtoegffiapnnkiaaGreat.Abs
