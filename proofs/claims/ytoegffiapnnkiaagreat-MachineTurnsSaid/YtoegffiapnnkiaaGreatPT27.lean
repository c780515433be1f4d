/- Parts of one proof. No condition but those that each theorem names. -/
import Derived.Test.YtoegffiapnnkiaaGreatPT19
import Derived.Test.YtoegffiapnnkiaaGreatPT26
namespace Go.Proofs.YtoegffiapnnkiaaGreat.Abs
open Go
set_option linter.unusedVariables false
set_option linter.unusedSimpArgs false
set_option maxRecDepth 100000
set_option maxHeartbeats 4000000
attribute [local irreducible] W Cl Bd
variable {g:Cg} {V:K→Option (List AV)}
theorem run_c (O:OprG g) (K1:StkG g) (hp:Plain g 74=true) {t:Table} (ht:t.Ok V) {kt:K} {rest:List AV} (hkt:V kt=some (.str t.name::t.regs.v::.int .i64 t.slots::t.consts.v::t.code.v::t.states.v::rest)) {regs:Sl Int} (hr:regs.In V false 1 (AV.int .i64)) (hrn:∀n∈regs.l,In64 n) (hrl:regs.l.length=t.regs.l.length) {w:Snap} (hw:w.Ok)
    {f z:Int} {H:List Int} (h0:0≤f) (h1:f<z) (h2:z≤t.code.l.length) (h3:t.code.l.length≤4096) (hs:SpanOk t f z H) {m:Nat} (hm:z-f<m) {q:Int×Int×Int} (hq:runF t regs.l w z m f [] 0=some q) :
    Cl Tryz.prog g V 74 [.ptr (some (kt,0)),.agg [.int .i64 f,.int .i64 z],regs.v,w.v] [] fun o _=>o=.ret (resV q):=by
  refine Cl.enter hp Tryz.func74 rfl ?_
  repeat first|(with_reducible first|refine za ?_|refine zb ?_|refine zc ?_)|refine ym zr ?_|(refine yo zr ?_;intro _)
  refine W.scope ?_
  repeat first|(with_reducible first|refine za ?_|refine zb ?_|refine zc ?_)|refine ym zr ?_|refine yn 2 zr ?_|(refine yp zr ?_;intro _)
  rename_i ix iw ks
  refine W.label ?_
  have hst0:At1 H f z f []:=⟨Int.le_refl _,by omega,by rw [hs.begin_];rfl,by simp⟩
  refine W.ind (α:={ q':(Nat×Int×Int)×(List Int×Bk) // At1 H f z q'.1.2.1 q'.2.1∧(∀v∈q'.2.1,In64 v)∧Sk q'.2.1 q'.2.2∧z-q'.1.2.1<q'.1.1∧runF t regs.l w z q'.1.1 q'.1.2.1 q'.2.1 q'.1.2.2=some q∧0≤q'.1.2.2∧q'.1.2.2≤q'.1.2.1-f }) (fun q'=>(z-q'.1.1.2.1).toNat)
    (fun q'=>[(0,.ptr (some (kt,0))),(2,regs.v),(5,.ptr (some (ix,0))),(7,.ptr (some (iw,0))),(11,.ptr (some (ks,0))),(12,.func 114 [.ptr (some (ks,0))] []),(13,.int .i64 q'.1.1.2.1),(14,.int .i64 q'.1.1.2.2)])
    (fun q'=>(ks,q'.1.2.2)::(iw,.cells [.int .i64 w.bid,.int .i64 w.ask,.int .i64 w.last,.int .i64 w.volume,.int .i64 w.now,.int .i64 w.open_] 55 6 true)::(ix,.cells [.int .i64 f,.int .i64 z] 53 2 true)::[])
    ⟨((m,f,0),([],_)),hst0,by simp,Sk.nil,hm,hq,by simp,by simp⟩ ⟨rfl,rfl,rfl,rfl,rfl,rfl,rfl,rfl⟩ (List.Sublist.refl _) ?_
  clear hq hm hst0
  rintro ⟨⟨⟨m,a,steps⟩,S,bk⟩,hat,hnum,hS,hm,hq,hs0,hs1⟩ ih
  simp only at ih hat hnum hS hm hq hs0 hs1 ⊢
  have hzf:=hat.z
  have haf:=hat.f
  have hsn:=hat.n
  obtain ⟨m,rfl⟩:∃m',m=m'+1:=⟨m-1,by omega⟩
  simp only [runF] at hq
  by_cases haz:a<z
  rotate_left
  · have:a=z:=by omega
    subst this
    rw [if_pos (Int.le_refl _)] at hq
    clear ih
    match S,hS,hat,hq with
    | [],_,hat,_=>have:=hat.h;rw [hs.end_] at this;simp at this
    | v::S,hS,hat,hq =>
    injection hq with hq;subst hq
    have htop:=top_c (V:=V) K1 ks hS
    repeat first|(with_reducible first|refine za ?_|refine zb ?_|refine zc ?_)|refine ym zr ?_|refine yn 2 zr ?_
    refine W.condP rfl (fun _=>?_) (fun h=>absurd (Int.le_refl a) h)
    repeat first|(with_reducible first|refine za ?_|refine zb ?_)
    refine W.callR (Δ:=[_]) (R:=[_,_]) rfl rfl rfl rfl htop (by rintro v Δ' ⟨h1,-⟩;cases h1) ?_
    rintro _ _ ⟨h1_,rfl⟩
    injection h1_ with h1_;subst h1_
    repeat' first|refine W.uret ?_|with_reducible refine zc ?_|refine ym zr ?_|(with_reducible first|refine zj ?_|refine zk ?_)|refine W.done zr ?_
    rfl
  rw [if_neg (by omega)] at hq
  obtain ⟨jc,oc,cc,hca,hcV,hcp⟩:=codeAt_in ht (show 0≤a by omega) (show a<t.code.l.length by omega)
  have e1:IntKind.i64.wrap (a+1)=a+1:=w64 (by omega) (by omega)
  have e2:IntKind.i64.wrap (steps+1)=steps+1:=w64 (by omega) (by omega)
  have hst:=hs.stands a haf haz
  have hsa:=step_at (regs:=regs.l) (w:=w) hs hat haz
  have cont:=fun (a':Int) (S':List Int) (bk':Bk) (hi:insF t regs.l w a S=.go a' S') (hb:Sk S' bk')=>ih ⟨((m,a',steps+1),(S',bk')),by
      rcases hsa with ⟨e,-,he⟩|⟨a1,S1,he,-,hat'⟩
      · rw [hi] at he;cases he
      · rw [hi] at he;injection he with k1 k2;subst k1;subst k2;exact hat',step_in ht.consts.2.2 hrn hw hnum hi,hb,by
      rcases hsa with ⟨e,-,he⟩|⟨a1,S1,he,ha1,-⟩
      · rw [hi] at he;cases he
      · rw [hi] at he;injection he with k1 k2;show z-a'<m;omega,by rw [hi] at hq;exact hq,by show 0≤steps+1;omega,by
      rcases hsa with ⟨e,-,he⟩|⟨a1,S1,he,ha1,-⟩
      · rw [hi] at he;cases he
      · rw [hi] at he;injection he with k1 k2;show steps+1≤a'-f;omega⟩ (by
      rcases hsa with ⟨e,-,he⟩|⟨a1,S1,he,ha1,-⟩
      · rw [hi] at he;cases he
      · rw [hi] at he;injection he with k1 k2;show (z-a').toNat<(z-a).toNat;omega)
  have len:=fun (a':Int) (S':List Int) (hi:insF t regs.l w a S=.go a' S')=>show S'.length≤64 by
      rcases hsa with ⟨e,-,he⟩|⟨a1,S1,he,-,hat'⟩
      · rw [hi] at he;cases he
      · rw [hi] at he;injection he with k1 k2;subst k2;exact hat'.n
  have bad:=fun (e:Int) (hi:insF t regs.l w a S=.bad e)=>show q=(0,steps+1,e) by rw [hi] at hq;injection hq with hq;exact hq.symm
  have hno:insF t regs.l w a S≠.no:=fun e=>by rw [e] at hq;cases hq
  simp only at cont
  clear ih hq hsa
  unfold insF at cont len bad hno
  generalize codeAt t a=x at hcp hst hno cont len bad
  obtain ⟨xk,xa⟩:=x
  simp only at hno cont len bad
  repeat first|(with_reducible first|refine za ?_|refine zb ?_|refine zc ?_)|refine ym zr ?_|refine yn 2 zr ?_
  refine W.condP rfl (fun h=>absurd h (by omega)) (fun _=>?_)
  repeat first|refine W.ldV tblOk rfl rfl rfl hkt rfl ?_|refine W.ia tblOk rfl rfl rfl rfl rfl rfl hca (by omega) (by omega) ?_|refine W.ldV tblOk rfl rfl rfl hcV hcp ?_|(with_reducible first|refine za ?_|refine zb ?_|refine zc ?_)|refine ym zr ?_|refine yn 0 zr ?_|(refine yp zr ?_;intro _)|refine yq zr ?_|(with_reducible first|refine zd ?_|refine ze ?_)
  rw [e1]
  repeat first|(with_reducible first|refine za ?_|refine zb ?_|refine zc ?_)|refine ym zr ?_|refine yn 0 zr ?_|refine yn 1 zr ?_|refine yn 2 zr ?_|refine yn 3 zr ?_|(refine yo zr ?_;intro _)|(refine yp zr ?_;intro _)|refine yq zr ?_|refine ys zr ?_|refine yu zr ?_|refine yv zr ?_|(with_reducible first|refine zd ?_|refine ze ?_|refine zf ?_|refine zg ?_|refine zh ?_|refine zi ?_|refine zj ?_|refine zk ?_|refine zl ?_)|refine zz zr ?_|refine zw (by decide +kernel) ?_|refine zx zr zr zr ?_|refine zy zr zr ?_|refine W.condT zr ?_|refine W.condF zr ?_
  rw [e2]
  rename_i ii
  repeat first|(with_reducible first|refine za ?_|refine zb ?_|refine zc ?_)|refine ym zr ?_|refine yn 0 zr ?_|refine yn 1 zr ?_|refine yn 2 zr ?_|refine yn 3 zr ?_|(refine yo zr ?_;intro _)|(refine yp zr ?_;intro _)|refine yq zr ?_|refine ys zr ?_|refine yu zr ?_|refine yv zr ?_|(with_reducible first|refine zd ?_|refine ze ?_|refine zf ?_|refine zg ?_|refine zh ?_|refine zi ?_|refine zj ?_|refine zk ?_|refine zl ?_)|refine zz zr ?_|refine zw (by decide +kernel) ?_|refine zx zr zr zr ?_|refine zy zr zr ?_|refine W.condT zr ?_|refine W.condF zr ?_
  have kinds:xk=1∨xk=2∨xk=3∨xk=4∨xk=5∨xk=6∨xk=7∨xk=8∨xk=9:=by
    unfold Stands at hst
    simp only at hst
    (repeat' split at hst)<;>first|omega|cases hst
  rcases kinds with rfl|rfl|rfl|rfl|rfl|rfl|rfl|rfl|rfl
  · have hst:0≤xa∧xa<t.consts.l.length:=by simpa [Stands] using hst
    obtain ⟨j1,o1,cs1,ha1,hV1,hp1⟩:=num_in0 ht.consts.2.1 hst.1 hst.2
    have hn64:=len _ _ rfl
    rw [List.length_cons] at hn64
    repeat first|refine W.ldV tblOk rfl rfl rfl hkt rfl ?_|refine W.ia tblOk rfl rfl rfl rfl rfl rfl ha1 hst.1 hst.2 ?_|refine W.ldV tblOk rfl rfl rfl hV1 hp1 ?_|refine ym zr ?_|refine yn 0 zr ?_|refine zw (by decide +kernel) ?_|refine W.condT zr ?_
    refine W.fr1 ?_
    refine W.callR (Δ:=[_]) (R:=[_,_,_]) rfl rfl rfl rfl (lay_c (V:=V) K1 ks hS _ (by omega)) (by rintro v Δ' ⟨h1,-⟩;cases h1) ?_
    rintro _ _ ⟨h1_,bk_,rfl,hbk_⟩
    injection h1_ with h1_;subst h1_
    repeat first|(with_reducible first|refine zc ?_|refine zf ?_)
    refine W.goto ?_
    refine W.ugoto rfl ?_
    refine W.seq ?_
    refine W.skip ?_
    exact W.wk (cont _ _ _ rfl hbk_) ⟨rfl,rfl,rfl,rfl,rfl,rfl,rfl,rfl⟩ (.cons_cons _ (.cons _ (List.Sublist.refl _)))
  · have hst:1≤xa∧xa≤6:=by simpa [Stands] using hst
    have e3:IntKind.u8.wrap xa=xa:=w8 (by omega) (by omega)
    have hg:=get_c (g:=g) (V:=V) O w (f:=xa) (by omega)
    repeat first|(with_reducible first|refine za ?_|refine zb ?_|refine zc ?_)|refine ym zr ?_|refine yn 0 zr ?_|refine yn 2 zr ?_|refine W.condT zr ?_|refine W.condF zr ?_
    rw [e3]
    repeat first|refine W.callP rfl rfl rfl rfl hg ?_|(with_reducible first|refine za ?_|refine zb ?_|refine zc ?_)|refine ym zr ?_
    by_cases hc:w.get xa=0
    · skip
      repeat first|(refine W.gs rfl rfl rfl rfl (fun _=>?_) (fun h=>absurd hc h))|with_reducible refine zc ?_|refine ym zr ?_|refine yn 0 zr ?_
      refine W.condP rfl (fun h3=>?_) (fun h3=>?_)
      · skip
        repeat' first|refine W.uret ?_|(with_reducible first|refine za ?_|refine zb ?_|refine zc ?_)|refine ym zr ?_|(with_reducible first|refine zj ?_|refine zk ?_|refine zl ?_)|refine W.done zr ?_
        rw [bad 170 (show (if w.get xa=0∧xa≤3 then Stp.bad 170 else _)=_ from if_pos ⟨hc,h3⟩)]
        rfl
      · have hi:(if w.get xa=0∧xa≤3 then Stp.bad 170 else Stp.go (a+1) (w.get xa::S))=Stp.go (a+1) (w.get xa::S):=if_neg fun h=>h3 h.2
        have hn64:=len _ _ hi
        rw [List.length_cons] at hn64
        repeat first|with_reducible refine zb ?_|refine ym zr ?_|with_reducible refine zd ?_
        refine W.fr1 ?_
        refine W.callR (Δ:=[_]) (R:=[_,_,_]) rfl rfl rfl rfl (lay_c (V:=V) K1 ks hS _ (by omega)) (by rintro v Δ' ⟨h1,-⟩;cases h1) ?_
        rintro _ _ ⟨h1_,bk_,rfl,hbk_⟩
        injection h1_ with h1_;subst h1_
        repeat first|(with_reducible first|refine zc ?_|refine zf ?_)
        refine W.goto ?_
        refine W.ugoto rfl ?_
        refine W.seq ?_
        refine W.skip ?_
        exact W.wk (cont _ _ _ hi hbk_) ⟨rfl,rfl,rfl,rfl,rfl,rfl,rfl,rfl⟩ (.cons_cons _ (.cons _ (List.Sublist.refl _)))
    · skip
      repeat first|(refine W.gs rfl rfl rfl rfl (fun h=>absurd h hc) (fun _=>?_))|(with_reducible first|refine zb ?_|refine zc ?_)|refine ym zr ?_|with_reducible refine zd ?_|refine zx zr zr zr ?_|refine W.condF zr ?_
      have hi:(if w.get xa=0∧xa≤3 then Stp.bad 170 else Stp.go (a+1) (w.get xa::S))=Stp.go (a+1) (w.get xa::S):=if_neg fun h=>hc h.1
      have hn64:=len _ _ hi
      rw [List.length_cons] at hn64
      refine W.fr1 ?_
      refine W.callR (Δ:=[_]) (R:=[_,_,_]) rfl rfl rfl rfl (lay_c (V:=V) K1 ks hS _ (by omega)) (by rintro v Δ' ⟨h1,-⟩;cases h1) ?_
      rintro _ _ ⟨h1_,bk_,rfl,hbk_⟩
      injection h1_ with h1_;subst h1_
      repeat first|(with_reducible first|refine zc ?_|refine zf ?_)
      refine W.goto ?_
      refine W.ugoto rfl ?_
      refine W.seq ?_
      refine W.skip ?_
      exact W.wk (cont _ _ _ hi hbk_) ⟨rfl,rfl,rfl,rfl,rfl,rfl,rfl,rfl⟩ (.cons_cons _ (.cons _ (List.Sublist.refl _)))
  · have hst:1≤xa∧xa≤3:=by simpa [Stands] using hst
    have e3:IntKind.u8.wrap xa=xa:=w8 (by omega) (by omega)
    have hg:=get_c (g:=g) (V:=V) O w (f:=xa) (by omega)
    have ev:(if decide (¬w.get xa=0)=true then (1:Int) else 0)=if w.get xa=0 then 0 else 1:=by by_cases hc:w.get xa=0<;>simp [hc]
    have hn64:=len _ _ rfl
    rw [List.length_cons] at hn64
    repeat first|(with_reducible first|refine za ?_|refine zb ?_|refine zc ?_)|refine ym zr ?_|refine yn 0 zr ?_|refine yn 2 zr ?_|refine W.condT zr ?_|refine W.condF zr ?_
    rw [e3]
    repeat first|refine W.callP rfl rfl rfl rfl hg ?_|refine W.callP rfl rfl rfl rfl (truth_c O.truth _) ?_|refine ym zr ?_
    rw [ev]
    refine W.fr1 ?_
    refine W.callR (Δ:=[_]) (R:=[_,_,_]) rfl rfl rfl rfl (lay_c (V:=V) K1 ks hS _ (by omega)) (by rintro v Δ' ⟨h1,-⟩;cases h1) ?_
    rintro _ _ ⟨h1_,bk_,rfl,hbk_⟩
    injection h1_ with h1_;subst h1_
    repeat first|(with_reducible first|refine zc ?_|refine zf ?_)
    refine W.goto ?_
    refine W.ugoto rfl ?_
    refine W.seq ?_
    refine W.skip ?_
    exact W.wk (cont _ _ _ rfl hbk_) ⟨rfl,rfl,rfl,rfl,rfl,rfl,rfl,rfl⟩ (.cons_cons _ (.cons _ (List.Sublist.refl _)))
  · have hst:0≤xa∧xa<t.regs.l.length:=by simpa [Stands] using hst
    rw [←hrl] at hst
    obtain ⟨j1,o1,cs1,ha1,hV1,hp1⟩:=num_in0 hr hst.1 hst.2
    have hn64:=len _ _ rfl
    rw [List.length_cons] at hn64
    repeat first|refine W.ia tblOk rfl rfl rfl rfl rfl rfl ha1 hst.1 hst.2 ?_|refine W.ldV tblOk rfl rfl rfl hV1 hp1 ?_|(with_reducible first|refine za ?_|refine zb ?_|refine zc ?_)|refine ym zr ?_|refine yn 0 zr ?_|refine W.condT zr ?_|refine W.condF zr ?_
    refine W.fr1 ?_
    refine W.callR (Δ:=[_]) (R:=[_,_,_]) rfl rfl rfl rfl (lay_c (V:=V) K1 ks hS _ (by omega)) (by rintro v Δ' ⟨h1,-⟩;cases h1) ?_
    rintro _ _ ⟨h1_,bk_,rfl,hbk_⟩
    injection h1_ with h1_;subst h1_
    repeat first|(with_reducible first|refine zc ?_|refine zf ?_)
    refine W.goto ?_
    refine W.ugoto rfl ?_
    refine W.seq ?_
    refine W.skip ?_
    exact W.wk (cont _ _ _ rfl hbk_) ⟨rfl,rfl,rfl,rfl,rfl,rfl,rfl,rfl⟩ (.cons_cons _ (.cons _ (List.Sublist.refl _)))
  · have hst:1≤xa∧xa≤16:=by simpa [Stands] using hst
    have e3:IntKind.u8.wrap xa=xa:=w8 (by omega) (by omega)
    match S,hS,hno,hnum,cont,len,bad with
    | [],_,hno,_,_,_,_=>exact absurd (show (if xa≤3 then Stp.no else Stp.no)=.no by simp) hno
    | b::S,hS,hno,hnum,cont,len,bad =>
    repeat first|(with_reducible first|refine za ?_|refine zb ?_|refine zc ?_)|refine ym zr ?_|refine W.condT zr ?_|refine W.condF zr ?_
    refine W.fr1 ?_
    refine W.callR (Δ:=[_]) (R:=[_,_,_]) rfl rfl rfl rfl (take_c' (V:=V) K1 ks hS) (by rintro v Δ' ⟨h1,-⟩;cases h1) ?_
    rintro _ _ ⟨h1_,bk_,rfl,hbk_⟩
    injection h1_ with h1_;subst h1_
    repeat first|(with_reducible first|refine za ?_|refine zb ?_|refine zc ?_)|refine ym zr ?_|refine yn 1 zr ?_
    rw [e3]
    repeat first|(with_reducible first|refine za ?_|refine zb ?_|refine zc ?_)|refine ym zr ?_|refine yn 0 zr ?_|refine yn 1 zr ?_|refine yn 2 zr ?_|refine yn 3 zr ?_|(refine yo zr ?_;intro _)|(refine yp zr ?_;intro _)|refine yq zr ?_|refine ys zr ?_|refine yu zr ?_|refine yv zr ?_|(with_reducible first|refine zd ?_|refine ze ?_|refine zf ?_|refine zg ?_|refine zh ?_|refine zi ?_|refine zj ?_|refine zk ?_|refine zl ?_)|refine zz zr ?_|refine zw (by decide +kernel) ?_|refine zx zr zr zr ?_|refine zy zr zr ?_|refine W.condT zr ?_|refine W.condF zr ?_
    refine W.condP rfl (fun h3=>?_) (fun h3=>?_)
    · have h5:=single_c (g:=g) (V:=V) O (hnum b (by simp)) xa
      repeat first|refine W.callP rfl rfl rfl rfl h5 ?_|(with_reducible first|refine za ?_|refine zb ?_|refine zc ?_)|refine ym zr ?_
      refine W.condP rfl (fun hb=>?_) (fun hb=>?_)
      · skip
        repeat' first|refine W.uret ?_|(with_reducible first|refine za ?_|refine zb ?_|refine zc ?_)|refine ym zr ?_|(with_reducible first|refine zj ?_|refine zk ?_|refine zl ?_)|refine W.done zr ?_
        rw [bad (oneS xa b).2 (show (if xa≤3 then _ else _)=_ by rw [if_pos h3];exact if_neg hb)]
        rfl
      · have hb:(oneS xa b).2=0:=Classical.not_not.1 hb
        have hn64:=len (a+1) ((oneS xa b).1::S) (by show (if xa≤3 then _ else _)=_;rw [if_pos h3];exact if_pos hb)
        rw [List.length_cons] at hn64
        repeat first|with_reducible refine zb ?_|refine ym zr ?_|with_reducible refine zd ?_
        refine W.callR (Δ:=[_]) (R:=[_,_,_]) rfl rfl rfl rfl (lay_c (V:=V) K1 ks hbk_ _ (by omega)) (by rintro v Δ' ⟨h1,-⟩;cases h1) ?_
        rintro _ _ ⟨h1_,bk2_,rfl,hbk2_⟩
        injection h1_ with h1_;subst h1_
        repeat first|(with_reducible first|refine zc ?_|refine zf ?_)
        refine W.goto ?_
        refine W.ugoto rfl ?_
        refine W.seq ?_
        refine W.skip ?_
        exact W.wk (cont (a+1) ((oneS xa b).1::S) _ (by show (if xa≤3 then _ else _)=_;rw [if_pos h3];exact if_pos hb) hbk2_) ⟨rfl,rfl,rfl,rfl,rfl,rfl,rfl,rfl⟩ (.cons_cons _ (.cons _ (List.Sublist.refl _)))
    · match S,hbk_,hno,hnum,cont,len,bad with
      | [],_,hno,_,_,_,_=>exact absurd (show (if xa≤3 then _ else Stp.no)=.no by rw [if_neg h3]) hno
      | c::S,hbk_,hno,hnum,cont,len,bad =>
      have h5:=double_c (g:=g) (V:=V) O (hnum c (by simp)) (hnum b (by simp)) (o:=xa) (by omega) (by omega)
      repeat first|with_reducible refine zb ?_|refine ym zr ?_
      refine W.callR (Δ:=[_]) (R:=[_,_,_]) rfl rfl rfl rfl (take_c' (V:=V) K1 ks hbk_) (by rintro v Δ' ⟨h1,-⟩;cases h1) ?_
      rintro _ _ ⟨h1_,bk3_,rfl,hbk3_⟩
      injection h1_ with h1_;subst h1_
      repeat first|refine W.callP rfl rfl rfl rfl h5 ?_|(with_reducible first|refine za ?_|refine zb ?_|refine zc ?_)|refine ym zr ?_
      refine W.condP rfl (fun hb=>?_) (fun hb=>?_)
      · skip
        repeat' first|refine W.uret ?_|(with_reducible first|refine za ?_|refine zb ?_|refine zc ?_)|refine ym zr ?_|(with_reducible first|refine zj ?_|refine zk ?_|refine zl ?_)|refine W.done zr ?_
        rw [bad (twoS xa c b).2 (show (if xa≤3 then _ else _)=_ by rw [if_neg h3];exact if_neg hb)]
        rfl
      · have hb:(twoS xa c b).2=0:=Classical.not_not.1 hb
        have hn64:=len (a+1) ((twoS xa c b).1::S) (by show (if xa≤3 then _ else _)=_;rw [if_neg h3];exact if_pos hb)
        rw [List.length_cons] at hn64
        repeat first|with_reducible refine zb ?_|refine ym zr ?_|with_reducible refine zd ?_
        refine W.callR (Δ:=[_]) (R:=[_,_,_]) rfl rfl rfl rfl (lay_c (V:=V) K1 ks hbk3_ _ (by omega)) (by rintro v Δ' ⟨h1,-⟩;cases h1) ?_
        rintro _ _ ⟨h1_,bk2_,rfl,hbk2_⟩
        injection h1_ with h1_;subst h1_
        repeat first|(with_reducible first|refine zc ?_|refine zf ?_)
        refine W.goto ?_
        refine W.ugoto rfl ?_
        refine W.seq ?_
        refine W.skip ?_
        exact W.wk (cont (a+1) ((twoS xa c b).1::S) _ (by show (if xa≤3 then _ else _)=_;rw [if_neg h3];exact if_pos hb) hbk2_) ⟨rfl,rfl,rfl,rfl,rfl,rfl,rfl,rfl⟩ (.cons_cons _ (.cons _ (List.Sublist.refl _)))
  · match S,hS,hno,hnum,cont,len,bad with
    | [],_,hno,_,_,_,_=>exact absurd rfl hno
    | v::S,hS,hno,hnum,cont,len,bad =>
    have htop:=top_c (V:=V) K1 ks hS
    have hold:∀(Δ:Dm),(ii,Bk.cells [.int .u8 6,.int .i64 xa] 86 2 true)∈Δ→Hold tbl ii 84 0 (.int .u8 6) Δ:=fun Δ h=>⟨_,_,h,rfl,rfl⟩
    repeat first|(with_reducible first|refine za ?_|refine zb ?_|refine zc ?_)|refine ym zr ?_|with_reducible refine zd ?_|refine W.condT zr ?_|refine W.condF zr ?_
    refine W.drawL _ (i0:=ii) (q:=0) (v:=.int .u8 6) 3 0 1 (by decide +kernel) tbl tblOk rfl rfl (by simp [sameA]) ?_ ?_ ?_
    · show W _ _ _ _ _ [.o false _ [_,_,_]] _ _ _ _
      repeat' first|(refine W.fr1 ?_;refine W.callR (Δ:=[_]) (R:=[_,_,_]) rfl rfl rfl rfl htop (by rintro v Δ' ⟨h1,-⟩;cases h1) ?_;rintro _ _ ⟨h1_,rfl⟩;injection h1_ with h1_;subst h1_)|with_reducible refine zc ?_|refine ym zr ?_|refine W.doneN zr ?_
      exact ⟨rfl,hold _ (.tail _ (.head _))⟩
    · intro m h1 h2
      obtain rfl|rfl:m=0∨m=1:=by omega
      · show W _ _ _ _ _ [.o false _ []] _ _ _ _
        repeat' first|with_reducible refine zc ?_|refine W.doneN zr ?_
        exact hold _ (.head _)
      · show W _ _ _ _ _ [.o false _ [_]] _ _ _ _
        repeat' first|(refine W.fr1 ?_;refine W.callR (Δ:=[_]) (R:=[_,_,_]) rfl rfl rfl rfl htop (by rintro v Δ' ⟨h1,-⟩;cases h1) ?_;rintro _ _ ⟨h1_,rfl⟩;injection h1_ with h1_;subst h1_)|with_reducible refine zc ?_|refine W.doneN zr ?_
        exact hold _ (.tail _ (.head _))
    repeat first|(refine W.fr1 ?_;refine W.callR (Δ:=[_]) (R:=[_,_,_]) rfl rfl rfl rfl htop (by rintro v Δ' ⟨h1,-⟩;cases h1) ?_;rintro _ _ ⟨h1_,rfl⟩;injection h1_ with h1_;subst h1_)|with_reducible refine zc ?_|refine ym zr ?_|refine yn 1 zr ?_
    refine W.cond rfl ?_ ?_<;>intro hc
    · have hc:(v=0)↔(6:Int)=6:=by simpa using hc
      have hi:(if (v=0)↔(6:Int)=6 then Stp.go xa (v::S) else Stp.go (a+1) S)=Stp.go xa (v::S):=if_pos hc
      repeat first|(with_reducible first|refine zb ?_|refine zc ?_)|refine ym zr ?_|refine yn 1 zr ?_|with_reducible refine zf ?_
      refine W.goto ?_
      refine W.ugoto rfl ?_
      refine W.seq ?_
      refine W.skip ?_
      exact W.wk (cont _ _ _ hi hS) ⟨rfl,rfl,rfl,rfl,rfl,rfl,rfl,rfl⟩ (.cons_cons _ (.cons _ (List.Sublist.refl _)))
    · have hc:¬((v=0)↔(6:Int)=6):=by simpa using hc
      have hi:(if (v=0)↔(6:Int)=6 then Stp.go xa (v::S) else Stp.go (a+1) S)=Stp.go (a+1) S:=if_neg hc
      repeat first|with_reducible refine zb ?_
      refine W.callR (Δ:=[_]) (R:=[_,_,_]) rfl rfl rfl rfl (take_c' (V:=V) K1 ks hS) (by rintro v Δ' ⟨h1,-⟩;cases h1) ?_
      rintro _ _ ⟨h1_,bk_,rfl,hbk_⟩
      injection h1_ with h1_;subst h1_
      repeat first|(with_reducible first|refine zc ?_|refine zf ?_)
      refine W.goto ?_
      refine W.ugoto rfl ?_
      refine W.seq ?_
      refine W.skip ?_
      exact W.wk (cont _ _ _ hi hbk_) ⟨rfl,rfl,rfl,rfl,rfl,rfl,rfl,rfl⟩ (.cons_cons _ (.cons _ (List.Sublist.refl _)))
  · match S,hS,hno,hnum,cont,len,bad with
    | [],_,hno,_,_,_,_=>exact absurd rfl hno
    | v::S,hS,hno,hnum,cont,len,bad =>
    have htop:=top_c (V:=V) K1 ks hS
    have hold:∀(Δ:Dm),(ii,Bk.cells [.int .u8 7,.int .i64 xa] 86 2 true)∈Δ→Hold tbl ii 84 0 (.int .u8 7) Δ:=fun Δ h=>⟨_,_,h,rfl,rfl⟩
    repeat first|(with_reducible first|refine za ?_|refine zb ?_|refine zc ?_)|refine ym zr ?_|refine W.condT zr ?_|refine W.condF zr ?_
    refine W.drawL _ (i0:=ii) (q:=0) (v:=.int .u8 7) 3 0 1 (by decide +kernel) tbl tblOk rfl rfl (by simp [sameA]) ?_ ?_ ?_
    · show W _ _ _ _ _ [.o false _ [_,_,_]] _ _ _ _
      repeat' first|(refine W.fr1 ?_;refine W.callR (Δ:=[_]) (R:=[_,_,_]) rfl rfl rfl rfl htop (by rintro v Δ' ⟨h1,-⟩;cases h1) ?_;rintro _ _ ⟨h1_,rfl⟩;injection h1_ with h1_;subst h1_)|with_reducible refine zc ?_|refine ym zr ?_|refine W.doneN zr ?_
      exact ⟨rfl,hold _ (.tail _ (.head _))⟩
    · intro m h1 h2
      obtain rfl|rfl:m=0∨m=1:=by omega
      · show W _ _ _ _ _ [.o false _ []] _ _ _ _
        repeat' first|with_reducible refine zc ?_|refine W.doneN zr ?_
        exact hold _ (.head _)
      · show W _ _ _ _ _ [.o false _ [_]] _ _ _ _
        repeat' first|(refine W.fr1 ?_;refine W.callR (Δ:=[_]) (R:=[_,_,_]) rfl rfl rfl rfl htop (by rintro v Δ' ⟨h1,-⟩;cases h1) ?_;rintro _ _ ⟨h1_,rfl⟩;injection h1_ with h1_;subst h1_)|with_reducible refine zc ?_|refine W.doneN zr ?_
        exact hold _ (.tail _ (.head _))
    repeat first|(refine W.fr1 ?_;refine W.callR (Δ:=[_]) (R:=[_,_,_]) rfl rfl rfl rfl htop (by rintro v Δ' ⟨h1,-⟩;cases h1) ?_;rintro _ _ ⟨h1_,rfl⟩;injection h1_ with h1_;subst h1_)|with_reducible refine zc ?_|refine ym zr ?_|refine yn 1 zr ?_
    refine W.cond rfl ?_ ?_<;>intro hc
    · have hc:(v=0)↔(7:Int)=6:=by simpa using hc
      have hi:(if (v=0)↔(7:Int)=6 then Stp.go xa (v::S) else Stp.go (a+1) S)=Stp.go xa (v::S):=if_pos hc
      repeat first|(with_reducible first|refine zb ?_|refine zc ?_)|refine ym zr ?_|refine yn 1 zr ?_|with_reducible refine zf ?_
      refine W.goto ?_
      refine W.ugoto rfl ?_
      refine W.seq ?_
      refine W.skip ?_
      exact W.wk (cont _ _ _ hi hS) ⟨rfl,rfl,rfl,rfl,rfl,rfl,rfl,rfl⟩ (.cons_cons _ (.cons _ (List.Sublist.refl _)))
    · have hc:¬((v=0)↔(7:Int)=6):=by simpa using hc
      have hi:(if (v=0)↔(7:Int)=6 then Stp.go xa (v::S) else Stp.go (a+1) S)=Stp.go (a+1) S:=if_neg hc
      repeat first|with_reducible refine zb ?_
      refine W.callR (Δ:=[_]) (R:=[_,_,_]) rfl rfl rfl rfl (take_c' (V:=V) K1 ks hS) (by rintro v Δ' ⟨h1,-⟩;cases h1) ?_
      rintro _ _ ⟨h1_,bk_,rfl,hbk_⟩
      injection h1_ with h1_;subst h1_
      repeat first|(with_reducible first|refine zc ?_|refine zf ?_)
      refine W.goto ?_
      refine W.ugoto rfl ?_
      refine W.seq ?_
      refine W.skip ?_
      exact W.wk (cont _ _ _ hi hbk_) ⟨rfl,rfl,rfl,rfl,rfl,rfl,rfl,rfl⟩ (.cons_cons _ (.cons _ (List.Sublist.refl _)))
  · match S,hS,hno,hnum,cont,len,bad with
    | [],_,hno,_,_,_,_=>exact absurd rfl hno
    | v::S,hS,hno,hnum,cont,len,bad =>
    repeat first|(with_reducible first|refine za ?_|refine zb ?_|refine zc ?_)|refine ym zr ?_|refine W.condT zr ?_|refine W.condF zr ?_
    refine W.fr1 ?_
    refine W.callR (Δ:=[_]) (R:=[_,_,_]) rfl rfl rfl rfl (take_c' (V:=V) K1 ks hS) (by rintro v Δ' ⟨h1,-⟩;cases h1) ?_
    rintro _ _ ⟨h1_,bk_,rfl,hbk_⟩
    injection h1_ with h1_;subst h1_
    repeat first|with_reducible refine zc ?_|refine ym zr ?_
    refine W.condP rfl (fun hc=>?_) (fun hc=>?_)
    · have hi:(if v=0 then Stp.go xa S else Stp.go (a+1) S)=Stp.go xa S:=if_pos hc
      repeat first|(with_reducible first|refine zb ?_|refine zc ?_)|refine ym zr ?_|refine yn 1 zr ?_|with_reducible refine zf ?_
      refine W.goto ?_
      refine W.ugoto rfl ?_
      refine W.seq ?_
      refine W.skip ?_
      exact W.wk (cont _ _ _ hi hbk_) ⟨rfl,rfl,rfl,rfl,rfl,rfl,rfl,rfl⟩ (.cons_cons _ (.cons _ (List.Sublist.refl _)))
    · have hi:(if v=0 then Stp.go xa S else Stp.go (a+1) S)=Stp.go (a+1) S:=if_neg hc
      repeat first|(with_reducible first|refine zd ?_|refine zf ?_)
      refine W.goto ?_
      refine W.ugoto rfl ?_
      refine W.seq ?_
      refine W.skip ?_
      exact W.wk (cont _ _ _ hi hbk_) ⟨rfl,rfl,rfl,rfl,rfl,rfl,rfl,rfl⟩ (.cons_cons _ (.cons _ (List.Sublist.refl _)))
  · skip
    repeat first|(with_reducible first|refine za ?_|refine zb ?_|refine zc ?_)|refine ym zr ?_|refine yn 0 zr ?_|with_reducible refine zf ?_|refine W.condF zr ?_
    refine W.goto ?_
    refine W.ugoto rfl ?_
    refine W.seq ?_
    refine W.skip ?_
    exact W.wk (cont _ _ _ rfl hS) ⟨rfl,rfl,rfl,rfl,rfl,rfl,rfl,rfl⟩ (.cons _ (List.Sublist.refl _))
end Go.Proofs.YtoegffiapnnkiaaGreat.Abs
