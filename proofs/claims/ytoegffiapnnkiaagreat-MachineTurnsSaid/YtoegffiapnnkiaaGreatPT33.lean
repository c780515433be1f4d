/- Parts of one proof. No condition but those that each theorem names. -/
import Derived.Test.YtoegffiapnnkiaaGreatPT19
namespace Go.Proofs.YtoegffiapnnkiaaGreat.Abs
open Go
set_option linter.unusedVariables false
set_option linter.unusedSimpArgs false
set_option maxRecDepth 100000
set_option maxHeartbeats 4000000
inductive RS:List Int→AV→Dm→Prop
  | none:RS [] (.slice none 0 (.ex 0)) []
  | some {S:List Int} (i:K) (cs:List AV) (h:S.length≤cs.length) (e:cs.take S.length=S.reverse.map (AV.int .i64)):RS S (.slice (some (i,0)) S.length (.own 0)) [(i,.cells cs 2 1 false)]
def rR (k:K) (a:Int) (h:AV) (steps fault:Int):K×Bk:=(k,.cells [.int .i64 a,h,.int .i64 steps,.int .i64 fault] 235 4 true)
theorem takeL_take {α:Type} {l:List α} {m:Nat} (h:m≤l.length):takeL m l=.some (l.take m):=by
  have:=takeL_mk (l.take m) (l.drop m)
  rwa [List.take_append_drop,List.length_take,Nat.min_eq_left h] at this
structure RunG (g:Cg):Prop where
  lay:Plain g 155=true
  take:Plain g 158=true
  top:Plain g 122=true
  field:Plain g 156=true
  oper:Plain g 157=true
  step:Plain g 121=true
  span:Plain g 77=true
attribute [local irreducible] W Cl Bd
variable {g:Cg} {V:K→Option (List AV)}
theorem layR_c (G:RunG g) (k:K) (a steps fault:Int) {S:List Int} {h:AV} {D:Dm} (hS:RS S h D) (v:Int) (hn:S.length≤1000) :
    Cl Tryz.prog g V 155 [.ptr (some (k,0)),.int .i64 v] (rR k a h steps fault::D) fun o Δ=>o=.ret (.tup [])∧∃h' D',Δ=rR k a h' steps fault::D'∧RS (v::S) h' D':=by
  refine Cl.enter G.lay Tryz.func155 rfl ?_
  unfold rR
  cases hS with
  | none =>
    repeat first|(refine W.bsl tblOk rfl rfl rfl rfl (by decide) rfl rfl rfl ?_;intro i0)|(refine W.appN tblOk rfl rfl rfl rfl rfl rfl rfl (by decide) (by decide) (by decide) (src_own (p:=0) rfl rfl rfl) rfl rfl rfl ?_;intro i2)|(with_reducible first|refine zb ?_|refine zc ?_)|refine ym zr ?_|refine yn 0 zr ?_|refine yu zr ?_
    refine W.dropE [_,_] (.cons_cons _ (.cons_cons _ (.cons _ .slnil))) ?_
    repeat' first|refine W.doneN zr ?_
    exact ⟨rfl,_,_,rfl,.some (S:=[v]) i2 _ (Nat.le_refl _) rfl⟩
  | some i cs hl e =>
    have hold:=takeL_take (l:=cs) (m:=S.length) hl
    rw [e] at hold
    have hold:takeL (S.length * 1) cs=some (S.reverse.map (AV.int .i64)):=by rw [Nat.mul_one];exact hold
    repeat first|(refine W.bsl tblOk rfl rfl rfl rfl (by decide) rfl rfl rfl ?_;intro i0)|(refine W.fr2 ?_;refine W.appO (len:=S.length) tblOk rfl rfl rfl rfl rfl rfl rfl (by decide) (by decide) ?hb hold (src_own (p:=1) rfl rfl rfl) rfl rfl rfl ?_;(case hb=>show (S.length+1) * 8≤_;omega);intro i2)|(with_reducible first|refine zb ?_|refine zc ?_)|refine ym zr ?_|refine yn 0 zr ?_|refine yu zr ?_
    refine W.dropE [_,_] (.cons_cons _ (.cons_cons _ (.cons _ .slnil))) ?_
    repeat' first|refine W.doneN zr ?_
    exact ⟨rfl,_,_,rfl,.some (S:=v::S) i2 _ (by simp) (by rw [List.take_of_length_le (by simp)];simp)⟩
theorem topR_c (G:RunG g) (k:K) (a steps fault:Int) {S:List Int} {v:Int} {h:AV} {D:Dm} (hS:RS (v::S) h D) (hn:S.length≤1000) :
    Cl Tryz.prog g V 122 [.ptr (some (k,0))] (rR k a h steps fault::D) fun o Δ=>o=.ret (.int .i64 v)∧Δ=rR k a h steps fault::D:=by
  refine Cl.enter G.top Tryz.func122 rfl ?_
  unfold rR
  cases hS with
  | some i cs hl e =>
    have e1:IntKind.i64.wrap (((v::S).length:Int)-1)=(S.length:Int):=by rw [List.length_cons,w64 (by omega) (by omega)];omega
    have hv:cs[S.length]?=some (.int .i64 v):=by
      have h1:(cs.take (v::S).length)[S.length]?=some (.int .i64 v):=by rw [e];simp
      rwa [List.getElem?_take_of_lt (by simp)] at h1
    have p2:partG tbl 2 cs (0+(S.length:Int).toNat * 1)=some (.int .i64 v):=part_leaf rfl (by rw [show 0+(S.length:Int).toNat * 1=S.length by omega];exact hv)
    have h0:(0:Int)≤(S.length:Int):=by omega
    have h1:(S.length:Int)<(((v::S).length:Nat):Int):=by simp;omega
    repeat first|(with_reducible first|refine za ?_|refine zb ?_|refine zc ?_)|refine ym zr ?_|refine yn 0 zr ?_|refine zw (by decide +kernel) ?_
    rw [e1]
    repeat' first|refine W.ia tblOk rfl rfl rfl rfl rfl rfl rfl h0 h1 ?_|refine W.ldO tblOk 1 rfl rfl rfl p2 rfl rfl ?_|with_reducible refine zc ?_|refine ym zr ?_|with_reducible refine zj ?_|refine W.done zr ?_
    exact ⟨rfl,rfl⟩
theorem takeStk_c (G:RunG g) (k:K) (a steps fault:Int) {S:List Int} {v:Int} {h:AV} {D:Dm} (hS:RS (v::S) h D) (hn:S.length≤1000) :
    Cl Tryz.prog g V 158 [.ptr (some (k,0))] (rR k a h steps fault::D) fun o Δ=>o=.ret (.int .i64 v)∧∃h' D',Δ=rR k a h' steps fault::D'∧RS S h' D':=by
  refine Cl.enter G.take Tryz.func158 rfl ?_
  have ht:=topR_c (V:=V) G k a steps fault hS hn
  repeat first|(with_reducible first|refine za ?_|refine zb ?_|refine zc ?_)|refine ym zr ?_
  refine W.perm (_::(D++[])) (by rw [List.append_nil]) ?_
  refine W.callR (Δ:=_::D) (R:=[]) rfl rfl rfl rfl ht ?_ ?_
  · rintro v Δ' ⟨h1,-⟩
    cases h1
  rintro v Δ' ⟨h1,rfl⟩
  injection h1 with h1;subst h1
  unfold rR
  cases hS with
  | some i cs hl e =>
    have e1:IntKind.i64.wrap (((v::S).length:Int)-1)=(S.length:Int):=by rw [List.length_cons,w64 (by omega) (by omega)];omega
    repeat first|(with_reducible first|refine za ?_|refine zc ?_)|refine ym zr ?_|refine yn 0 zr ?_|refine zw (by decide +kernel) ?_
    rw [e1]
    repeat' first|refine W.cutS tblOk (m:=S.length) rfl rfl rfl rfl (Nat.le_succ _) rfl rfl ?_|(with_reducible first|refine za ?_|refine zb ?_|refine zc ?_)|refine ym zr ?_|refine yq zr ?_|with_reducible refine zj ?_|refine W.done zr ?_
    refine ⟨rfl,_,_,rfl,.some i cs (Nat.le_of_succ_le hl) ?_⟩
    have h2:(cs.take (v::S).length).take S.length=S.reverse.map (AV.int .i64):=by rw [e];simp
    rwa [List.take_take,Nat.min_eq_left (by simp)] at h2
theorem fieldR_c (O:OprG g) (G:RunG g) (k:K) (a steps:Int) {S:List Int} {h:AV} {D:Dm} (hS:RS S h D) (x:Instr) (w:Snap) (hx:(x.k=2∨x.k=3)∧1≤x.a∧x.a≤6) (hn:S.length≤900) :
    Cl Tryz.prog g V 156 [.ptr (some (k,0)),x.v,w.v] (rR k a h steps 0::D) fun o Δ=>o=.ret (.tup []) ∧
      ∃h' D',Δ=rR k a h' steps (if x.k=2∧w.get x.a=0∧x.a≤3 then 170 else 0)::D'∧RS ((if x.k=3∧¬w.get x.a=0 then 1 else w.get x.a)::S) h' D':=by
  refine Cl.enter G.field Tryz.func156 rfl ?_
  obtain ⟨hk,h0,h1⟩:=hx
  have e1:IntKind.u8.wrap x.a=x.a:=w8 (by omega) (by omega)
  have hl:=fun (fault v:Int)=>layR_c (V:=V) G k a steps fault hS v (by omega)
  have hg:=getR_c (V:=V) O w x.a
  generalize hv:w.get x.a=v at hg ⊢
  unfold rR at hl ⊢
  repeat first|(with_reducible first|refine za ?_|refine zb ?_|refine zc ?_)|refine ym zr ?_|refine yn 0 zr ?_|refine yn 1 zr ?_|(refine yo zr ?_;intro _)
  rw [e1]
  repeat' first|refine W.callP rfl rfl rfl rfl hg ?_|(refine W.perm (((k,_)::D)++[_,_]) (by exact (List.perm_append_comm (l₁:=(k,_)::D)).trans (.swap _ _ _)) ?_;refine W.callR rfl rfl rfl rfl (hl _ _) (by rintro v Δ' ⟨h1,-⟩;cases h1) ?_;rintro _ _ ⟨h1_,h_,D_,rfl,hD_⟩;injection h1_ with h1_;subst h1_;refine W.dropE ((k,_)::D_) (List.sublist_append_left _ _) ?_)|(refine W.perm (((k,_)::D)++[_,_]) (.cons _ List.perm_append_comm) ?_;refine W.callR rfl rfl rfl rfl (hl _ _) (by rintro v Δ' ⟨h1,-⟩;cases h1) ?_;rintro _ _ ⟨h1_,h_,D_,rfl,hD_⟩;injection h1_ with h1_;subst h1_;refine W.dropE ((k,_)::D_) (List.sublist_append_left _ _) ?_)|(with_reducible first|refine za ?_|refine zb ?_|refine zc ?_)|refine ym zr ?_|refine yn 1 zr ?_|refine yu zr ?_|(with_reducible first|refine zd ?_|refine ze ?_|refine zf ?_)|refine zx zr zr zr ?_|(refine W.condP zr ?_ ?_<;>intro _)|refine W.condF zr ?_|(refine W.gs zr zr zr zr ?_ ?_<;>intro _)|refine W.doneN zr ?_
  all_goals first
    | (exfalso;omega)
    | skip
  all_goals
    refine ⟨rfl,h_,D_,?_,?_⟩
    · first|rw [if_pos (by omega)]|rw [if_neg (by omega)]
    · first
        | (rw [if_pos (by omega)];exact hD_)
        | (rw [if_neg (by omega)];exact hD_)
theorem operR_c (O:OprG g) (G:RunG g) (k:K) (a steps:Int) {S:List Int} {h:AV} {D:Dm} (hS:RS S h D) (hnum:∀v∈S,In64 v) {o:Int} (ho:1≤o∧o≤16) (hn:S.length≤900) (q:Int×Int) (S':List Int)
    (hq:(o≤3∧∃b,S=b::S'∧q=oneS o b)∨(¬o≤3∧∃b c,S=b::c::S'∧q=twoS o c b)) :
    Cl Tryz.prog g V 157 [.ptr (some (k,0)),.int .u8 o] (rR k a h steps 0::D) fun r Δ=>r=.ret (.tup [])∧∃h' D',Δ=rR k a h' steps q.2::D'∧RS (q.1::S') h' D':=by
  refine Cl.enter G.oper Tryz.func157 rfl ?_
  have hl:=fun (h:AV) (D:Dm) (hS:RS S' h D) (hn:S'.length≤900) (fault v:Int)=>layR_c (V:=V) G k a steps fault hS v (by omega)
  rcases hq with ⟨ho3,b,rfl,rfl⟩|⟨ho3,b,c,rfl,rfl⟩
  · have ht:=takeStk_c (V:=V) G k a steps 0 hS (by simp at hn;omega)
    have h1:=one_c (V:=V) O (hnum b (by simp)) o
    have hn':S'.length≤900:=by simp at hn;omega
    unfold rR at hl ht ⊢
    repeat first|(with_reducible first|refine za ?_|refine zb ?_)|refine ym zr ?_
    refine W.perm (((k,_)::D)++[]) (by rw [List.append_nil]) ?_
    refine W.callR rfl rfl rfl rfl ht (by rintro v Δ' ⟨h1,-⟩;cases h1) ?_
    rintro _ _ ⟨h1_,h_,D_,rfl,hD_⟩
    injection h1_ with h1_;subst h1_
    repeat first|(with_reducible first|refine za ?_|refine zb ?_|refine zc ?_)|refine ym zr ?_
    refine W.condP rfl (fun _=>?_) (fun h=>absurd ho3 h)
    repeat first|refine W.callP rfl rfl rfl rfl h1 ?_|(with_reducible first|refine za ?_|refine zb ?_|refine zc ?_)|refine ym zr ?_|refine yq zr ?_
    refine W.perm (((k,_)::D_)++[]) (List.Perm.refl _) ?_
    refine W.callR rfl rfl rfl rfl (hl _ _ hD_ hn' _ _) (by rintro v Δ' ⟨h1,-⟩;cases h1) ?_
    rintro _ _ ⟨h1_,h2_,D2_,rfl,hD2_⟩
    injection h1_ with h1_;subst h1_
    repeat' first|(with_reducible first|refine zc ?_|refine zj ?_|refine zk ?_)|refine W.done zr ?_
    exact ⟨rfl,h2_,D2_,by rw [List.append_nil],hD2_⟩
  · have ht:=takeStk_c (V:=V) G k a steps 0 hS (by simp at hn ⊢;omega)
    have h1:=two_c (V:=V) O (hnum c (by simp)) (hnum b (by simp)) (o:=o) (by omega) ho.2
    have hn':S'.length≤900:=by simp at hn;omega
    have ht2:=fun (h:AV) (D:Dm) (hS:RS (c::S') h D)=>takeStk_c (V:=V) G k a steps 0 hS (by omega)
    unfold rR at hl ht ht2 ⊢
    repeat first|(with_reducible first|refine za ?_|refine zb ?_)|refine ym zr ?_
    refine W.perm (((k,_)::D)++[]) (by rw [List.append_nil]) ?_
    refine W.callR rfl rfl rfl rfl ht (by rintro v Δ' ⟨h1,-⟩;cases h1) ?_
    rintro _ _ ⟨h1_,h_,D_,rfl,hD_⟩
    injection h1_ with h1_;subst h1_
    repeat first|(with_reducible first|refine za ?_|refine zb ?_|refine zc ?_)|refine ym zr ?_
    refine W.condP rfl (fun h=>absurd h ho3) (fun _=>?_)
    repeat first|(with_reducible first|refine za ?_|refine zb ?_)|refine ym zr ?_|with_reducible refine zd ?_
    refine W.perm (((k,_)::D_)++[]) (List.Perm.refl _) ?_
    refine W.callR rfl rfl rfl rfl (ht2 _ _ hD_) (by rintro v Δ' ⟨h1,-⟩;cases h1) ?_
    rintro _ _ ⟨h1_,h3_,D3_,rfl,hD3_⟩
    injection h1_ with h1_;subst h1_
    repeat first|refine W.callP rfl rfl rfl rfl h1 ?_|(with_reducible first|refine za ?_|refine zb ?_|refine zc ?_)|refine ym zr ?_|refine yq zr ?_
    refine W.perm (((k,_)::D3_)++[]) (List.Perm.refl _) ?_
    refine W.callR rfl rfl rfl rfl (hl _ _ hD3_ hn' _ _) (by rintro v Δ' ⟨h1,-⟩;cases h1) ?_
    rintro _ _ ⟨h1_,h2_,D2_,rfl,hD2_⟩
    injection h1_ with h1_;subst h1_
    repeat' first|with_reducible refine zc ?_|refine W.doneN zr ?_
    exact ⟨rfl,h2_,D2_,by rw [List.append_nil],hD2_⟩
def stpR (k:K) (steps:Int) (o:RO) (Δ:Dm):Stp→Prop
  | .go a S=>o=.ret (.tup [])∧∃h D,Δ=rR k a h steps 0::D∧RS S h D
  | .bad e=>o=.ret (.tup [])∧∃a h D,Δ=rR k a h steps e::D
  | .no=>True
theorem istep_c (O:OprG g) (G:RunG g) (hC:∀k,CallS Tryz.prog (callA Tryz.prog g (exec Tryz.prog g k))) {t:Table} (ht:t.Ok V) {regs:Sl Int} (hr:regs.In V false 1 (AV.int .i64)) (hrn:∀n∈regs.l,In64 n) (hrl:regs.l.length=t.regs.l.length) {w:Snap} (hw:w.Ok) (k:K) (a steps:Int) {S:List Int} {h:AV} {D:Dm} (hS:RS S h D) (hnum:∀v∈S,In64 v) (hn:S.length≤900)
    {z:Int} (h0:0≤a) (h1:a<t.code.l.length) (h2:t.code.l.length≤4096) (hst:Stands t (codeAt t a) a z=true) (hz:z≤4096) (hs0:0≤steps∧steps≤1000000000) (hno:insF t regs.l w a S≠.no) :
    Cl Tryz.prog g V 121 [.ptr (some (k,0)),t.v,regs.v,w.v] (rR k a h steps 0::D) fun o Δ=>stpR k (steps+1) o Δ (insF t regs.l w a S):=by
  refine Cl.enter G.step Tryz.func121 rfl ?_
  obtain ⟨jc,oc,cc,hca,hcV,hcp⟩:=codeAt_in ht h0 h1
  have e1:IntKind.i64.wrap (a+1)=a+1:=w64 (by omega) (by omega)
  have e2:IntKind.i64.wrap (steps+1)=steps+1:=w64 (by omega) (by omega)
  unfold insF at hno ⊢
  generalize codeAt t a=x at hcp hst hno ⊢
  obtain ⟨xk,xa⟩:=x
  simp only at hno ⊢
  have hl:=fun (v:Int)=>layR_c (V:=V) G k (a+1) (steps+1) 0 hS v (by omega)
  unfold rR at hl ⊢
  repeat first|(with_reducible first|refine za ?_|refine zb ?_|refine zc ?_)|(refine yo zr ?_;intro _)
  refine W.drawF _ 8 (by decide +kernel) hC ?_ ?_
  · intro j hj
    rcases (by omega:j=0∨j=1∨j=2∨j=3∨j=4∨j=5∨j=6∨j=7∨j=8) with rfl|rfl|rfl|rfl|rfl|rfl|rfl|rfl|rfl
    all_goals first|show W _ _ _ _ _ [.o false _ []] _ _ _ _|show W _ _ _ _ _ [.o false _ [_]] _ _ _ _|show W _ _ _ _ _ [.o false _ [_,_]] _ _ _ _|show W _ _ _ _ _ [.o false _ [_,_,_]] _ _ _ _|show W _ _ _ _ _ [.o false _ [_,_,_,_]] _ _ _ _|show W _ _ _ _ _ [.o false _ [_,_,_,_,_]] _ _ _ _|show W _ _ _ _ _ [.o false _ [_,_,_,_,_,_]] _ _ _ _|show W _ _ _ _ _ [.o false _ [_,_,_,_,_,_,_]] _ _ _ _|show W _ _ _ _ _ [.o false _ [_,_,_,_,_,_,_,_]] _ _ _ _
    all_goals (
      repeat' first|refine W.ia tblOk rfl rfl rfl rfl rfl rfl hca h0 h1 ?_|refine W.ldV tblOk rfl rfl rfl hcV hcp ?_|with_reducible refine zc ?_|refine ym zr ?_|refine yn 1 zr ?_|refine yn 2 zr ?_|refine W.doneN zr ?_
      trivial)
  repeat first|refine W.ia tblOk rfl rfl rfl rfl rfl rfl hca h0 h1 ?_|refine W.ldV tblOk rfl rfl rfl hcV hcp ?_|(with_reducible first|refine za ?_|refine zb ?_|refine zc ?_)|refine ym zr ?_|refine yn 0 zr ?_|refine yn 1 zr ?_|refine yn 2 zr ?_|refine yn 3 zr ?_|(refine yp zr ?_;intro _)|refine yq zr ?_|refine yv zr ?_|with_reducible refine ze ?_
  rw [e2]
  repeat first|(with_reducible first|refine za ?_|refine zb ?_|refine zc ?_)|refine ym zr ?_|refine yn 0 zr ?_|refine yn 1 zr ?_|refine yn 2 zr ?_|refine yn 3 zr ?_|(refine yo zr ?_;intro _)|(refine yp zr ?_;intro _)|refine yq zr ?_|refine ys zr ?_|refine yu zr ?_|refine yv zr ?_|(with_reducible first|refine zd ?_|refine ze ?_|refine zf ?_|refine zg ?_|refine zh ?_|refine zi ?_|refine zj ?_|refine zk ?_|refine zl ?_)|refine zz zr ?_|refine zw (by decide +kernel) ?_|refine zx zr zr zr ?_|refine zy zr zr ?_|refine W.condT zr ?_|refine W.condF zr ?_
  rw [e1]
  rename_i iw it ix
  have kinds:xk=1∨xk=2∨xk=3∨xk=4∨xk=5∨xk=6∨xk=7∨xk=8∨xk=9:=by
    unfold Stands at hst
    simp only at hst
    (repeat' split at hst)<;>first|omega|cases hst
  rcases kinds with rfl|rfl|rfl|rfl|rfl|rfl|rfl|rfl|rfl
  · have hst:0≤xa∧xa<t.consts.l.length:=by simpa [Stands] using hst
    obtain ⟨j1,o1,cs1,ha1,hV1,hp1⟩:=num_in0 ht.consts.2.1 hst.1 hst.2
    repeat first|refine W.ia tblOk rfl rfl rfl rfl rfl rfl ha1 hst.1 hst.2 ?_|refine W.ldV tblOk rfl rfl rfl hV1 hp1 ?_|with_reducible refine zb ?_|refine ym zr ?_|refine yn 1 zr ?_|refine yn 3 zr ?_|refine W.condT zr ?_
    refine W.perm (((k,_)::D)++[_,_,_]) (.cons _ List.perm_append_comm) ?_
    refine W.callR rfl rfl rfl rfl (hl _) (by rintro v Δ' ⟨h1,-⟩;cases h1) ?_
    rintro _ _ ⟨h1_,h_,D_,rfl,hD_⟩
    injection h1_ with h1_;subst h1_
    refine W.dropE ((k,_)::D_) (List.sublist_append_left _ _) ?_
    repeat' first|(with_reducible first|refine zc ?_|refine zf ?_)|refine W.doneN zr ?_
    exact ⟨rfl,h_,D_,rfl,hD_⟩
  · have hst:1≤xa∧xa≤6:=by simpa [Stands] using hst
    have hf:=fieldR_c (V:=V) O G k (a+1) (steps+1) hS ⟨2,xa⟩ w ⟨.inl rfl,hst⟩ hn
    simp only at hf
    unfold rR at hf
    repeat first|(with_reducible first|refine za ?_|refine zb ?_|refine zc ?_)|refine ym zr ?_|refine yn 1 zr ?_|refine yn 2 zr ?_|with_reducible refine zd ?_|refine W.condT zr ?_|refine W.condF zr ?_
    refine W.perm (((k,_)::D)++[_,_,_]) (.cons _ List.perm_append_comm) ?_
    refine W.callR rfl rfl rfl rfl hf (by rintro v Δ' ⟨h1,-⟩;cases h1) ?_
    rintro _ _ ⟨h1_,h_,D_,rfl,hD_⟩
    injection h1_ with h1_;subst h1_
    refine W.dropE ((k,_)::D_) (List.sublist_append_left _ _) ?_
    repeat' first|(with_reducible first|refine zc ?_|refine zf ?_)|refine W.doneN zr ?_
    show stpR k (steps+1) _ _ (if w.get xa=0∧xa≤3 then Stp.bad 170 else Stp.go (a+1) (w.get xa::S))
    by_cases hc:w.get xa=0∧xa≤3
    · rw [if_pos hc,if_pos (show True∧w.get xa=0∧xa≤3 from ⟨trivial,hc⟩)]
      exact ⟨rfl,_,h_,D_,rfl⟩
    · rw [if_neg hc,if_neg (show ¬(True∧w.get xa=0∧xa≤3) from fun h=>hc h.2)]
      exact ⟨rfl,h_,D_,rfl,hD_⟩
  · have hst:1≤xa∧xa≤3:=by simpa [Stands] using hst
    have hf:=fieldR_c (V:=V) O G k (a+1) (steps+1) hS ⟨3,xa⟩ w ⟨.inr rfl,by show 1≤xa∧xa≤6;omega⟩ hn
    simp only at hf
    unfold rR at hf
    repeat first|(with_reducible first|refine za ?_|refine zb ?_|refine zc ?_)|refine ym zr ?_|refine yn 1 zr ?_|refine yn 2 zr ?_|refine W.condT zr ?_|refine W.condF zr ?_
    refine W.perm (((k,_)::D)++[_,_,_]) (.cons _ List.perm_append_comm) ?_
    refine W.callR rfl rfl rfl rfl hf (by rintro v Δ' ⟨h1,-⟩;cases h1) ?_
    rintro _ _ ⟨h1_,h_,D_,rfl,hD_⟩
    injection h1_ with h1_;subst h1_
    refine W.dropE ((k,_)::D_) (List.sublist_append_left _ _) ?_
    repeat' first|(with_reducible first|refine zc ?_|refine zf ?_)|refine W.doneN zr ?_
    refine ⟨rfl,h_,D_,rfl,?_⟩
    by_cases hc:w.get xa=0
    · rw [if_neg (show ¬(True∧¬w.get xa=0) from fun h=>h.2 hc),hc] at hD_
      rw [if_pos hc];exact hD_
    · rw [if_pos (show True∧¬w.get xa=0 from ⟨trivial,hc⟩)] at hD_
      rw [if_neg hc];exact hD_
  · have hst:0≤xa∧xa<t.regs.l.length:=by simpa [Stands] using hst
    rw [←hrl] at hst
    obtain ⟨j1,o1,cs1,ha1,hV1,hp1⟩:=num_in0 hr hst.1 hst.2
    repeat first|refine W.ia tblOk rfl rfl rfl rfl rfl rfl ha1 hst.1 hst.2 ?_|refine W.ldV tblOk rfl rfl rfl hV1 hp1 ?_|(with_reducible first|refine za ?_|refine zb ?_|refine zc ?_)|refine ym zr ?_|refine yn 1 zr ?_|refine W.condT zr ?_|refine W.condF zr ?_
    refine W.perm (((k,_)::D)++[_,_,_]) (.cons _ List.perm_append_comm) ?_
    refine W.callR rfl rfl rfl rfl (hl _) (by rintro v Δ' ⟨h1,-⟩;cases h1) ?_
    rintro _ _ ⟨h1_,h_,D_,rfl,hD_⟩
    injection h1_ with h1_;subst h1_
    refine W.dropE ((k,_)::D_) (List.sublist_append_left _ _) ?_
    repeat' first|(with_reducible first|refine zc ?_|refine zf ?_)|refine W.doneN zr ?_
    exact ⟨rfl,h_,D_,rfl,hD_⟩
  · have hst:1≤xa∧xa≤16:=by simpa [Stands] using hst
    have e3:IntKind.u8.wrap xa=xa:=w8 (by omega) (by omega)
    have hq:∃q S',((xa≤3∧∃b,S=b::S'∧q=oneS xa b)∨(¬xa≤3∧∃b c,S=b::c::S'∧q=twoS xa c b)):=by
      by_cases h3:xa≤3
      · match S,hno with
        | [],hno=>exact absurd (show (if xa≤3 then Stp.no else Stp.no)=.no by simp) hno
        | b::S,_=>exact ⟨_,S,.inl ⟨h3,b,rfl,rfl⟩⟩
      · match S,hno with
        | [],hno=>exact absurd (show (if xa≤3 then Stp.no else Stp.no)=.no by simp) hno
        | [b],hno=>exact absurd (show (if xa≤3 then _ else Stp.no)=.no by rw [if_neg h3]) hno
        | b::c::S,_=>exact ⟨_,S,.inr ⟨h3,b,c,rfl,rfl⟩⟩
    obtain ⟨q,S',hq⟩:=hq
    have hf:=operR_c (V:=V) O G k (a+1) (steps+1) hS hnum hst hn q S' hq
    unfold rR at hf
    repeat first|(with_reducible first|refine za ?_|refine zb ?_|refine zc ?_)|refine ym zr ?_|refine yn 1 zr ?_|refine W.condT zr ?_|refine W.condF zr ?_
    rw [e3]
    repeat first|(with_reducible first|refine za ?_|refine zb ?_|refine zc ?_)|refine ym zr ?_|refine yn 0 zr ?_|refine yn 1 zr ?_|refine yn 2 zr ?_|refine yn 3 zr ?_|(refine yo zr ?_;intro _)|(refine yp zr ?_;intro _)|refine yq zr ?_|refine ys zr ?_|refine yu zr ?_|refine yv zr ?_|(with_reducible first|refine zd ?_|refine ze ?_|refine zf ?_|refine zg ?_|refine zh ?_|refine zi ?_|refine zj ?_|refine zk ?_|refine zl ?_)|refine zz zr ?_|refine zw (by decide +kernel) ?_|refine zx zr zr zr ?_|refine zy zr zr ?_|refine W.condT zr ?_|refine W.condF zr ?_
    refine W.perm (((k,_)::D)++[_,_,_]) (.cons _ List.perm_append_comm) ?_
    refine W.callR rfl rfl rfl rfl hf (by rintro v Δ' ⟨h1,-⟩;cases h1) ?_
    rintro _ _ ⟨h1_,h_,D_,rfl,hD_⟩
    injection h1_ with h1_;subst h1_
    refine W.dropE ((k,_)::D_) (List.sublist_append_left _ _) ?_
    repeat' first|(with_reducible first|refine zc ?_|refine zf ?_)|refine W.doneN zr ?_
    rcases hq with ⟨h3,b,rfl,rfl⟩|⟨h3,b,c,rfl,rfl⟩
    · show stpR k (steps+1) _ _ (if xa≤3 then pushF a S' (oneS xa b) else _)
      rw [if_pos h3]
      unfold pushF
      by_cases hc:(oneS xa b).2=0
      · rw [if_pos hc,hc];exact ⟨rfl,h_,D_,rfl,hD_⟩
      · rw [if_neg hc];exact ⟨rfl,_,h_,D_,rfl⟩
    · show stpR k (steps+1) _ _ (if xa≤3 then _ else pushF a S' (twoS xa c b))
      rw [if_neg h3]
      unfold pushF
      by_cases hc:(twoS xa c b).2=0
      · rw [if_pos hc,hc];exact ⟨rfl,h_,D_,rfl,hD_⟩
      · rw [if_neg hc];exact ⟨rfl,_,h_,D_,rfl⟩
  · have hst:a<xa∧xa≤z:=by simpa [Stands] using hst
    match S,hS,hno,hn,hnum with
    | [],_,hno,_,_=>exact absurd rfl hno
    | v::S,hS,hno,hn,hnum =>
    have hn:S.length≤900:=by simp at hn;omega
    have ht1:=topR_c (V:=V) G k (a+1) (steps+1) 0 hS (by omega)
    have ht2:=takeStk_c (V:=V) G k (a+1) (steps+1) 0 hS (by omega)
    unfold rR at ht1 ht2
    show W _ _ _ _ _ _ _ _ _ fun o Δ=>stpR k (steps+1) o Δ (if (v=0)↔(6:Int)=6 then Stp.go xa (v::S) else Stp.go (a+1) S)
    clear hl
    repeat first|(with_reducible first|refine za ?_|refine zb ?_|refine zc ?_)|refine ym zr ?_|refine W.condF zr ?_
    refine W.perm (((k,_)::D)++[_,_,_]) (.cons _ List.perm_append_comm) ?_
    refine W.callR rfl rfl rfl rfl ht1 (by rintro v Δ' ⟨h1,-⟩;cases h1) ?_
    rintro _ _ ⟨h1_,rfl⟩
    injection h1_ with h1_;subst h1_
    refine W.perm ((k,_)::_::_::_::D) (.cons _ (List.perm_append_comm (l₁:=[_,_,_]))) ?_
    repeat first|(with_reducible first|refine za ?_|refine zb ?_|refine zc ?_)|refine ym zr ?_|refine yn 1 zr ?_
    refine W.cond rfl ?_ ?_<;>intro hc
    · have hc:(v=0)↔(6:Int)=6:=by simpa using hc
      rw [if_pos hc]
      repeat first|(with_reducible first|refine zb ?_|refine zc ?_)|refine ym zr ?_|refine yn 1 zr ?_|refine yq zr ?_|with_reducible refine zf ?_
      refine W.dropE ((k,_)::D) (.cons_cons _ (.cons _ (.cons _ (.cons _ (List.Sublist.refl _))))) ?_
      repeat' first|refine W.doneN zr ?_
      exact ⟨rfl,h,D,rfl,hS⟩
    · have hc:¬((v=0)↔(6:Int)=6):=by simpa using hc
      rw [if_neg hc]
      repeat first|with_reducible refine zb ?_|refine ym zr ?_
      refine W.perm (((k,_)::D)++[_,_,_]) (.cons _ List.perm_append_comm) ?_
      refine W.callR rfl rfl rfl rfl ht2 (by rintro v Δ' ⟨h1,-⟩;cases h1) ?_
      rintro _ _ ⟨h1_,h_,D_,rfl,hD_⟩
      injection h1_ with h1_;subst h1_
      refine W.dropE ((k,_)::D_) (List.sublist_append_left _ _) ?_
      repeat' first|(with_reducible first|refine zc ?_|refine zf ?_)|refine W.doneN zr ?_
      exact ⟨rfl,h_,D_,rfl,hD_⟩
  · have hst:a<xa∧xa≤z:=by simpa [Stands] using hst
    match S,hS,hno,hn,hnum with
    | [],_,hno,_,_=>exact absurd rfl hno
    | v::S,hS,hno,hn,hnum =>
    have hn:S.length≤900:=by simp at hn;omega
    have ht1:=topR_c (V:=V) G k (a+1) (steps+1) 0 hS (by omega)
    have ht2:=takeStk_c (V:=V) G k (a+1) (steps+1) 0 hS (by omega)
    unfold rR at ht1 ht2
    show W _ _ _ _ _ _ _ _ _ fun o Δ=>stpR k (steps+1) o Δ (if (v=0)↔(7:Int)=6 then Stp.go xa (v::S) else Stp.go (a+1) S)
    clear hl
    repeat first|(with_reducible first|refine za ?_|refine zb ?_|refine zc ?_)|refine ym zr ?_|refine W.condF zr ?_
    refine W.perm (((k,_)::D)++[_,_,_]) (.cons _ List.perm_append_comm) ?_
    refine W.callR rfl rfl rfl rfl ht1 (by rintro v Δ' ⟨h1,-⟩;cases h1) ?_
    rintro _ _ ⟨h1_,rfl⟩
    injection h1_ with h1_;subst h1_
    refine W.perm ((k,_)::_::_::_::D) (.cons _ (List.perm_append_comm (l₁:=[_,_,_]))) ?_
    repeat first|(with_reducible first|refine za ?_|refine zb ?_|refine zc ?_)|refine ym zr ?_|refine yn 1 zr ?_
    refine W.cond rfl ?_ ?_<;>intro hc
    · have hc:(v=0)↔(7:Int)=6:=by simpa using hc
      rw [if_pos hc]
      repeat first|(with_reducible first|refine zb ?_|refine zc ?_)|refine ym zr ?_|refine yn 1 zr ?_|refine yq zr ?_|with_reducible refine zf ?_
      refine W.dropE ((k,_)::D) (.cons_cons _ (.cons _ (.cons _ (.cons _ (List.Sublist.refl _))))) ?_
      repeat' first|refine W.doneN zr ?_
      exact ⟨rfl,h,D,rfl,hS⟩
    · have hc:¬((v=0)↔(7:Int)=6):=by simpa using hc
      rw [if_neg hc]
      repeat first|with_reducible refine zb ?_|refine ym zr ?_
      refine W.perm (((k,_)::D)++[_,_,_]) (.cons _ List.perm_append_comm) ?_
      refine W.callR rfl rfl rfl rfl ht2 (by rintro v Δ' ⟨h1,-⟩;cases h1) ?_
      rintro _ _ ⟨h1_,h_,D_,rfl,hD_⟩
      injection h1_ with h1_;subst h1_
      refine W.dropE ((k,_)::D_) (List.sublist_append_left _ _) ?_
      repeat' first|(with_reducible first|refine zc ?_|refine zf ?_)|refine W.doneN zr ?_
      exact ⟨rfl,h_,D_,rfl,hD_⟩
  · have hst:a<xa∧xa≤z:=by simpa [Stands] using hst
    match S,hS,hno,hn,hnum with
    | [],_,hno,_,_=>exact absurd rfl hno
    | v::S,hS,hno,hn,hnum =>
    have hn:S.length≤900:=by simp at hn;omega
    have ht2:=takeStk_c (V:=V) G k (a+1) (steps+1) 0 hS (by omega)
    unfold rR at ht2
    show W _ _ _ _ _ _ _ _ _ fun o Δ=>stpR k (steps+1) o Δ (if v=0 then Stp.go xa S else Stp.go (a+1) S)
    clear hl
    repeat first|(with_reducible first|refine za ?_|refine zb ?_|refine zc ?_)|refine ym zr ?_|refine W.condT zr ?_|refine W.condF zr ?_
    refine W.perm (((k,_)::D)++[_,_,_]) (.cons _ List.perm_append_comm) ?_
    refine W.callR rfl rfl rfl rfl ht2 (by rintro v Δ' ⟨h1,-⟩;cases h1) ?_
    rintro _ _ ⟨h1_,h_,D_,rfl,hD_⟩
    injection h1_ with h1_;subst h1_
    refine W.perm ((k,_)::_::_::_::D_) (.cons _ (List.perm_append_comm (l₁:=[_,_,_]))) ?_
    repeat first|(with_reducible first|refine za ?_|refine zb ?_|refine zc ?_)|refine ym zr ?_
    refine W.condP rfl ?_ ?_<;>intro hc
    · rw [if_pos hc]
      repeat first|(with_reducible first|refine zb ?_|refine zc ?_)|refine ym zr ?_|refine yn 1 zr ?_|refine yq zr ?_|with_reducible refine zf ?_
      refine W.dropE ((k,_)::D_) (.cons_cons _ (.cons _ (.cons _ (.cons _ (List.Sublist.refl _))))) ?_
      repeat' first|refine W.doneN zr ?_
      exact ⟨rfl,h_,D_,rfl,hD_⟩
    · rw [if_neg hc]
      refine W.dropE ((k,_)::D_) (.cons_cons _ (.cons _ (.cons _ (.cons _ (List.Sublist.refl _))))) ?_
      repeat' first|(with_reducible first|refine zd ?_|refine zf ?_)|refine W.doneN zr ?_
      exact ⟨rfl,h_,D_,rfl,hD_⟩
  · have hst:a<xa∧xa≤z:=by simpa [Stands] using hst
    repeat first|(with_reducible first|refine za ?_|refine zb ?_|refine zc ?_)|refine ym zr ?_|refine yn 1 zr ?_|refine yq zr ?_|with_reducible refine zf ?_|refine W.condT zr ?_|refine W.condF zr ?_
    refine W.dropE ((k,_)::D) (.cons_cons _ (.cons _ (.cons _ (.cons _ (List.Sublist.refl _))))) ?_
    repeat' first|refine W.doneN zr ?_
    exact ⟨rfl,h,D,rfl,hS⟩
end Go.Proofs.YtoegffiapnnkiaaGreat.Abs
