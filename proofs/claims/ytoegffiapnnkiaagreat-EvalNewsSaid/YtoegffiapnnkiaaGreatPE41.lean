/- Parts of one proof. No condition but those that each theorem names. -/
import Derived.Test.YtoegffiapnnkiaaGreatPE40
namespace Go.Proofs.YtoegffiapnnkiaaGreat.Abs
open Go
set_option linter.unusedVariables false
set_option linter.unusedSimpArgs false
set_option maxRecDepth 100000
set_option maxHeartbeats 4000000
def knH (r:K×List Cch):List AV:=[.slice (some (r.1,0)) r.2.length (.ex r.2.length)]
def knB (r:K×List Cch):K×Bk:=(r.1,.cells (r.2.flatMap Cch.cs) 170 3 true)
theorem leafK (r:K×List Cch):∀v∈knH r,v.leaf=true:=by simp [knH,AV.leaf]
def dvC (t:Table) (jr jo:K) (kn:KR) (e:Ev):List AV:=[.str t.name,t.regs.v,.int .i64 t.slots,t.consts.v,t.code.v,t.states.v,.int .i64 e.w.bid,.int .i64 e.w.ask,.int .i64 e.w.last,.int .i64 e.w.volume,.int .i64 e.w.now,.int .i64 e.w.open_,.int .i64 e.s,(gS jr e.regs).v,.int .u8 e.st,.int .i64 e.code,(gS jo kn).v,.int .i64 e.steps]
def dvB (k:K) (t:Table) (jr jo:K) (kn:KR) (e:Ev):K×Bk:=(k,.cells (dvC t jr jo kn e) 176 18 true)
def knD (jo:K) (kn:KR):Dm:=gD knH 168 1 jo kn++kn.map knB
def noF:Int→Int→Option Cch:=fun _ _=>none
theorem rowM_no (i n:Nat):rowM noF i n=List.replicate n Cch.none:=by
  induction n with
  | zero=>rfl
  | succ n ih=>rw [rowM_succ,ih,List.replicate_succ'];rfl
theorem repL_c (n:Nat):repL n [.bool false,.int .i64 0,.int .i64 0]=(List.replicate n Cch.none).flatMap Cch.cs:=by
  induction n with
  | zero=>rfl
  | succ n ih=>show _++repL n _=_;rw [ih,List.replicate_succ,List.flatMap_cons];rfl
attribute [local irreducible] W Cl Bd
variable {g:Cg} {V:K→Option (List AV)}
theorem nothing_c (hp:Plain g 131=true) {t:Table} (ht:t.Ok V) (hn:t.states.l.length≤1000) (hn2:∀s∈t.states.l,s.l.length≤1000) :
    Cl Tryz.prog g V 131 [t.v] [] fun o Δ=>∃p:K×KR,o=.ret (gS p.1 p.2).v∧p.2.map (·.2)=matF noF 0 t.states.l∧∃R,Δ.Perm (knD p.1 p.2++R):=by
  refine Cl.enter hp Tryz.func131 rfl ?_
  repeat first|(with_reducible first|refine za ?_|refine zb ?_|refine zc ?_)|refine ym zr ?_|refine yn 0 zr ?_|refine yn 1 zr ?_|refine yn 2 zr ?_|refine yn 3 zr ?_|(refine yo zr ?_;intro _)|(refine yp zr ?_;intro _)|refine yq zr ?_|refine ys zr ?_|refine yu zr ?_|refine yv zr ?_|(with_reducible first|refine zd ?_|refine ze ?_|refine zf ?_|refine zg ?_|refine zh ?_|refine zi ?_|refine zj ?_|refine zk ?_|refine zl ?_)|refine zz zr ?_|refine zw (by decide +kernel) ?_|refine zx zr zr zr ?_|refine zy zr zr ?_|refine W.condT zr ?_|refine W.condF zr ?_
  rename_i it
  refine W.loopR (α:={ q:Nat×K×KR // q.1≤t.states.l.length∧q.2.2.length=q.1∧q.2.2.map (·.2)=matF noF 0 (t.states.l.take q.1) }) (fun q=>t.states.l.length-q.1.1) (fun q=>[(1,.ptr (some (it,0))),(3,(gS q.1.2.1 q.1.2.2).v),(4,.int .i64 (q.1.1:Int))])
    (fun q=>(it,.cells [.str t.name,t.regs.v,.int .i64 t.slots,t.consts.v,t.code.v,t.states.v] 26 6 true)::(gD knH 168 1 q.1.2.1 q.1.2.2++q.1.2.2.map knB)) ⟨(0,.z,[]),Nat.zero_le _,rfl,rfl⟩ ⟨rfl,rfl,rfl⟩ (List.Sublist.refl _) ?_
  rintro ⟨⟨i,jo,kn⟩,hi1,hi2,hi3⟩ ih
  simp only at ih hi1 hi2 hi3 ⊢
  repeat first|(with_reducible first|refine za ?_|refine zb ?_|refine zc ?_)|refine ym zr ?_|refine yn 0 zr ?_|refine yn 1 zr ?_|refine yn 2 zr ?_|refine yn 3 zr ?_|(refine yo zr ?_;intro _)|(refine yp zr ?_;intro _)|refine yq zr ?_|refine ys zr ?_|refine yu zr ?_|refine yv zr ?_|(with_reducible first|refine zd ?_|refine ze ?_|refine zf ?_|refine zg ?_|refine zh ?_|refine zi ?_|refine zj ?_|refine zk ?_|refine zl ?_)|refine zz zr ?_|refine zw (by decide +kernel) ?_|refine zx zr zr zr ?_|refine zy zr zr ?_|refine W.condT zr ?_|refine W.condF zr ?_
  refine W.condP rfl ?_ ?_<;>intro hlt
  rotate_left
  · clear ih
    have hi:i=t.states.l.length:=by omega
    rw [hi,List.take_length] at hi3
    repeat' first|(with_reducible first|refine za ?_|refine zb ?_|refine zc ?_)|refine ym zr ?_|refine yn 0 zr ?_|refine yn 1 zr ?_|refine yn 2 zr ?_|refine yn 3 zr ?_|(refine yo zr ?_;intro _)|(refine yp zr ?_;intro _)|refine yq zr ?_|refine ys zr ?_|refine yu zr ?_|refine yv zr ?_|(with_reducible first|refine zd ?_|refine ze ?_|refine zf ?_|refine zg ?_|refine zh ?_|refine zi ?_|refine zj ?_|refine zk ?_|refine zl ?_)|refine zz zr ?_|refine zw (by decide +kernel) ?_|refine zx zr zr zr ?_|refine zy zr zr ?_|(refine W.condP zr ?_ ?_<;>intro _)|refine W.condT zr ?_|refine W.condF zr ?_|(refine W.cond zr ?_ ?_<;>intro _)|(refine W.gs zr zr zr zr ?_ ?_<;>intro _)|(refine W.gsB zr zr zr zr ?_ ?_<;>intro _)|refine W.done zr ?_|refine W.doneN zr ?_
    exact ⟨(jo,kn),rfl,hi3,[_],List.perm_append_comm (l₁:=[_])⟩
  have hlt:i<t.states.l.length:=by omega
  have hlt0:(i:Int)<(t.states.l.length:Int):=by omega
  have hi0:(0:Int)≤(i:Int):=by omega
  obtain ⟨jn,o,cs,ha,hV,hpt⟩:=Sl.In.get ht.states.2.1 hlt
  have hll:=hn2 _ (List.getElem_mem hlt)
  have htk:=matF_take noF hlt
  generalize t.states.l[i]=l at hpt hll htk
  have ewi:IntKind.i64.wrap ((i:Int)+1)=((i+1:Nat):Int):=by rw [w64 (by omega) (by omega)];omega
  have hnext:=fun jo' i5=>ih ⟨(i+1,jo',kn++[(i5,rowM noF i l.l.length)]),by show i+1≤_;omega,by show (kn++[_]).length=i+1;simp [hi2],by rw [List.map_append,hi3,htk];rfl⟩ (by show t.states.l.length-(i+1)<t.states.l.length-i;omega)
  simp only [rowM_no] at hnext
  clear ih
  repeat first|refine W.ia tblOk rfl rfl rfl rfl rfl rfl ha hi0 hlt0 ?_|refine W.ldV tblOk rfl rfl rfl hV hpt ?_|(refine W.mkE (len:=l.l.length) (cap:=l.l.length) tblOk rfl rfl rfl rfl rfl (Nat.le_refl _) (by omega) (by decide) rfl rfl ?_;intro i5)|(refine W.bsl tblOk rfl rfl rfl rfl (by decide) rfl rfl rfl ?_;intro i6)|(with_reducible first|refine za ?_|refine zb ?_|refine zc ?_)|refine ym zr ?_|refine yn 0 zr ?_|refine yn 1 zr ?_|refine yn 2 zr ?_|refine yn 3 zr ?_|(refine yo zr ?_;intro _)|(refine yp zr ?_;intro _)|refine yq zr ?_|refine ys zr ?_|refine yu zr ?_|refine yv zr ?_|(with_reducible first|refine zd ?_|refine ze ?_|refine zf ?_|refine zg ?_|refine zh ?_|refine zi ?_|refine zj ?_|refine zk ?_|refine zl ?_)|refine zz zr ?_|refine zw (by decide +kernel) ?_|refine zx zr zr zr ?_|refine zy zr zr ?_|refine W.condT zr ?_|refine W.condF zr ?_
  rw [repL_c]
  refine W.appG (i:=jo) (l:=kn) (m:=[(i5,List.replicate l.l.length Cch.none)]) (enc:=knH) (Δ1:=[_,_,_]) tblOk rfl rfl rfl rfl rfl rfl rfl (by decide) (by simp only [List.length_singleton,hi2];omega) (fun _=>rfl) (src_own (p:=0) rfl rfl (by show some [AV.slice (some (i5,0)) l.l.length (.ex l.l.length)]=some [AV.slice (some (i5,0)) (List.replicate l.l.length Cch.none).length (.ex (List.replicate l.l.length Cch.none).length)];rw [List.length_replicate])) (fun h=>by cases h) (leaf_all _ leafK _) rfl rfl fun jo'=>?_
  repeat first|(with_reducible first|refine za ?_|refine zb ?_|refine zc ?_)|refine ym zr ?_|refine yn 0 zr ?_|refine yn 1 zr ?_|refine yn 2 zr ?_|refine yn 3 zr ?_|(refine yo zr ?_;intro _)|(refine yp zr ?_;intro _)|refine yq zr ?_|refine ys zr ?_|refine yu zr ?_|refine yv zr ?_|(with_reducible first|refine zd ?_|refine ze ?_|refine zf ?_|refine zg ?_|refine zh ?_|refine zi ?_|refine zj ?_|refine zk ?_|refine zl ?_)|refine zz zr ?_|refine zw (by decide +kernel) ?_|refine zx zr zr zr ?_|refine zy zr zr ?_|refine W.condT zr ?_|refine W.condF zr ?_
  rw [ewi]
  refine W.dropE (knB (i5,List.replicate l.l.length Cch.none)::(it,.cells [.str t.name,t.regs.v,.int .i64 t.slots,t.consts.v,t.code.v,t.states.v] 26 6 true)::(gD knH 168 1 jo' (kn++[(i5,List.replicate l.l.length Cch.none)])++kn.map knB)) (.cons _ (List.Sublist.refl _)) ?_
  refine W.perm _ ?_ (W.weak _ _ ?_ (List.Sublist.refl _) (hnext jo' i5))
  · refine permC fun _ a=>by simp only [consS,List.count_append,List.count_nil,List.append_assoc,List.map_append,List.map_cons,List.map_nil];omega
  · exact ⟨rfl,rfl,rfl⟩
theorem dvBegin_c (hp:Plain g 92=true) (hp2:Plain g 131=true) {k jr jo:K} {kn:KR} {t:Table} (ht:t.Ok V) (hr:t.regs.l.length≤10000000) (hn:t.states.l.length≤1000) (hn2:∀s∈t.states.l,s.l.length≤1000) (e:Ev) :
    Cl Tryz.prog g V 92 [.ptr (some (k,0))] [dvB k t jr jo kn e] fun o Δ=>o=.ret (.tup [])∧∃jr' jo' kn' R,kn'.map (·.2)=matF noF 0 t.states.l∧Δ.Perm (dvB k t jr' jo' kn' { e with s:=0,regs:=t.regs.l }::(gD iC 2 1 jr' t.regs.l++(knD jo' kn'++R))):=by
  refine Cl.enter hp Tryz.func92 rfl ?_
  have hno:=nothing_c (V:=V) hp2 ht hn hn2
  have hb:(([]:List Int).length+t.regs.l.length) * 8≤140737488355328:=by simp;omega
  unfold dvB dvC
  repeat first|(with_reducible first|refine za ?_|refine zb ?_|refine zc ?_)|refine ym zr ?_|refine yn 0 zr ?_|refine yn 1 zr ?_|refine yn 2 zr ?_|refine yn 3 zr ?_|(refine yo zr ?_;intro _)|(refine yp zr ?_;intro _)|refine yq zr ?_|refine ys zr ?_|refine yu zr ?_|refine yv zr ?_|(with_reducible first|refine zd ?_|refine ze ?_|refine zf ?_|refine zg ?_|refine zh ?_|refine zi ?_|refine zj ?_|refine zk ?_|refine zl ?_)|refine zz zr ?_|refine zw (by decide +kernel) ?_|refine zx zr zr zr ?_|refine zy zr zr ?_|refine W.condT zr ?_|refine W.condF zr ?_
  refine W.appG (i:=.z) (l:=[]) (m:=t.regs.l) (enc:=iC) (Δ1:=[_,_]) (Δ0:=[]) tblOk rfl rfl rfl rfl rfl rfl rfl (by decide) hb (fun _=>rfl) (srcI ht.regs.2.1) (fun h=>src_none h) (leaf_all _ leafI _) rfl rfl fun jr'=>?_
  repeat' first|(refine W.callN (val:=fun p:K×KR=>(gS p.1 p.2).v) rfl rfl rfl rfl hno ?_;rintro p Δ_ ⟨h3,R,hpm⟩)|(with_reducible first|refine za ?_|refine zb ?_|refine zc ?_)|refine ym zr ?_|refine yn 0 zr ?_|refine yn 1 zr ?_|refine yn 2 zr ?_|refine yn 3 zr ?_|(refine yo zr ?_;intro _)|(refine yp zr ?_;intro _)|refine yq zr ?_|refine ys zr ?_|refine yu zr ?_|refine yv zr ?_|(with_reducible first|refine zd ?_|refine ze ?_|refine zf ?_|refine zg ?_|refine zh ?_|refine zi ?_|refine zj ?_|refine zk ?_|refine zl ?_)|refine zz zr ?_|refine zw (by decide +kernel) ?_|refine zx zr zr zr ?_|refine zy zr zr ?_|(refine W.condP zr ?_ ?_<;>intro _)|refine W.condT zr ?_|refine W.condF zr ?_|(refine W.cond zr ?_ ?_<;>intro _)|(refine W.gs zr zr zr zr ?_ ?_<;>intro _)|(refine W.gsB zr zr zr zr ?_ ?_<;>intro _)|refine W.done zr ?_|refine W.doneN zr ?_
  exact ⟨rfl,jr',p.1,p.2,_,h3,.cons _ (pmG hpm _ _)⟩
theorem dvNew_c (A:AskG g) (hp:Plain g 35=true) (hp1:Plain g 92=true) (hp2:Plain g 131=true) {t:Table} (ht:t.Ok V) (hc:Cl Tryz.prog g V 29 [t.v] [] fun o _=>o=.ret (.int .i64 ((checkS t).getD 0))) (w:Snap) :
    Cl Tryz.prog g V 35 [t.v,w.v] [] fun o Δ=>(newE t w≠0∧o=.ret (.tup [.ptr none,.int .i64 (newE t w)]))∨(newE t w=0∧∃k,o=.ret (.tup [.ptr (some (k,0)),.int .i64 0])∧∃(jr jo:K) (kn:KR) (R:Dm),kn.map (·.2)=matF noF 0 t.states.l∧Δ.Perm (dvB k t jr jo kn (ev0 t w)::(gD iC 2 1 jr t.regs.l++(knD jo kn++R)))):=by
  refine Cl.enter hp Tryz.func35 rfl ?_
  have hs:=snapCheckR_c (V:=V) A w
  unfold newE
  by_cases h0:(checkS t).getD 0=0
  rotate_left
  · rw [if_neg h0]
    generalize (checkS t).getD 0=e at hc h0 ⊢
    repeat first|refine W.callP rfl rfl rfl rfl hc ?_|(with_reducible first|refine za ?_|refine zb ?_|refine zc ?_)|refine ym zr ?_|refine yn 0 zr ?_|refine yn 1 zr ?_|refine yn 2 zr ?_|refine yn 3 zr ?_|(refine yo zr ?_;intro _)|(refine yp zr ?_;intro _)|refine yq zr ?_|refine ys zr ?_|refine yu zr ?_|refine yv zr ?_|(with_reducible first|refine zd ?_|refine ze ?_|refine zf ?_|refine zg ?_|refine zh ?_|refine zi ?_|refine zj ?_|refine zk ?_|refine zl ?_)|refine zz zr ?_|refine zw (by decide +kernel) ?_|refine zx zr zr zr ?_|refine zy zr zr ?_|refine W.condT zr ?_|refine W.condF zr ?_
    refine W.condP rfl (fun _=>?_) (fun h=>absurd h0 h)
    repeat' first|(with_reducible first|refine za ?_|refine zb ?_|refine zc ?_)|refine ym zr ?_|refine yn 0 zr ?_|refine yn 1 zr ?_|refine yn 2 zr ?_|refine yn 3 zr ?_|(refine yo zr ?_;intro _)|(refine yp zr ?_;intro _)|refine yq zr ?_|refine ys zr ?_|refine yu zr ?_|refine yv zr ?_|(with_reducible first|refine zd ?_|refine ze ?_|refine zf ?_|refine zg ?_|refine zh ?_|refine zi ?_|refine zj ?_|refine zk ?_|refine zl ?_)|refine zz zr ?_|refine zw (by decide +kernel) ?_|refine zx zr zr zr ?_|refine zy zr zr ?_|(refine W.condP zr ?_ ?_<;>intro _)|refine W.condT zr ?_|refine W.condF zr ?_|(refine W.cond zr ?_ ?_<;>intro _)|(refine W.gs zr zr zr zr ?_ ?_<;>intro _)|(refine W.gsB zr zr zr zr ?_ ?_<;>intro _)|refine W.done zr ?_|refine W.doneN zr ?_
    exact .inl ⟨h0,rfl⟩
  rw [if_pos h0]
  have hck:checkS t=none:=checkS_ne h0
  rw [h0] at hc
  have hrl:=(check_code hck).2
  by_cases h1:snapE w=0
  rotate_left
  · generalize snapE w=e at hs h1 ⊢
    repeat first|refine W.callP rfl rfl rfl rfl hc ?_|refine W.callP rfl rfl rfl rfl hs ?_|(with_reducible first|refine za ?_|refine zb ?_|refine zc ?_)|refine ym zr ?_|refine yn 0 zr ?_|refine yn 1 zr ?_|refine yn 2 zr ?_|refine yn 3 zr ?_|(refine yo zr ?_;intro _)|(refine yp zr ?_;intro _)|refine yq zr ?_|refine ys zr ?_|refine yu zr ?_|refine yv zr ?_|(with_reducible first|refine zd ?_|refine ze ?_|refine zf ?_|refine zg ?_|refine zh ?_|refine zi ?_|refine zj ?_|refine zk ?_|refine zl ?_)|refine zz zr ?_|refine zw (by decide +kernel) ?_|refine zx zr zr zr ?_|refine zy zr zr ?_|refine W.condT zr ?_|refine W.condF zr ?_
    refine W.condP rfl (fun _=>?_) (fun h=>absurd h1 h)
    repeat' first|(with_reducible first|refine za ?_|refine zb ?_|refine zc ?_)|refine ym zr ?_|refine yn 0 zr ?_|refine yn 1 zr ?_|refine yn 2 zr ?_|refine yn 3 zr ?_|(refine yo zr ?_;intro _)|(refine yp zr ?_;intro _)|refine yq zr ?_|refine ys zr ?_|refine yu zr ?_|refine yv zr ?_|(with_reducible first|refine zd ?_|refine ze ?_|refine zf ?_|refine zg ?_|refine zh ?_|refine zi ?_|refine zj ?_|refine zk ?_|refine zl ?_)|refine zz zr ?_|refine zw (by decide +kernel) ?_|refine zx zr zr zr ?_|refine zy zr zr ?_|(refine W.condP zr ?_ ?_<;>intro _)|refine W.condT zr ?_|refine W.condF zr ?_|(refine W.cond zr ?_ ?_<;>intro _)|(refine W.gs zr zr zr zr ?_ ?_<;>intro _)|(refine W.gsB zr zr zr zr ?_ ?_<;>intro _)|refine W.done zr ?_|refine W.doneN zr ?_
    exact .inl ⟨h1,rfl⟩
  rw [h1] at hs ⊢
  repeat first|refine W.callP rfl rfl rfl rfl hc ?_|refine W.callP rfl rfl rfl rfl hs ?_|(with_reducible first|refine za ?_|refine zb ?_|refine zc ?_)|refine ym zr ?_|refine yn 0 zr ?_|refine yn 1 zr ?_|refine yn 2 zr ?_|refine yn 3 zr ?_|(refine yo zr ?_;intro _)|(refine yp zr ?_;intro _)|refine yq zr ?_|refine ys zr ?_|refine yu zr ?_|refine yv zr ?_|(with_reducible first|refine zd ?_|refine ze ?_|refine zf ?_|refine zg ?_|refine zh ?_|refine zi ?_|refine zj ?_|refine zk ?_|refine zl ?_)|refine zz zr ?_|refine zw (by decide +kernel) ?_|refine zx zr zr zr ?_|refine zy zr zr ?_|refine W.condT zr ?_|refine W.condF zr ?_
  rename_i it iw kx
  obtain ⟨hn,hn2,-⟩:=check_small hck
  have hb:=dvBegin_c (V:=V) (k:=kx) (jr:=.z) (jo:=.z) (kn:=[]) hp1 hp2 ht (by omega) hn hn2 ⟨w,0,[],0,0,0⟩
  refine W.callR (Δ:=[_]) (R:=[_,_]) rfl rfl rfl rfl hb (by rintro v Δ' ⟨h,-⟩;cases h) ?_
  rintro v_ Δ_ ⟨h1_,jr',jo',kn',R,h3,hpm⟩
  injection h1_ with h1_;subst h1_
  repeat' first|(with_reducible first|refine za ?_|refine zb ?_|refine zc ?_)|refine ym zr ?_|refine yn 0 zr ?_|refine yn 1 zr ?_|refine yn 2 zr ?_|refine yn 3 zr ?_|(refine yo zr ?_;intro _)|(refine yp zr ?_;intro _)|refine yq zr ?_|refine ys zr ?_|refine yu zr ?_|refine yv zr ?_|(with_reducible first|refine zd ?_|refine ze ?_|refine zf ?_|refine zg ?_|refine zh ?_|refine zi ?_|refine zj ?_|refine zk ?_|refine zl ?_)|refine zz zr ?_|refine zw (by decide +kernel) ?_|refine zx zr zr zr ?_|refine zy zr zr ?_|(refine W.condP zr ?_ ?_<;>intro _)|refine W.condT zr ?_|refine W.condF zr ?_|(refine W.cond zr ?_ ?_<;>intro _)|(refine W.gs zr zr zr zr ?_ ?_<;>intro _)|(refine W.gsB zr zr zr zr ?_ ?_<;>intro _)|refine W.done zr ?_|refine W.doneN zr ?_
  exact .inr ⟨rfl,kx,rfl,jr',jo',kn',_,h3,pmN hpm _⟩
theorem dvStart_c (hp:Plain g 41=true) (hp1:Plain g 92=true) (hp2:Plain g 131=true) {k jr jo:K} {kn:KR} {t:Table} (ht:t.Ok V) (hr:t.regs.l.length≤10000000) (hn:t.states.l.length≤1000) (hn2:∀s∈t.states.l,s.l.length≤1000) (e:Ev) :
    Cl Tryz.prog g V 41 [.ptr (some (k,0))] [dvB k t jr jo kn e] fun o Δ=>o=.ret (.tup [])∧∃jr' jo' kn' R,kn'.map (·.2)=matF noF 0 t.states.l∧Δ.Perm (dvB k t jr' jo' kn' (evR t e)::(gD iC 2 1 jr' t.regs.l++(knD jo' kn'++R))):=by
  refine Cl.enter hp Tryz.func41 rfl ?_
  have hb:=dvBegin_c (V:=V) (k:=k) (jr:=jr) (jo:=jo) (kn:=kn) hp1 hp2 ht hr hn hn2 e
  repeat first|(with_reducible first|refine za ?_|refine zb ?_|refine zc ?_)|refine ym zr ?_|refine yn 0 zr ?_|refine yn 1 zr ?_|refine yn 2 zr ?_|refine yn 3 zr ?_|(refine yo zr ?_;intro _)|(refine yp zr ?_;intro _)|refine yq zr ?_|refine ys zr ?_|refine yu zr ?_|refine yv zr ?_|(with_reducible first|refine zd ?_|refine ze ?_|refine zf ?_|refine zg ?_|refine zh ?_|refine zi ?_|refine zj ?_|refine zk ?_|refine zl ?_)|refine zz zr ?_|refine zw (by decide +kernel) ?_|refine zx zr zr zr ?_|refine zy zr zr ?_|refine W.condT zr ?_|refine W.condF zr ?_
  refine W.callR (Δ:=[_]) (R:=[]) rfl rfl rfl rfl hb (by rintro v Δ' ⟨h,-⟩;cases h) ?_
  rintro v_ Δ_ ⟨h1_,jr',jo',kn',R,h3,hpm⟩
  injection h1_ with h1_;subst h1_
  refine W.perm (dvB k t jr' jo' kn' { e with s:=0,regs:=t.regs.l }::(gD iC 2 1 jr' t.regs.l++(knD jo' kn'++R))) (hpm.symm.trans (.of_eq (List.append_nil _).symm)) ?_
  unfold dvB dvC
  repeat' first|(with_reducible first|refine za ?_|refine zb ?_|refine zc ?_)|refine ym zr ?_|refine yn 0 zr ?_|refine yn 1 zr ?_|refine yn 2 zr ?_|refine yn 3 zr ?_|(refine yo zr ?_;intro _)|(refine yp zr ?_;intro _)|refine yq zr ?_|refine ys zr ?_|refine yu zr ?_|refine yv zr ?_|(with_reducible first|refine zd ?_|refine ze ?_|refine zf ?_|refine zg ?_|refine zh ?_|refine zi ?_|refine zj ?_|refine zk ?_|refine zl ?_)|refine zz zr ?_|refine zw (by decide +kernel) ?_|refine zx zr zr zr ?_|refine zy zr zr ?_|(refine W.condP zr ?_ ?_<;>intro _)|refine W.condT zr ?_|refine W.condF zr ?_|(refine W.cond zr ?_ ?_<;>intro _)|(refine W.gs zr zr zr zr ?_ ?_<;>intro _)|(refine W.gsB zr zr zr zr ?_ ?_<;>intro _)|refine W.done zr ?_|refine W.doneN zr ?_
  exact ⟨rfl,jr',jo',kn',R,h3,List.Perm.refl _⟩
theorem dvTurn0_c (hp:Plain g 39=true) {k jr jo:K} {kn:KR} {t:Table} {e:Ev} (hk:V k=some (dvC t jr jo kn e)) (he:¬e.st=1) (b:AV) (cf:Bool) :
    Cl Tryz.prog g V 39 [.ptr (some (k,0)),b,.bool cf] [] fun o _=>o=.ret (.tup [.agg [.int .i64 (-1),.bool false,.slice none 0 (.ex 0),.int .u8 e.st,.int .i64 e.code,.int .i64 0],.int .i64 0]):=by
  refine Cl.enter hp Tryz.func39 rfl ?_
  repeat first|refine W.ldV tblOk rfl rfl rfl hk rfl ?_|(with_reducible first|refine za ?_|refine zb ?_|refine zc ?_)|refine ym zr ?_|refine yn 0 zr ?_|refine yn 1 zr ?_|refine yn 2 zr ?_|refine yn 3 zr ?_|(refine yo zr ?_;intro _)|(refine yp zr ?_;intro _)|refine yq zr ?_|refine ys zr ?_|refine yu zr ?_|refine yv zr ?_|(with_reducible first|refine zd ?_|refine ze ?_|refine zf ?_|refine zg ?_|refine zh ?_|refine zi ?_|refine zj ?_|refine zk ?_|refine zl ?_)|refine zz zr ?_|refine zw (by decide +kernel) ?_|refine zx zr zr zr ?_|refine zy zr zr ?_|refine W.condT zr ?_|refine W.condF zr ?_
  refine W.condP rfl (fun _=>?_) (fun h=>absurd he h)
  repeat' first|refine W.ldV tblOk rfl rfl rfl hk rfl ?_|refine W.doneC tblOk (.cell 0 rfl rfl rfl rfl (.tmp rfl .nil)) ?_|(with_reducible first|refine za ?_|refine zb ?_|refine zc ?_)|refine ym zr ?_|refine yn 0 zr ?_|refine yn 1 zr ?_|refine yn 2 zr ?_|refine yn 3 zr ?_|(refine yo zr ?_;intro _)|(refine yp zr ?_;intro _)|refine yq zr ?_|refine ys zr ?_|refine yu zr ?_|refine yv zr ?_|(with_reducible first|refine zd ?_|refine ze ?_|refine zf ?_|refine zg ?_|refine zh ?_|refine zi ?_|refine zj ?_|refine zk ?_|refine zl ?_)|refine zz zr ?_|refine zw (by decide +kernel) ?_|refine zx zr zr zr ?_|refine zy zr zr ?_|(refine W.condP zr ?_ ?_<;>intro _)|refine W.condT zr ?_|refine W.condF zr ?_|(refine W.cond zr ?_ ?_<;>intro _)|(refine W.gs zr zr zr zr ?_ ?_<;>intro _)|(refine W.gsB zr zr zr zr ?_ ?_<;>intro _)|refine W.done zr ?_|refine W.doneN zr ?_
  rfl
end Go.Proofs.YtoegffiapnnkiaaGreat.Abs
