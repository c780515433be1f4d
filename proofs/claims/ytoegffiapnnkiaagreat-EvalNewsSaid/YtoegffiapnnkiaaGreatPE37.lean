/- Parts of one proof. No condition but those that each theorem names. -/
import Derived.Test.YtoegffiapnnkiaaGreatPE28
import Derived.Test.YtoegffiapnnkiaaGreatPE31
import Derived.Test.YtoegffiapnnkiaaGreatPE36
namespace Go.Proofs.YtoegffiapnnkiaaGreat.Abs
open Go
set_option linter.unusedVariables false
set_option linter.unusedSimpArgs false
set_option maxRecDepth 100000
set_option maxHeartbeats 4000000
def zG:Sl Guard:=⟨none,.ex 0,[]⟩
theorem repL_z (n:Nat):repL n [AV.slice none 0 (.ex 0)]=(List.replicate n zG).flatMap slC:=by
  induction n with
  | zero=>rfl
  | succ n ih=>show [AV.slice none 0 (.ex 0)]++repL n _=_;rw [ih,List.replicate_succ,List.flatMap_cons];rfl
theorem slC_len {α:Type} (l:List (Sl α)):(l.flatMap slC).length=l.length:=by
  induction l with
  | nil=>rfl
  | cons x l ih=>rw [List.flatMap_cons,List.length_append,ih];show 1+l.length=l.length+1;omega
theorem slC_set {xs zs:List (Sl Guard)} {i:Nat} (hi:xs.length=i) (y y':Sl Guard):setLs ((xs++y::zs).flatMap slC) (0+(i:Int).toNat * 1) [y'.v]=some ((xs++y'::zs).flatMap slC):=by
  have h:=setLs_cat [y'.v] [y.v] rfl (zs.flatMap slC) (xs.flatMap slC)
  rw [slC_len,hi] at h
  rw [show 0+(i:Int).toNat * 1=i by omega,List.flatMap_append,List.flatMap_append,List.flatMap_cons,List.flatMap_cons]
  exact h
theorem slC_get {xs zs:List (Sl Guard)} {i:Nat} (hi:xs.length=i) (y:Sl Guard):partG tbl 129 ((xs++y::zs).flatMap slC) (0+(i:Int).toNat * 1)=some y.v:=part_leaf rfl (by
  rw [show 0+(i:Int).toNat * 1=i by omega,List.flatMap_append,List.flatMap_cons,List.getElem?_append_right (by rw [slC_len];omega),slC_len,hi,Nat.sub_self];rfl)
attribute [local irreducible] W Cl Bd
variable {g:Cg} {V:K→Option (List AV)}
theorem evalCopied_c (hp:Plain g 90=true) {t:Table} (ht:t.Ok V) (hr:t.Room) :
    Cl Tryz.prog g V 90 [t.v] [] fun o Δ=>∃c:Table,o=.ret c.v∧CpT Δ c t:=by
  refine Cl.enter hp Tryz.func90 rfl ?_
  have hlen:=ht.states.1
  have hst:=hr.states
  unfold Len at hlen
  repeat first|(with_reducible first|refine za ?_|refine zb ?_|refine zc ?_)|refine ym zr ?_|refine yn 0 zr ?_|refine yn 1 zr ?_|refine yn 2 zr ?_|refine yn 3 zr ?_|(refine yo zr ?_;intro _)|(refine yp zr ?_;intro _)|refine yq zr ?_|refine ys zr ?_|refine yu zr ?_|refine yv zr ?_|(with_reducible first|refine zd ?_|refine ze ?_|refine zf ?_|refine zg ?_|refine zh ?_|refine zi ?_|refine zj ?_|refine zk ?_|refine zl ?_)|refine zz zr ?_|refine zw (by decide +kernel) ?_|refine zx zr zr zr ?_|refine zy zr zr ?_|refine W.condT zr ?_|refine W.condF zr ?_
  refine W.appG (i:=.z) (l:=[]) (m:=t.regs.l) (enc:=iC) (Δ1:=[_,_]) (Δ0:=[]) tblOk rfl rfl rfl rfl rfl rfl rfl (by decide) (by simpa using hr.regs) (fun _=>rfl) (srcI ht.regs.2.1) (fun h=>src_none h) (leaf_all _ leafI _) rfl rfl fun n1=>?_
  repeat first|(with_reducible first|refine za ?_|refine zb ?_|refine zc ?_)|refine ym zr ?_|refine yn 0 zr ?_|refine yn 1 zr ?_|refine yn 2 zr ?_|refine yn 3 zr ?_|(refine yo zr ?_;intro _)|(refine yp zr ?_;intro _)|refine yq zr ?_|refine ys zr ?_|refine yu zr ?_|refine yv zr ?_|(with_reducible first|refine zd ?_|refine ze ?_|refine zf ?_|refine zg ?_|refine zh ?_|refine zi ?_|refine zj ?_|refine zk ?_|refine zl ?_)|refine zz zr ?_|refine zw (by decide +kernel) ?_|refine zx zr zr zr ?_|refine zy zr zr ?_|refine W.condT zr ?_|refine W.condF zr ?_
  refine W.appG (i:=.z) (l:=[]) (m:=t.consts.l) (enc:=iC) (Δ1:=[_,_]) tblOk rfl rfl rfl rfl rfl rfl rfl (by decide) (by simpa using hr.consts) (fun _=>rfl) (srcI ht.consts.2.1) (fun h=>src_none h) (leaf_all _ leafI _) rfl rfl fun n2=>?_
  repeat first|(with_reducible first|refine za ?_|refine zb ?_|refine zc ?_)|refine ym zr ?_|refine yn 0 zr ?_|refine yn 1 zr ?_|refine yn 2 zr ?_|refine yn 3 zr ?_|(refine yo zr ?_;intro _)|(refine yp zr ?_;intro _)|refine yq zr ?_|refine ys zr ?_|refine yu zr ?_|refine yv zr ?_|(with_reducible first|refine zd ?_|refine ze ?_|refine zf ?_|refine zg ?_|refine zh ?_|refine zi ?_|refine zj ?_|refine zk ?_|refine zl ?_)|refine zz zr ?_|refine zw (by decide +kernel) ?_|refine zx zr zr zr ?_|refine zy zr zr ?_|refine W.condT zr ?_|refine W.condF zr ?_
  refine W.appG (i:=.z) (l:=[]) (m:=t.code.l) (enc:=Instr.cs) (Δ1:=[_,_]) tblOk rfl rfl rfl rfl rfl rfl rfl (by decide) (by simpa using hr.code) (fun _=>rfl) (srcX ht.code.2.1) (fun h=>src_none h) (leaf_all _ leafX _) rfl rfl fun n3=>?_
  repeat first|(with_reducible first|refine za ?_|refine zb ?_|refine zc ?_)|refine ym zr ?_|refine yn 0 zr ?_|refine yn 1 zr ?_|refine yn 2 zr ?_|refine yn 3 zr ?_|(refine yo zr ?_;intro _)|(refine yp zr ?_;intro _)|refine yq zr ?_|refine ys zr ?_|refine yu zr ?_|refine yv zr ?_|(with_reducible first|refine zd ?_|refine ze ?_|refine zf ?_|refine zg ?_|refine zh ?_|refine zi ?_|refine zj ?_|refine zk ?_|refine zl ?_)|refine zz zr ?_|refine zw (by decide +kernel) ?_|refine zx zr zr zr ?_|refine zy zr zr ?_|refine W.condT zr ?_|refine W.condF zr ?_
  have q1:(gS n1 ([]++t.regs.l)).l=t.regs.l:=gS_l _ _
  have q2:(gS n2 ([]++t.consts.l)).l=t.consts.l:=gS_l _ _
  have q3:(gS n3 ([]++t.code.l)).l=t.code.l:=gS_l _ _
  obtain ⟨D1,hD1,r1,r2,r3⟩:∃D1,D1=gD Instr.cs 86 2 n3 ([]++t.code.l)++(gD iC 2 1 n2 ([]++t.consts.l)++(gD iC 2 1 n1 ([]++t.regs.l)++[]))∧RowIn D1 iC 2 1 (gS n1 ([]++t.regs.l))∧RowIn D1 iC 2 1 (gS n2 ([]++t.consts.l))∧RowIn D1 Instr.cs 86 2 (gS n3 ([]++t.code.l)) :=
    ⟨_,rfl,gS_in fun z hz=>List.mem_append_right _ (List.mem_append_right _ (List.mem_append_left _ hz)),gS_in fun z hz=>List.mem_append_right _ (List.mem_append_left _ hz),gS_in fun z hz=>List.mem_append_left _ hz⟩
  refine W.perm (_::_::(gD Instr.cs 86 2 n3 ([]++t.code.l)++(gD iC 2 1 n2 ([]++t.consts.l)++(gD iC 2 1 n1 ([]++t.regs.l)++[])))) (List.Perm.refl _) ?_
  rw [←hD1]
  clear hD1
  generalize gS n1 ([]++t.regs.l)=s1 at q1 r1 ⊢
  generalize gS n2 ([]++t.consts.l)=s2 at q2 r2 ⊢
  generalize gS n3 ([]++t.code.l)=s3 at q3 r3 ⊢
  rename_i it ir
  refine W.mkE (len:=t.states.l.length) (cap:=t.states.l.length) tblOk rfl rfl rfl rfl rfl (Nat.le_refl _) (by omega) (by decide) rfl rfl ?_
  intro is
  rw [repL_z]
  repeat first|(with_reducible first|refine za ?_|refine zb ?_|refine zc ?_)|refine ym zr ?_|refine yn 0 zr ?_|refine yn 1 zr ?_|refine yn 2 zr ?_|refine yn 3 zr ?_|(refine yo zr ?_;intro _)|(refine yp zr ?_;intro _)|refine yq zr ?_|refine ys zr ?_|refine yu zr ?_|refine yv zr ?_|(with_reducible first|refine zd ?_|refine ze ?_|refine zf ?_|refine zg ?_|refine zh ?_|refine zi ?_|refine zj ?_|refine zk ?_|refine zl ?_)|refine zz zr ?_|refine zw (by decide +kernel) ?_|refine zx zr zr zr ?_|refine zy zr zr ?_|refine W.condT zr ?_|refine W.condF zr ?_
  refine W.loopR (α:={ q:Nat×List (Sl Guard)×Dm // q.1≤t.states.l.length∧q.2.1.length=q.1∧∀k (h1:k<q.2.1.length) (h2:k<t.states.l.length),CpS q.2.2 q.2.1[k] t.states.l[k] }) (fun q=>t.states.l.length-q.1.1) (fun q=>[(1,.ptr (some (it,0))),(2,.ptr (some (ir,0))),(3,.slice (some (is,0)) t.states.l.length (.ex t.states.l.length)),(25,t.states.v),(26,.int .i64 (t.states.l.length:Int)),(27,.int .i64 (q.1.1:Int))])
    (fun q=>(is,.cells ((q.1.2.1++List.replicate (t.states.l.length-q.1.1) zG).flatMap slC) 129 1 true)::(it,.cells [.str t.name,s1.v,.int .i64 t.slots,s2.v,s3.v,t.states.v] 26 6 true)::(ir,.cells [.str [],.slice none 0 (.ex 0),.int .i64 0,.slice none 0 (.ex 0),.slice none 0 (.ex 0),.slice none 0 (.ex 0)] 26 6 true)::(q.1.2.2++D1)) ⟨(0,[],[]),by simp,rfl,fun k h1=>by simp at h1⟩ ⟨rfl,rfl,rfl,rfl,rfl,rfl⟩ (List.Sublist.refl _) ?_
  rintro ⟨⟨i,xs,Dn⟩,hi1,hi2,hi3⟩ ih
  simp only at ih hi1 hi2 hi3 ⊢
  repeat first|(with_reducible first|refine za ?_|refine zb ?_|refine zc ?_)|refine ym zr ?_|refine yn 0 zr ?_|refine yn 1 zr ?_|refine yn 2 zr ?_|refine yn 3 zr ?_|(refine yo zr ?_;intro _)|(refine yp zr ?_;intro _)|refine yq zr ?_|refine ys zr ?_|refine yu zr ?_|refine yv zr ?_|(with_reducible first|refine zd ?_|refine ze ?_|refine zf ?_|refine zg ?_|refine zh ?_|refine zi ?_|refine zj ?_|refine zk ?_|refine zl ?_)|refine zz zr ?_|refine zw (by decide +kernel) ?_|refine zx zr zr zr ?_|refine zy zr zr ?_|refine W.condT zr ?_|refine W.condF zr ?_
  refine W.condP rfl ?_ ?_<;>intro hlt
  rotate_left
  · clear ih
    have hi:i=t.states.l.length:=by omega
    rw [hi,Nat.sub_self,List.replicate_zero,List.append_nil]
    repeat' first|refine W.doneC tblOk (.cell 0 rfl rfl rfl rfl .nil) ?_|(with_reducible first|refine za ?_|refine zb ?_|refine zc ?_)|refine ym zr ?_|refine yn 0 zr ?_|refine yn 1 zr ?_|refine yn 2 zr ?_|refine yn 3 zr ?_|(refine yo zr ?_;intro _)|(refine yp zr ?_;intro _)|refine yq zr ?_|refine ys zr ?_|refine yu zr ?_|refine yv zr ?_|(with_reducible first|refine zd ?_|refine ze ?_|refine zf ?_|refine zg ?_|refine zh ?_|refine zi ?_|refine zj ?_|refine zk ?_|refine zl ?_)|refine zz zr ?_|refine zw (by decide +kernel) ?_|refine zx zr zr zr ?_|refine zy zr zr ?_|(refine W.condP zr ?_ ?_<;>intro _)|refine W.condT zr ?_|refine W.condF zr ?_|(refine W.cond zr ?_ ?_<;>intro _)|(refine W.gs zr zr zr zr ?_ ?_<;>intro _)|(refine W.gsB zr zr zr zr ?_ ?_<;>intro _)|refine W.done zr ?_|refine W.doneN zr ?_
    refine ⟨⟨t.name,s1,t.slots,s2,s3,⟨some (is,0),.ex t.states.l.length,xs⟩⟩,?_,⟨rfl,rfl,⟨q1,r1.mono ?_⟩,⟨q2,r2.mono ?_⟩,⟨q3,r3.mono ?_⟩,?_⟩⟩
    · show _=RO.ret (AV.agg [_,_,_,_,_,.slice (some (is,0)) xs.length _])
      rw [hi2,hi];rfl
    · intro z hz;simp [hz]
    · intro z hz;simp [hz]
    · intro z hz;simp [hz]
    · exact ⟨by show xs.length=_;omega,.inr ⟨is,true,rfl,.tail _ (.tail _ (.head _))⟩,fun k h1 h2=>(hi3 k h1 h2).mono fun z hz=>by simp [hz]⟩
  have hlt:i<t.states.l.length:=by omega
  have hlt0:(i:Int)<(t.states.l.length:Int):=by omega
  have hi0:(0:Int)≤(i:Int):=by omega
  obtain ⟨jn,o,cs,ha,hV,hpt⟩:=Sl.In.get ht.states.2.1 hlt
  have hl:=ht.states.2.2 _ (List.getElem_mem hlt)
  have hrg:=hr.guards _ (List.getElem_mem hlt)
  have hrr:=hr.rows _ (List.getElem_mem hlt)
  have hfin:∀(D:Dm) (x:Sl Guard),(∀z∈Dn,z∈D)→CpS D x t.states.l[i]→∀k (h1:k<(xs++[x]).length) (h2:k<t.states.l.length),CpS D (xs++[x])[k] t.states.l[k]:=fun D x hD hx=>by
    subst hi2
    exact snoc_all (R:=CpS D) (fun k h1 h2=>(hi3 k h1 h2).mono hD) hlt hx
  generalize t.states.l[i]=l at hpt hl hrg hrr hfin
  have hll:=hl.1
  unfold Len at hll
  have erep:List.replicate (t.states.l.length-i) zG=zG::List.replicate (t.states.l.length-(i+1)) zG:=by
    rw [show t.states.l.length-i=(t.states.l.length-(i+1))+1 by omega,List.replicate_succ]
  rw [erep]
  repeat first|refine W.ia tblOk rfl rfl rfl rfl rfl rfl ha hi0 hlt0 ?_|refine W.ldV tblOk rfl rfl rfl hV hpt ?_|(with_reducible first|refine za ?_|refine zb ?_|refine zc ?_)|refine ym zr ?_|refine yn 0 zr ?_|refine yn 1 zr ?_|refine yn 2 zr ?_|refine yn 3 zr ?_|(refine yo zr ?_;intro _)|(refine yp zr ?_;intro _)|refine yq zr ?_|refine ys zr ?_|refine yu zr ?_|refine yv zr ?_|(with_reducible first|refine zd ?_|refine ze ?_|refine zf ?_|refine zg ?_|refine zh ?_|refine zi ?_|refine zj ?_|refine zk ?_|refine zl ?_)|refine zz zr ?_|refine zw (by decide +kernel) ?_|refine zx zr zr zr ?_|refine zy zr zr ?_|refine W.condT zr ?_|refine W.condF zr ?_
  have ewi:IntKind.i64.wrap ((i:Int)+1)=((i+1:Nat):Int):=by rw [w64 (by omega) (by omega)];omega
  refine W.loopR (α:={ q:Nat×List Guard×K×Dm // q.1≤l.l.length∧q.2.1.length=q.1∧∀k (h1:k<q.2.1.length) (h2:k<l.l.length),CpG q.2.2.2 q.2.1[k] l.l[k] }) (fun q=>l.l.length-q.1.1) (fun q=>[(1,.ptr (some (it,0))),(2,.ptr (some (ir,0))),(3,.slice (some (is,0)) t.states.l.length (.ex t.states.l.length)),(4,.int .i64 (i:Int)),(25,t.states.v),(26,.int .i64 (t.states.l.length:Int)),(27,.int .i64 (i:Int)),(32,l.v),(33,.int .i64 (l.l.length:Int)),(34,.int .i64 (q.1.1:Int))])
    (fun q=>(is,.cells ((xs++gS q.1.2.2.1 q.1.2.1::List.replicate (t.states.l.length-(i+1)) zG).flatMap slC) 129 1 true)::(it,.cells [.str t.name,s1.v,.int .i64 t.slots,s2.v,s3.v,t.states.v] 26 6 true)::(ir,.cells [.str [],.slice none 0 (.ex 0),.int .i64 0,.slice none 0 (.ex 0),.slice none 0 (.ex 0),.slice none 0 (.ex 0)] 26 6 true)::(gD Guard.cs 132 5 q.1.2.2.1 q.1.2.1++(q.1.2.2.2++(Dn++D1)))) ⟨(0,[],.z,[]),by simp,rfl,fun k h1=>by simp at h1⟩ ⟨rfl,rfl,rfl,rfl,rfl,rfl,rfl,rfl,rfl,rfl⟩ (List.Sublist.refl _) ?_
  rintro ⟨⟨k,gs,nm2,D2⟩,hk1,hk2,hk3⟩ ih2
  simp only at ih2 hk1 hk2 hk3 ⊢
  repeat first|(with_reducible first|refine za ?_|refine zb ?_|refine zc ?_)|refine ym zr ?_|refine yn 0 zr ?_|refine yn 1 zr ?_|refine yn 2 zr ?_|refine yn 3 zr ?_|(refine yo zr ?_;intro _)|(refine yp zr ?_;intro _)|refine yq zr ?_|refine ys zr ?_|refine yu zr ?_|refine yv zr ?_|(with_reducible first|refine zd ?_|refine ze ?_|refine zf ?_|refine zg ?_|refine zh ?_|refine zi ?_|refine zj ?_|refine zk ?_|refine zl ?_)|refine zz zr ?_|refine zw (by decide +kernel) ?_|refine zx zr zr zr ?_|refine zy zr zr ?_|refine W.condT zr ?_|refine W.condF zr ?_
  refine W.condP rfl ?_ ?_<;>intro hlt2
  rotate_left
  · clear ih2
    have hk:k=l.l.length:=by omega
    have hg:=gS_l nm2 gs
    repeat first|(with_reducible first|refine za ?_|refine zb ?_|refine zc ?_)|refine ym zr ?_|refine yn 0 zr ?_|refine yn 1 zr ?_|refine yn 2 zr ?_|refine yn 3 zr ?_|(refine yo zr ?_;intro _)|(refine yp zr ?_;intro _)|refine yq zr ?_|refine ys zr ?_|refine yu zr ?_|refine yv zr ?_|(with_reducible first|refine zd ?_|refine ze ?_|refine zf ?_|refine zg ?_|refine zh ?_|refine zi ?_|refine zj ?_|refine zk ?_|refine zl ?_)|refine zz zr ?_|refine zw (by decide +kernel) ?_|refine zx zr zr zr ?_|refine zy zr zr ?_|refine W.condT zr ?_|refine W.condF zr ?_
    rw [ewi]
    have h9:=ih ⟨(i+1,xs++[gS nm2 gs],gD Guard.cs 132 5 nm2 gs++(D2++Dn)),by show i+1≤_;omega,by show (xs++[gS nm2 gs]).length=i+1;simp [hi2],hfin _ _ (fun z hz=>by simp [hz]) (CpS.mk' hg (by rw [hk2,hk]) (gS_in fun z hz=>by simp [hz]) (fun k h1 h2=>(hk3 k h1 h2).mono fun z hz=>by simp [hz]))⟩ (by show t.states.l.length-(i+1)<t.states.l.length-i;omega)
    simp only [List.append_assoc,List.singleton_append] at h9
    exact W.wk h9 ⟨rfl,rfl,rfl,rfl,rfl,rfl⟩ (List.Sublist.refl _)
  have hlt2:k<l.l.length:=by omega
  have hlt3:(k:Int)<(l.l.length:Int):=by omega
  have hk0:(0:Int)≤(k:Int):=by omega
  have ewk:IntKind.i64.wrap ((k:Int)+1)=((k+1:Nat):Int):=by rw [w64 (by omega) (by omega)];omega
  obtain ⟨jn2,o2,cs2,ha2,hV2,hpt2⟩:=Sl.In.get hl.2.1 hlt2
  have hg:=hl.2.2 _ (List.getElem_mem hlt2)
  have hrx:=hrr _ (List.getElem_mem hlt2)
  have hfin2:∀(D:Dm) (x:Guard),(∀z∈D2,z∈D)→CpG D x l.l[k]→∀j (h1:j<(gs++[x]).length) (h2:j<l.l.length),CpG D (gs++[x])[j] l.l[j]:=fun D x hD hx=>by
    subst hk2
    exact snoc_all (R:=CpG D) (fun k h1 h2=>(hk3 k h1 h2).mono hD) hlt2 hx
  generalize l.l[k]=x at hpt2 hg hrx hfin2
  have hget:=slC_get (zs:=List.replicate (t.states.l.length-(i+1)) zG) hi2 (gS nm2 gs)
  repeat first|refine W.ia tblOk rfl rfl rfl rfl rfl rfl ha2 hk0 hlt3 ?_|refine W.ldV tblOk rfl rfl rfl hV2 hpt2 ?_|(with_reducible first|refine za ?_|refine zb ?_|refine zc ?_)|refine ym zr ?_|refine yn 0 zr ?_|refine yn 1 zr ?_|refine yn 2 zr ?_|refine yn 3 zr ?_|(refine yo zr ?_;intro _)|(refine yp zr ?_;intro _)|refine yq zr ?_|refine ys zr ?_|refine yu zr ?_|refine yv zr ?_|(with_reducible first|refine zd ?_|refine ze ?_|refine zf ?_|refine zg ?_|refine zh ?_|refine zi ?_|refine zj ?_|refine zk ?_|refine zl ?_)|refine zz zr ?_|refine zw (by decide +kernel) ?_|refine zx zr zr zr ?_|refine zy zr zr ?_|refine W.condT zr ?_|refine W.condF zr ?_
  rename_i i7
  refine W.appG (i:=.z) (l:=[]) (m:=x.rows.l) (enc:=Row.cs) (Δ1:=[_,_,_,_]) tblOk rfl rfl rfl rfl rfl rfl rfl (by decide) (by simpa using hrx) (fun _=>rfl) (srcR hg.2.2.2.2.1) (fun h=>src_none h) (leaf_all _ leafR _) rfl rfl fun n4=>?_
  repeat first|(with_reducible first|refine za ?_|refine zb ?_|refine zc ?_)|refine ym zr ?_|refine yn 0 zr ?_|refine yn 1 zr ?_|refine yn 2 zr ?_|refine yn 3 zr ?_|(refine yo zr ?_;intro _)|(refine yp zr ?_;intro _)|refine yq zr ?_|refine ys zr ?_|refine yu zr ?_|refine yv zr ?_|(with_reducible first|refine zd ?_|refine ze ?_|refine zf ?_|refine zg ?_|refine zh ?_|refine zi ?_|refine zj ?_|refine zk ?_|refine zl ?_)|refine zz zr ?_|refine zw (by decide +kernel) ?_|refine zx zr zr zr ?_|refine zy zr zr ?_|refine W.condT zr ?_|refine W.condF zr ?_
  refine W.drawG _ [(5,7,8)] 0 (by decide +kernel) tbl tblOk ⟨⟨_,_,_,is,0+(i:Int).toNat * 1,(gS nm2 gs).v,rfl,rfl,sl_same _,?_,?_⟩,trivial⟩ (.inl rfl) ?_
  · show W _ _ _ _ _ [.o false _ [_,_,_,_,_]] _ _ _ _
    repeat' first|refine W.ia tblOk rfl rfl rfl rfl rfl rfl rfl hi0 hlt0 ?_|(with_reducible first|refine za ?_|refine zb ?_|refine zc ?_)|refine ym zr ?_|refine yn 0 zr ?_|refine yn 1 zr ?_|refine yn 2 zr ?_|refine yn 3 zr ?_|(refine yo zr ?_;intro _)|(refine yp zr ?_;intro _)|refine yq zr ?_|refine ys zr ?_|refine yu zr ?_|refine yv zr ?_|(with_reducible first|refine zd ?_|refine ze ?_|refine zf ?_|refine zg ?_|refine zh ?_|refine zi ?_|refine zj ?_|refine zk ?_|refine zl ?_)|refine zz zr ?_|refine zw (by decide +kernel) ?_|refine zx zr zr zr ?_|refine zy zr zr ?_|(refine W.condP zr ?_ ?_<;>intro _)|refine W.condT zr ?_|refine W.condF zr ?_|(refine W.cond zr ?_ ?_<;>intro _)|(refine W.gs zr zr zr zr ?_ ?_<;>intro _)|(refine W.gsB zr zr zr zr ?_ ?_<;>intro _)|refine W.done zr ?_|refine W.doneN zr ?_
    exact ⟨rfl,_,_,.tail _ (.head _),rfl,hget⟩
  · intro j hj1 hj2
    obtain rfl|rfl:j=7∨j=8:=by have h1:7≤j:=hj1;have h2:j≤8:=hj2;omega
    · show W _ _ _ _ _ [.o false _ [_,_,_,_,_,_,_]] _ _ _ _
      repeat' first|refine W.ia tblOk rfl rfl rfl rfl rfl rfl rfl hi0 hlt0 ?_|refine W.ldO tblOk 1 rfl rfl rfl hget rfl rfl ?_|(with_reducible first|refine za ?_|refine zb ?_|refine zc ?_)|refine ym zr ?_|refine yn 0 zr ?_|refine yn 1 zr ?_|refine yn 2 zr ?_|refine yn 3 zr ?_|(refine yo zr ?_;intro _)|(refine yp zr ?_;intro _)|refine yq zr ?_|refine ys zr ?_|refine yu zr ?_|refine yv zr ?_|(with_reducible first|refine zd ?_|refine ze ?_|refine zf ?_|refine zg ?_|refine zh ?_|refine zi ?_|refine zj ?_|refine zk ?_|refine zl ?_)|refine zz zr ?_|refine zw (by decide +kernel) ?_|refine zx zr zr zr ?_|refine zy zr zr ?_|(refine W.condP zr ?_ ?_<;>intro _)|refine W.condT zr ?_|refine W.condF zr ?_|(refine W.cond zr ?_ ?_<;>intro _)|(refine W.gs zr zr zr zr ?_ ?_<;>intro _)|(refine W.gsB zr zr zr zr ?_ ?_<;>intro _)|refine W.done zr ?_|refine W.doneN zr ?_
      exact ⟨_,_,.tail _ (.head _),rfl,hget⟩
    · show W _ _ _ _ _ [.o false _ [_,_,_,_,_,_,_,_]] _ _ _ _
      repeat' first|refine W.ia tblOk rfl rfl rfl rfl rfl rfl rfl hi0 hlt0 ?_|refine W.ldO tblOk 1 rfl rfl rfl hget rfl rfl ?_|(refine W.bsl tblOk rfl rfl rfl rfl (by decide) rfl rfl rfl ?_;intro i9)|(with_reducible first|refine za ?_|refine zb ?_|refine zc ?_)|refine ym zr ?_|refine yn 0 zr ?_|refine yn 1 zr ?_|refine yn 2 zr ?_|refine yn 3 zr ?_|(refine yo zr ?_;intro _)|(refine yp zr ?_;intro _)|refine yq zr ?_|refine ys zr ?_|refine yu zr ?_|refine yv zr ?_|(with_reducible first|refine zd ?_|refine ze ?_|refine zf ?_|refine zg ?_|refine zh ?_|refine zi ?_|refine zj ?_|refine zk ?_|refine zl ?_)|refine zz zr ?_|refine zw (by decide +kernel) ?_|refine zx zr zr zr ?_|refine zy zr zr ?_|(refine W.condP zr ?_ ?_<;>intro _)|refine W.condT zr ?_|refine W.condF zr ?_|(refine W.cond zr ?_ ?_<;>intro _)|(refine W.gs zr zr zr zr ?_ ?_<;>intro _)|(refine W.gsB zr zr zr zr ?_ ?_<;>intro _)|refine W.done zr ?_|refine W.doneN zr ?_
      exact ⟨_,_,.tail _ (.tail _ (.head _)),rfl,hget⟩
  repeat first|refine W.ia tblOk rfl rfl rfl rfl rfl rfl rfl hi0 hlt0 ?_|refine W.ldO tblOk 1 rfl rfl rfl hget rfl rfl ?_|(refine W.bsl tblOk rfl rfl rfl rfl (by decide) rfl rfl rfl ?_;intro i9)|(with_reducible first|refine za ?_|refine zb ?_|refine zc ?_)|refine ym zr ?_|refine yn 0 zr ?_|refine yn 1 zr ?_|refine yn 2 zr ?_|refine yn 3 zr ?_|(refine yo zr ?_;intro _)|(refine yp zr ?_;intro _)|refine yq zr ?_|refine ys zr ?_|refine yu zr ?_|refine yv zr ?_|(with_reducible first|refine zd ?_|refine ze ?_|refine zf ?_|refine zg ?_|refine zh ?_|refine zi ?_|refine zj ?_|refine zk ?_|refine zl ?_)|refine zz zr ?_|refine zw (by decide +kernel) ?_|refine zx zr zr zr ?_|refine zy zr zr ?_|refine W.condT zr ?_|refine W.condF zr ?_
  refine W.sw [_,_,_,_,_] (gD Row.cs 148 11 n4 ([]++x.rows.l)) (gD Guard.cs 132 5 nm2 gs) (D2++(Dn++D1)) ?_
  refine W.appG (i:=nm2) (l:=gs) (m:=[⟨x.when,x.fields,x.regs,gS n4 ([]++x.rows.l)⟩]) (enc:=Guard.cs) (Δ1:=[_,_,_,_,_]) tblOk rfl rfl rfl rfl rfl rfl rfl (by decide) (by simp only [List.length_singleton,hk2];omega) (fun _=>rfl) (src_own (p:=0) rfl rfl rfl) (fun h=>by cases h) (leaf_all _ leafG _) rfl rfl fun n6=>?_
  have hset:=slC_set (zs:=List.replicate (t.states.l.length-(i+1)) zG) hi2 (gS nm2 gs) (gS n6 (gs++[⟨x.when,x.fields,x.regs,gS n4 ([]++x.rows.l)⟩]))
  repeat first|refine W.ia tblOk rfl rfl rfl rfl rfl rfl rfl hi0 hlt0 ?_|(refine W.fr2 ?_;refine W.stF tblOk rfl rfl rfl rfl rfl rfl rfl hset ?_)|(with_reducible first|refine za ?_|refine zb ?_|refine zc ?_)|refine ym zr ?_|refine yn 0 zr ?_|refine yn 1 zr ?_|refine yn 2 zr ?_|refine yn 3 zr ?_|(refine yo zr ?_;intro _)|(refine yp zr ?_;intro _)|refine yq zr ?_|refine ys zr ?_|refine yu zr ?_|refine yv zr ?_|(with_reducible first|refine zd ?_|refine ze ?_|refine zf ?_|refine zg ?_|refine zh ?_|refine zi ?_|refine zj ?_|refine zk ?_|refine zl ?_)|refine zz zr ?_|refine zw (by decide +kernel) ?_|refine zx zr zr zr ?_|refine zy zr zr ?_|refine W.condT zr ?_|refine W.condF zr ?_
  rw [ewk]
  have hg4:(gS n4 ([]++x.rows.l)).l=x.rows.l:=gS_l _ _
  have h9:=ih2 ⟨(k+1,gs++[⟨x.when,x.fields,x.regs,gS n4 ([]++x.rows.l)⟩],n6,gD Row.cs 148 11 n4 ([]++x.rows.l)++D2),by show k+1≤_;omega,by show (gs++[_]).length=k+1;simp [hk2],hfin2 _ _ (fun z hz=>by simp [hz]) ⟨⟨rfl,rfl,rfl,hg4⟩,gS_in fun z hz=>List.mem_append_left _ hz⟩⟩ (by show l.l.length-(k+1)<l.l.length-k;omega)
  simp only [List.append_assoc] at h9
  refine W.wk h9 ⟨rfl,rfl,rfl,rfl,rfl,rfl,rfl,rfl,rfl,rfl⟩ ?_
  exact .cons_cons _ (.cons _ (.cons _ (List.Sublist.refl _)))
end Go.Proofs.YtoegffiapnnkiaaGreat.Abs
