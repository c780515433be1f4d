/- Parts of one proof. No condition but those that each theorem names. -/
import Derived.Test.YtoegffiapnnkiaaGreatPT08
namespace Go.Proofs.YtoegffiapnnkiaaGreat.Abs
open Go
set_option linter.unusedVariables false
set_option linter.unusedSimpArgs false
theorem setLs_0 {α:Type}:∀(a b r:List α),b.length=a.length→setLs (b++r) 0 a=some (a++r)
  | [],[],r,_=>by cases r<;>rfl
  | x::a,y::b,r,h=>by
    show consO x (setLs (b++r) 0 a)=_
    rw [setLs_0 a b r (by simpa using h)];rfl
theorem setLs_cat {α:Type} (a b:List α) (h:b.length=a.length) (r:List α):∀(p:List α),setLs (p++(b++r)) p.length a=some (p++(a++r))
  | []=>setLs_0 a b r h
  | x::p=>by
    show consO x (setLs (p++(b++r)) p.length a)=_
    rw [setLs_cat a b h r p];rfl
section
variable {P:Program} {g:Cg} {n:Nat} {V:K→Option (List AV)} {rs:List ResultVar} {st:List Fr} {Γ:Gm} {Δ:Dm} {Q:RO→Dm→Prop} {b:Bool} {all rest:List Oper} {ty:TypeId} {pos:String} {after:Array Edge} {gd:Option (Nat×Bool)} {d:Nat} {x y:Operand} {tb:T TI}
variable {t u el eu sz by_ m len cap:Nat} {z w:AV} {zl news:List AV} {td:TD} {z1 z1' z5:Bool} {z2 z3 z2' z6:Nat} {z4 z4':Option AV}
theorem W.mkE (hT:TabOk P tb) {kl kc:IntKind} (hl:eg Γ x=some (.int kl (len:Int))) (hc:eg Γ y=some (.int kc (cap:Int))) (ht:ti tb t=some ⟨.sl el,z1,z2,z3,z4⟩) (he:ti tb el=some ⟨td,z5,sz,by_,some z⟩) (hz:partsO z=some zl)
    (hle:len≤cap) (hb:by_ * cap≤281474976710656∧cap≤9223372036854775807) (hcc:zl.length=sz∧0<sz)
    (hn:Nat.ble (d+1) n=true) (hw:wantG all Γ ⟨some d,.makeSlice t x y,ty,pos,after,gd⟩=some true)
    (h:∀i,W P g n V rs (.o b all rest::st) .nrm ((d,.slice (some (i,0)) len (.ex cap))::Γ) ((i,.cells (repL cap zl) el sz true)::Δ) Q):W P g n V rs (.o b all (⟨some d,.makeSlice t x y,ty,pos,after,gd⟩::rest)::st) .nrm Γ Δ Q :=
  W.op hw hn fun F s tm hM hG=>⟨.slice (some (s.nx,0)) len (.ex cap),newB s (.cells (repL cap zl) el sz true),(s.nx,.cells (repL cap zl) el sz true)::Δ,⟨0,fun k _=>by
    obtain ⟨inf,i1,i2,i3⟩:=(hT.get he).info
    show ofP (opMakeSlice P t (ev tm x) (ev tm y) s)=_
    have hz':=partsO_eq hz
    have hif:(0:Int)≤(len:Int)∧(len:Int)≤(cap:Int)∧(cap:Int)≤9223372036854775807∧(by_:Int) * (cap:Int)≤281474976710656∧zl.length=sz∧0<sz:=by
      refine ⟨by omega,by omega,by omega,?_,hcc⟩
      have:=hb.1
      have e:((by_ * cap:Nat):Int)=(by_:Int) * (cap:Int):=Int.natCast_mul _ _
      omega
    rw [hG.eg hl,hG.eg hc]
    unfold opMakeSlice
    simp only [hT.sl ht,i1,(hT.get he).zero z rfl,hz',i2,i3,Int.toNat_natCast]
    rw [if_pos hif];rfl⟩,hM.alloc trivial,h s.nx⟩
theorem W.appE (hT:TabOk P tb) {i:K} {k:Nat} {f:Bool} {l l':List AV} (hx:eg Γ x=some (.slice (some (i,0)) len (.ex k))) (hy:eg Γ y=some w) (hm:lenA w=some m) (ht:ti tb t=some ⟨.sl el,z1,z2,z3,z4⟩) (hu:ti tb u=some ⟨.sl eu,z1',z2',z6,z4'⟩) (he:ti tb el=some ⟨td,z5,sz,by_,some z⟩) (hz:partsO z=some zl)
    (hc:zl.length=sz∧0<sz∧0<by_) (hm0:0<m) (hb:(len+m) * by_≤140737488355328) (hk:len+m≤k) (hset:setLs l (len * sz) news=some l') (hsrc:∀F s,Mem V F ((i,.cells l el sz f)::Δ) s→srcCells sz m w s.hp=some news) (hlf:allLeaf news=true)
    (hn:Nat.ble (d+1) n=true) (hw:wantG all Γ ⟨some d,.call ⟨.builtin .append,#[x,y],#[t,u]⟩,ty,pos,after,gd⟩=some true)
    (h:W P g n V rs (.o b all rest::st) .nrm ((d,.slice (some (i,0)) (len+m) (.ex k))::Γ) ((i,.cells l' el sz f)::Δ) Q):W P g n V rs (.o b all (⟨some d,.call ⟨.builtin .append,#[x,y],#[t,u]⟩,ty,pos,after,gd⟩::rest)::st) .nrm Γ ((i,.cells l el sz f)::Δ) Q :=
  W.op hw hn fun F s tm hM hG=>⟨.slice (some (i,0)) (len+m) (.ex k),setB s i (.cells l' el sz f),(i,.cells l' el sz f)::Δ,⟨0,fun _ _=>by
    obtain ⟨inf,i1,i2,i3⟩:=(hT.get he).info
    have hgt:len+m≤9223372036854775807:=Nat.le_trans (Nat.le_mul_of_pos_right (len+m) hc.2.2) (by omega)
    have hi:=hM.own (i,.cells l el sz f) (by simp)
    have key:opAppend P [t,u] (.slice (some (i,0)) len (.ex k)) w s=some (.slice (some (i,0)) (len+m) (.ex k),setB s i (.cells l' el sz f)):=by
      have hz':=partsO_eq hz
      have hif:(z.parts.length=inf.size∧0<inf.size∧0<inf.bytes∧len+m≤9223372036854775807∧(len+m) * inf.bytes≤140737488355328):=by
        rw [hz',i2,i3];exact ⟨hc.1,hc.2.1,hc.2.2,hgt,hb⟩
      simp only [opAppend,hT.sl ht,hT.sl hu,notInt,hm,i1,(hT.get he).zero z rfl,if_pos hif]
      rw [i2,hsrc F s hM]
      simp only [hlf,if_neg (Nat.pos_iff_ne_zero.1 hm0),hi,if_pos hk,Nat.zero_add,hset]
    have ha:evs tm [x,y]=some [.slice (some (i,0)) len (.ex k),w]:=by
      show cons2 (ev tm x) (cons2 (ev tm y) (some []))=_
      rw [hG.eg hx,hG.eg hy];rfl
    exact opQ_app ha (fun _=>key) (fun _=>key)⟩,hM.set trivial,h⟩
theorem W.capE (hT:TabOk P tb) {a:Option (K×Nat)} {k:Nat} (hx:eg Γ x=some (.slice a len (.ex k))) (ht:ti tb t=some ⟨.sl el,z1,z2,z3,z4⟩)
    (hn:Nat.ble (d+1) n=true) (hw:wantG all Γ ⟨some d,.call ⟨.builtin .cap,#[x],#[t]⟩,ty,pos,after,gd⟩=some true)
    (h:W P g n V rs (.o b all rest::st) .nrm ((d,.int .i64 (k:Nat))::Γ) Δ Q):W P g n V rs (.o b all (⟨some d,.call ⟨.builtin .cap,#[x],#[t]⟩,ty,pos,after,gd⟩::rest)::st) .nrm Γ Δ Q :=
  W.pure rfl hn hw (fun tm s call hG=>by
    have ha:evs tm [x]=some [.slice a len (.ex k)]:=by
      show cons2 (ev tm x) (some [])=_
      rw [hG.eg hx];rfl
    have key:opBuiltin P .cap [t] [.slice a len (.ex k)] s=.ret (.int .i64 (k:Nat)) s:=by
      simp only [opBuiltin,opCap,hT.sl ht];rfl
    show opCall P call ⟨.builtin .cap,#[x],#[t]⟩ tm s=_
    unfold opCall
    show (match Callee.builtin Builtin.cap,evs tm [x] with|.value f,some as_=>_|.builtin b,some as_=>opBuiltin P b [t] as_ s|_,_=>CR.no)=_
    rw [ha];exact key) h
end
end Go.Proofs.YtoegffiapnnkiaaGreat.Abs
namespace Go.Proofs.YtoegffiapnnkiaaGreat.Abs
open Go
set_option linter.unusedVariables false
set_option linter.unusedSimpArgs false
theorem permMid {α:Type} (X Y Z:List α) (z:α):(X++(Y++z::Z)).Perm (z::(X++(Y++Z))):=by
  rw [←List.append_assoc,←List.append_assoc];exact List.perm_middle
theorem permThree {α:Type} (x y:α) (E F G H:List α):(x::y::(E++(F++(G++H)))).Perm (y::(E++(F++(G++x::H)))):=by
  refine .trans (.swap _ _ _) (.cons _ ?_)
  rw [show E++(F++(G++H))=(E++F++G)++H by simp,show E++(F++(G++x::H))=(E++F++G)++x::H by simp]
  exact List.perm_middle.symm
theorem setLs_at {α:Type} (l:List α) (o:Nat) (vs:List α) (h:o+vs.length≤l.length):setLs l o vs=some (l.take o++(vs++l.drop (o+vs.length))):=by
  have h1:((l.drop o).take vs.length).length=vs.length:=by rw [List.length_take,List.length_drop];omega
  have h2:=setLs_cat vs ((l.drop o).take vs.length) h1 (l.drop (o+vs.length)) (l.take o)
  have h3:(l.take o).length=o:=by rw [List.length_take];omega
  rw [h3] at h2
  rw [←h2]
  congr 1
  rw [←List.drop_drop,List.take_append_drop,List.take_append_drop]
def Mks (sz:Nat) (S:Nat→Prop) (mk:Nat→Nat→AV) (cs:List AV) (k:Nat):Prop:=∀j o,j<k→S o→cs[j * sz+o]?=some (mk j o)
section
variable {sz:Nat} {S:Nat→Prop} {mk bh:Nat→Nat→AV} {cs ds ns:List AV} {k k':Nat}
theorem Mks.zero:Mks sz S mk cs 0:=fun j o hj=>absurd hj (Nat.not_lt_zero _)
theorem Mks.put (h:Mks sz S mk cs k) {p:Nat} (hS:∀o,S o→p≤o∧o<sz∧ns[o-p]?=some (mk k o)) (hl:k * sz+p+ns.length≤cs.length):Mks sz S mk (cs.take (k * sz+p)++(ns++cs.drop (k * sz+p+ns.length))) (k+1):=fun j o hj ho=>by
  obtain ⟨h1,h2,h3⟩:=hS o ho
  have h4:o-p<ns.length:=(List.getElem?_eq_some_iff.1 h3).1
  have hq:(cs.take (k * sz+p)).length=k * sz+p:=by rw [List.length_take];omega
  by_cases e:j=k
  · subst e
    rw [List.getElem?_append_right (by omega),hq,show j * sz+o-(j * sz+p)=o-p by omega,List.getElem?_append_left h4];exact h3
  · have h5:(j+1) * sz≤k * sz:=Nat.mul_le_mul_right _ (by omega)
    rw [Nat.succ_mul] at h5
    rw [List.getElem?_append_left (by omega),List.getElem?_take_of_lt (by omega)]
    exact h j o (by omega) ho
theorem put_len {q:Nat} (hl:q+ns.length≤cs.length):(cs.take q++(ns++cs.drop (q+ns.length))).length=cs.length:=by
  simp only [List.length_append,List.length_take,List.length_drop];omega
theorem Mks.app (h:Mks sz S mk cs k):Mks sz S mk (cs++ds) k:=fun j o hj ho=>by
  have:=h j o hj ho
  rw [List.getElem?_append_left (List.getElem?_eq_some_iff.1 this).1];exact this
theorem Mks.snoc (h:Mks sz S mk cs k) (hl:cs.length=k * sz) (hn:∀o,S o→ns[o]?=some (mk k o)) (ho:∀o,S o→o<sz):Mks sz S mk (cs++ns) (k+1):=fun j o hj hS=>by
  by_cases e:j=k
  · subst e
    rw [List.getElem?_append_right (by omega),show j * sz+o-cs.length=o by omega];exact hn o hS
  · exact h.app j o (by omega) hS
theorem Mks.room {n:Nat} (h:Mks sz S bh (cs.drop (n * sz)) k) (hn:∀o,S o→ns[o]?=some (bh k o)) (ho:∀o,S o→o<sz) (hns:ns.length=sz) (hl:(n+k) * sz+sz≤cs.length):Mks sz S bh ((cs.take ((n+k) * sz)++(ns++cs.drop ((n+k) * sz+ns.length))).drop (n * sz)) (k+1):=fun j o hj hS=>by
  have hq:(cs.take ((n+k) * sz)).length=(n+k) * sz:=by rw [List.length_take];omega
  have hnk:(n+k) * sz=n * sz+k * sz:=Nat.add_mul _ _ _
  rw [List.getElem?_drop]
  have hos:=ho o hS
  by_cases e:j=k
  · subst e
    rw [List.getElem?_append_right (by omega),hq,show n * sz+(j * sz+o)-(n+j) * sz=o by omega,List.getElem?_append_left (by omega)];exact hn o hS
  · have h5:(j+1) * sz≤k * sz:=Nat.mul_le_mul_right _ (by omega)
    rw [Nat.succ_mul] at h5
    rw [List.getElem?_append_left (by omega),List.getElem?_take_of_lt (by omega),←List.getElem?_drop]
    exact h j o (by omega) hS
theorem Mks.keep {q m:Nat} (h:Mks sz S mk cs k) (ho:∀o,S o→o<sz) (hq:k * sz≤q) (hm:q≤cs.length):Mks sz S mk (cs.take q++(ns++cs.drop m)) k:=fun j o hj hS=>by
  have hos:=ho o hS
  have h5:(j+1) * sz≤k * sz:=Nat.mul_le_mul_right _ (by omega)
  rw [Nat.succ_mul] at h5
  rw [List.getElem?_append_left (by rw [List.length_take];omega),List.getElem?_take_of_lt (by omega)]
  exact h j o hj hS
end
def OR.Oks (sz:Nat):OR→Prop
  | .nil=>True
  | .blk j f own cs n room=>cs.length=(n+room) * sz∧n≤1000000∧(room=0∨room=2)∧(own=true→room=0∧f=false)
def OR.Mks (sz:Nat) (S:Nat→Prop) (mk:Nat→Nat→Nat→AV) (i:Nat):OR→Prop
  | .nil=>True
  | .blk j f own cs n room=>Abs.Mks sz S (mk i) cs n
def DR.Oks (sz:Nat) (S:Nat→Prop) (m:Nat) (mk bh:Nat→Nat→AV) (r:DR):Prop:=rdl r.bk=some r.cs∧Abs.Mks sz S mk r.cs r.n∧Abs.Mks sz S bh (r.cs.drop (r.n * sz)) m∧match r.old with
  | none=>r.n=0
  | some (_,bk,oc)=>rdl bk=some oc∧Abs.Mks sz S mk oc r.n
structure DR.Ins (sz:Nat) (S:Nat→Prop) (el c q:Nat) (mk bh:Nat→Nat→AV) (v:AV) (d:DR):Prop where
  v:d.v=v
  ok:d.Oks sz S c mk bh
  len:d.cs.length=(d.n+c) * sz
  grown:Grown d.bk d.cs el sz q
  q:q≤(d.n+c) * sz
  n:d.n≤1000000
section
variable {sz:Nat} {S:Nat→Prop} {el c q:Nat} {mk bh:Nat→Nat→AV}
theorem DR.Ins.more {v:AV} {d:DR} (h:d.Ins sz S el c q mk bh v) (i':K) {ns:List AV} (hn:∀o,S o→ns[o]?=some (bh c o)) (ho:∀o,S o→o<sz) (hl:ns.length=sz) :
    DR.Ins sz S el (c+1) ((d.n+c) * sz) mk bh v { d with i:=i',bk:=.kept (d.cs++ns) el sz ((d.n+c) * sz),cs:=d.cs++ns } where
  v:=h.v
  ok:=by
    obtain ⟨h1,h2,h3,h4⟩:=h.ok
    refine ⟨rfl,h2.app,?_,h4⟩
    show Mks sz S bh ((d.cs++ns).drop (d.n * sz)) (c+1)
    have hle:d.n * sz≤d.cs.length:=by rw [h.len];exact Nat.mul_le_mul_right _ (by omega)
    rw [List.drop_append_of_le_length hle]
    exact h3.snoc (by rw [List.length_drop,h.len,Nat.add_mul];omega) hn ho
  len:=by show (d.cs++ns).length=_;rw [List.length_append,h.len,hl,←Nat.add_assoc,Nat.succ_mul]
  grown:=.inr rfl
  q:=Nat.mul_le_mul_right _ (by show d.n+c≤d.n+(c+1);omega)
  n:=h.n
theorem DR.Ins.nil (i':K) {ns:List AV} (hn:∀o,S o→ns[o]?=some (bh 0 o)) (hl:ns.length=sz):DR.Ins sz S el 1 0 mk bh OR.nil.v ⟨0,.ex 0,none,i',.cells ns el sz false,ns⟩ where
  v:=rfl
  ok:=⟨rfl,Mks.zero,fun j o hj hS=>by
    obtain rfl:j=0:=by omega
    show (ns.drop (0 * sz))[0 * sz+o]?=_
    rw [Nat.zero_mul,List.drop_zero,Nat.zero_add];exact hn o hS,rfl⟩
  len:=by show ns.length=(0+1) * sz;omega
  grown:=.inl ⟨rfl,rfl⟩
  q:=Nat.zero_le _
  n:=Nat.zero_le _
theorem DR.Ins.fst {j:K} {n room:Nat} {cp:Cp} {cs:List AV} (bk:Bk) (hb:rdl bk=some cs) (i':K) (bk':Bk) {ns:List AV} (hg:Grown bk' (cs++ns) el sz q) (hq:q≤(n+room) * sz) (hm:Mks sz S mk cs n) (hbh:Mks sz S bh (cs.drop (n * sz)) room) (hcl:cs.length=(n+room) * sz) (hn1:n≤1000000) (hn:∀o,S o→ns[o]?=some (bh room o)) (ho:∀o,S o→o<sz) (hl:ns.length=sz) :
    DR.Ins sz S el (room+1) q mk bh (.slice (some (j,0)) n cp) ⟨n,cp,some (j,bk,cs),i',bk',cs++ns⟩ where
  v:=rfl
  ok:=by
    refine ⟨hg.rdl,hm.app,?_,hb,hm⟩
    show Mks sz S bh ((cs++ns).drop (n * sz)) (room+1)
    have hle:n * sz≤cs.length:=by rw [hcl];exact Nat.mul_le_mul_right _ (by omega)
    rw [List.drop_append_of_le_length hle]
    exact hbh.snoc (by rw [List.length_drop,hcl,Nat.add_mul];omega) hn ho
  len:=by show (cs++ns).length=(n+(room+1)) * sz;rw [List.length_append,←Nat.add_assoc,Nat.succ_mul];omega
  grown:=hg
  q:=Nat.le_trans hq (Nat.mul_le_mul_right _ (by show n+room≤n+(room+1);omega))
  n:=hn1
end
theorem subL_at {α:Type} (l:List α) (o n:Nat) (h:o+n≤l.length):subL l o n=some ((l.drop o).take n):=by
  have h1:(l.take o).length=o:=by rw [List.length_take];omega
  have h2:((l.drop o).take n).length=n:=by rw [List.length_take,List.length_drop];omega
  have h3:=subL_mk (l.take o) ((l.drop o).take n) (l.drop (o+n))
  rw [h1,h2] at h3
  rw [←h3]
  congr 1
  rw [←List.drop_drop,List.take_append_drop,List.take_append_drop]
theorem subL_of {α:Type} {cs L:List α} {q n:Nat} (hL:L.length=n) (hn:0<n) (h:∀o,o<n→cs[q+o]?=L[o]?):subL cs q n=some L:=by
  have h0:q+n≤cs.length:=by
    have h1:=h (n-1) (by omega)
    rw [List.getElem?_eq_getElem (show n-1<L.length by omega)] at h1
    have:=(List.getElem?_eq_some_iff.1 h1).1
    omega
  rw [subL_at cs q n h0]
  congr 1
  refine List.ext_getElem? fun i=>?_
  rw [List.getElem?_take]
  split
  · rename_i hi;rw [List.getElem?_drop];exact h i hi
  · rename_i hi;rw [List.getElem?_eq_none (by omega)]
theorem part_agg {tb:T TI} {t:Nat} {td:TD} {n z3:Nat} {z4:Option AV} {q:Nat} {cs L:List AV} (h:ti tb t=some ⟨td,true,n,z3,z4⟩) (hs:subL cs q n=some L):partG tb t cs q=some (.agg L):=by
  unfold partG
  rw [h]
  show aggO (subL cs q n)=_
  rw [hs];rfl
def cell (off:Nat) (l:List AV) (o:Nat):AV:=l.getD (o-off) (.bool false)
theorem cell_some {off:Nat} {l:List AV} {o:Nat} (h:o-off<l.length):l[o-off]?=some (cell off l o):=by
  unfold cell
  rw [List.getD_eq_getElem?_getD,List.getElem?_eq_getElem h];rfl
theorem Mks.sub {sz:Nat} {L:Nat→List AV} {cs:List AV} {k j:Nat} (h:Mks sz (·<sz) (fun j o=>cell 0 (L j) o) cs k) (hj:j<k) (hL:(L j).length=sz) (hs:0<sz):subL cs (j * sz) sz=some (L j) :=
  subL_of hL hs fun o ho=>by
    rw [h j o hj ho]
    exact (cell_some (off:=0) (by omega)).symm
end Go.Proofs.YtoegffiapnnkiaaGreat.Abs
