/- A logic over the abstract machine: what is only read from here on; rows that came out, their owner's alone. No condition but those that each theorem names. -/
import Derived.Test.YtoegffiapnnkiaaGreatWY
namespace Go.Proofs.YtoegffiapnnkiaaGreat.Abs
open Go
set_option linter.unusedVariables false
set_option linter.unusedSimpArgs false
section
variable {P:Program} {g:Cg} {n:Nat} {V:K→Option (List AV)} {rs:List ResultVar} {st:List Fr} {e:Ex} {Γ Γ':Gm} {Δ Δ' R:Dm} {Q Q':RO→Dm→Prop} {tb:T TI} {b:Bool} {all rest:List Oper}
variable {ty:TypeId} {pos:String} {after:Array Edge} {gd:Option (Nat×Bool)} {d:Nat} {x y:Operand} {t:TypeId}
theorem W.lendW (Δ R:Dm) (h:W P g n (withV V R) rs st e Γ Δ fun o Δ'=>Q o (Δ'++R)):W P g n V rs st e Γ (Δ++R) Q:=fun F s tm hM hT=>by
  obtain ⟨o,Δ',s',hq,hm,out,h1,h2⟩:=h (withD F R) s tm hM.lend hT
  have hs:∀i∈names R,i∈names (Δ++R):=fun i hi=>by simp only [names,List.map_append,List.mem_append];exact .inr hi
  exact ⟨o,Δ'++R,s',hq,hm.unlend hM.nodupR (fun x hx=>hM.ownB x (by simp [hx])) (fun i hi=>hM.apart i (hs i hi)) (fun i hi=>hM.vapart i (hs i hi)),out,h1,h2⟩
theorem W.ldM (hT:TabOk P tb) {i:K} {q:Nat} {bk:Bk} {cs:List AV} {v:AV} (hx:eg Γ x=some (.ptr (some (i,q)))) (hΔ:(i,bk)∈Δ) (hr:rdl bk=some cs) (hp:partG tb t cs q=some v)
    (hn:Nat.ble (d+1) n=true) (hw:wantG all Γ ⟨some d,.load t x,ty,pos,after,gd⟩=some true)
    (h:W P g n V rs (.o b all rest::st) .nrm ((d,v)::Γ) Δ Q):W P g n V rs (.o b all (⟨some d,.load t x,ty,pos,after,gd⟩::rest)::st) .nrm Γ Δ Q :=
  W.op hw hn fun F s tm hM hG=>⟨v,s,Δ,⟨0,fun k _=>load_ok hT hG hx (hM.own _ hΔ) hr hp (callA P g (exec P g k))⟩,hM,h⟩
theorem W.bldA (hT:TabOk P tb) {len el sz:Nat} {ps:Array (Nat×Operand)} {pl:List (Nat×AV)} {cs:List AV} {z:AV} {td:TD} {z1 z5:Bool} {z2 z3 z6:Nat} {z7:Option AV} (hp:egParts Γ ps.toList=some pl) (ht:ti tb t=some ⟨.arr len el,z1,z2,z3,some z⟩) (he:ti tb el=some ⟨td,z5,sz,z6,z7⟩) (hf:fillA (fun i=>some (i * sz,sz)) z.parts pl=some cs)
    (hn:Nat.ble (d+1) n=true) (hw:wantG all Γ ⟨some d,.build t ps,ty,pos,after,gd⟩=some true)
    (h:W P g n V rs (.o b all rest::st) .nrm ((d,.agg cs)::Γ) Δ Q):W P g n V rs (.o b all (⟨some d,.build t ps,ty,pos,after,gd⟩::rest)::st) .nrm Γ Δ Q :=
  W.pure rfl hn hw (fun tm s call hG=>by
    show ofO (opBuild P t (evParts tm ps.toList)) s=_
    unfold opBuild
    simp only [egParts_ok hG hp,(hT.get ht).zero z rfl,hT.arr ht,(hT.get he).size,hf];rfl) h
theorem W.idxA (hT:TabOk P tb) {len el sz:Nat} {ix:Operand} {l:List AV} {i:Int} {k:IntKind} {v:AV} {td:TD} {z1 z5:Bool} {z2 z3 z6:Nat} {z4 z7:Option AV} (hx:eg Γ x=some (.agg l)) (hi:eg Γ ix=some (.int k i)) (ht:ti tb t=some ⟨.arr len el,z1,z2,z3,z4⟩) (he:ti tb el=some ⟨td,z5,sz,z6,z7⟩)
    (hn:Nat.ble (d+1) n=true) (hw:wantG all Γ ⟨some d,.index t x ix,ty,pos,after,gd⟩=some true) (h0:0≤i) (h1:i<len) (hv:partG tb el l (i.toNat * sz)=some v)
    (h:W P g n V rs (.o b all rest::st) .nrm ((d,v)::Γ) Δ Q):W P g n V rs (.o b all (⟨some d,.index t x ix,ty,pos,after,gd⟩::rest)::st) .nrm Γ Δ Q :=
  W.pure rfl hn hw (fun tm s call hG=>by
    obtain ⟨m,rfl⟩:=Int.eq_ofNat_of_zero_le h0
    have hlt:Nat.blt m len=true:=by rw [Nat.blt_eq];omega
    show ofO (opIndex P t (ev tm x) (ev tm ix)) s=_
    rw [hG.eg hx,hG.eg hi]
    show ofO (opIndex P t (some (.agg l)) (some (.int k (Int.ofNat m)))) s=_
    have hv':=partG_ok hT hv
    rw [Int.toNat_natCast] at hv'
    simp only [opIndex,hT.arr ht,hlt,(hT.get he).size]
    rw [show Nat.mul m sz=m * sz from rfl,hv'];rfl) h
theorem W.cutS (hT:TabOk P tb) {i:K} {o len m el:Nat} {c:Cp} {k:IntKind} {hi:Operand} {td:TD} {z1 z5:Bool} {z2 z3 sz by_:Nat} {z4 z4':Option AV} (hx:eg Γ x=some (.slice (some (i,o)) len c)) (hh:eg Γ hi=some (.int k (m:Int))) (ht:ti tb t=some ⟨.sl el,z1,z2,z3,z4⟩) (he:ti tb el=some ⟨td,z5,sz,by_,z4'⟩) (hm:m≤capM c len)
    (hn:Nat.ble (d+1) n=true) (hw:wantG all Γ ⟨some d,.slice t x none (some hi) none,ty,pos,after,gd⟩=some true)
    (h:W P g n V rs (.o b all rest::st) .nrm ((d,.slice (some (i,o)) m c)::Γ) Δ Q):W P g n V rs (.o b all (⟨some d,.slice t x none (some hi) none,ty,pos,after,gd⟩::rest)::st) .nrm Γ Δ Q :=
  W.pure rfl hn hw (fun tm s' call hG=>by
    have hb:bound1 (capM c len) len (some (.int k (m:Int)))=some m:=by
      show (if 0≤(m:Int)∧(m:Int)≤(capM c len:Int) then some (m:Int).toNat else none)=_
      rw [if_pos ⟨by omega,by omega⟩];rfl
    have hb2:bound1 m 0 none=some 0:=rfl
    show ofO (opSlice P t (ev tm x) (some none) (evO tm (some hi)) (some none)) s'=_
    have e:evO tm (some hi)=some (some (.int k (m:Int))):=by
      show (match ev tm hi with|some v=>some (some v)|none=>none)=_
      rw [hG.eg hh]
    rw [hG.eg hx,e]
    simp only [opSlice,hT.sl ht,(hT.get he).size,hb,hb2,if_true];rfl) h
theorem part_leaf {td:TD} {z1 z3:Nat} {z4:Option AV} {q:Nat} {cs:List AV} {v:AV} (h:ti tb t=some ⟨td,false,z1,z3,z4⟩) (hv:cs[q]?=some v):partG tb t cs q=some v:=by
  unfold partG
  rw [h]
  show getL cs q=_
  rw [getL_eq];exact hv
theorem num_in0 {s:Sl Int} (h:s.In V false 1 (AV.int .i64)) {a:Int} (h0:0≤a) (h1:a<s.l.length):∃j o cs,s.a=some (j,o)∧V j=some cs∧partG tbl 2 cs (o+a.toNat * 1)=some (.int .i64 (s.l.getD a.toNat 0)):=by
  have he:s.l[a.toNat]?=some (s.l.getD a.toNat 0):=by
    rw [List.getD_eq_getElem?_getD,List.getElem?_eq_getElem (by omega)];rfl
  exact h a.toNat _ he
theorem setLs_one (v:AV):∀(l:List AV) (i:Nat),i<l.length→setLs l i [v]=some (l.set i v)
  | [],i,h=>by simp at h
  | x::l,0,h=>by
    show consO v (setLs l 0 [])=_
    cases l<;>rfl
  | x::l,i+1,h=>by
    show consO x (setLs l i [v])=_
    rw [setLs_one v l i (by simpa using h)];rfl
end
section
variable {P:Program} {g:Cg} {n:Nat} {V:K→Option (List AV)} {rs:List ResultVar} {st:List Fr} {Γ:Gm} {Δ:Dm} {Q:RO→Dm→Prop}
theorem W.dropE (Δ':Dm) (hd:Δ'.Sublist Δ) {e:Ex} (h:W P g n V rs st e Γ Δ' Q):W P g n V rs st e Γ Δ Q:=fun F s tm hM hT=>h F s tm (hM.drop hd) hT
theorem W.wk {Γ':Gm} {Δ':Dm} {e:Ex} (h:W P g n V rs st e Γ' Δ' Q) (hk:Knows Γ Γ') (hd:Δ'.Sublist Δ):W P g n V rs st e Γ Δ Q:=W.weak Γ' Δ' hk hd h
theorem W.ind {α:Type} (μ:α→Nat) (G:α→Gm) (D:α→Dm) (a0:α) {e:Ex} (hk:Knows Γ (G a0)) (hd:(D a0).Sublist Δ)
    (step:∀a,(∀a',μ a'<μ a→W P g n V rs st e (G a') (D a') Q)→W P g n V rs st e (G a) (D a) Q):W P g n V rs st e Γ Δ Q:=by
  refine W.weak (G a0) (D a0) hk hd ?_
  have key:∀m a,μ a<m→W P g n V rs st e (G a) (D a) Q:=fun m=>by
    induction m with
    | zero=>intro a h;omega
    | succ m ih=>exact fun a h=>step a fun a' h'=>ih a' (by omega)
  exact key (μ a0+1) a0 (by omega)
theorem W.loopF {c:Code} (A:Gm→Dm→Prop) (h2:∀Γ' Δ',A Γ' Δ'→W P g n V rs (.c (.loop c)::st) .nrm Γ' Δ' Q) (h1:(∀Γ' Δ',A Γ' Δ'→W P g n V rs (.c (.loop c)::st) .nrm Γ' Δ' Q)→W P g n V rs (.c (.loop c)::st) .nrm Γ Δ Q):W P g n V rs (.c (.loop c)::st) .nrm Γ Δ Q:=h1 h2
end
inductive OR where
  | nil
  | blk (j:K) (f own:Bool) (cs:List AV) (n room:Nat)
def OR.cp (own:Bool) (m:Nat):Cp:=if own=true then .own 0 else .ex m
def OR.v:OR→AV
  | .nil=>.slice none 0 (.ex 0)
  | .blk j f own cs n room=>.slice (some (j,0)) n (OR.cp own (n+room))
def OR.b (el sz:Nat):OR→Dm
  | .nil=>[]
  | .blk j f own cs n room=>[(j,.cells cs el sz f)]
def OR.Ok (sz:Nat):OR→Prop
  | .nil=>True
  | .blk j f own cs n room=>cs.length=(n+room) * sz∧n≤1000000∧room=0∧(own=true→room=0∧f=false)
def Mk (sz off:Nat) (mk:Nat→AV) (cs:List AV) (k:Nat):Prop:=∀j,j<k→cs[j * sz+off]?=some (mk j)
def OR.Mk (sz off:Nat) (mk:Nat→Nat→AV) (i:Nat):OR→Prop
  | .nil=>True
  | .blk j f own cs n room=>Abs.Mk sz off (mk i) cs n
theorem Mk.set {sz off:Nat} {mk:Nat→AV} {cs:List AV} {k:Nat} (h:Mk sz off mk cs k) (ho:off<sz) (hl:k * sz+off<cs.length):Mk sz off mk (cs.set (k * sz+off) (mk k)) (k+1):=fun j hj=>by
  by_cases e:j=k
  · subst e
    rw [List.getElem?_set_self hl]
  · have:j * sz+off≠k * sz+off:=fun h=>e (Nat.eq_of_mul_eq_mul_right (by omega) (Nat.add_right_cancel h))
    rw [List.getElem?_set_ne (fun h=>this h.symm)]
    exact h j (by omega)
def hdL (jl:K) (m:Nat):AV:=.slice (if m=0 then none else some (jl,0)) m (if m=0 then .ex 0 else .own 0)
def blL (jl:K) (bk:Bk) (m:Nat):Dm:=if m=0 then [] else [(jl,bk)]
theorem blL_in {jl:K} {bk:Bk} {m:Nat} (h:0<m):(jl,bk)∈blL jl bk m:=by unfold blL;rw [if_neg (by omega)];simp
structure DR where
  n:Nat
  c:Cp
  old:Option (K×Bk×List AV)
  i:K
  bk:Bk
  cs:List AV
def DR.v (r:DR):AV:=.slice (r.old.map fun x=>(x.1,0)) r.n r.c
def DR.w (m:Nat) (r:DR):AV:=.slice (some (r.i,0)) (r.n+m) (.own 0)
def DR.ob (r:DR):Dm:=match r.old with
  | none=>[]
  | some (j,bk,_)=>[(j,bk)]
def DR.b (r:DR):Dm:=(r.i,r.bk)::r.ob
def DR.Ok (sz off m:Nat) (mk bh:Nat→AV) (r:DR):Prop:=rdl r.bk=some r.cs∧Abs.Mk sz off mk r.cs r.n∧Abs.Mk sz off bh (r.cs.drop (r.n * sz)) m∧match r.old with
  | none=>r.n=0
  | some (_,bk,oc)=>rdl bk=some oc∧Abs.Mk sz off mk oc r.n
theorem Mk.mono {sz off:Nat} {mk:Nat→AV} {cs:List AV} {k k':Nat} (h:Mk sz off mk cs k) (hk:k'≤k):Mk sz off mk cs k':=fun j hj=>h j (by omega)
theorem Mk.app {sz off:Nat} {mk:Nat→AV} {cs ds:List AV} {k:Nat} (h:Mk sz off mk cs k):Mk sz off mk (cs++ds) k:=fun j hj=>by
  have:=h j hj
  rw [List.getElem?_append_left (by rw [List.getElem?_eq_some_iff] at this;exact this.1)];exact this
theorem Mk.take {sz off:Nat} {mk:Nat→AV} {cs:List AV} {k m:Nat} (h:Mk sz off mk cs k) (ho:off<sz) (hm:k * sz≤m):Mk sz off mk (cs.take m) k:=fun j hj=>by
  have h1:(j+1) * sz≤k * sz:=Nat.mul_le_mul_right _ (by omega)
  rw [Nat.succ_mul] at h1
  rw [List.getElem?_take_of_lt (by omega)]
  exact h j hj
theorem Mk.snoc {sz off:Nat} {mk:Nat→AV} {cs ns:List AV} {k:Nat} (h:Mk sz off mk cs k) (hl:cs.length=k * sz) (hn:ns[off]?=some (mk k)) (ho:off<sz):Mk sz off mk (cs++ns) (k+1):=fun j hj=>by
  by_cases e:j=k
  · subst e
    rw [List.getElem?_append_right (by omega),show j * sz+off-cs.length=off by omega];exact hn
  · exact h.app j (by omega)
structure DR.In (sz off el c q:Nat) (mk bh:Nat→AV) (v:AV) (d:DR):Prop where
  v:d.v=v
  ok:d.Ok sz off c mk bh
  len:d.cs.length=(d.n+c) * sz
  grown:Grown d.bk d.cs el sz q
  q:q≤(d.n+c) * sz
  n:d.n≤1000000
theorem hdL_pos {il:K} {m:Nat} (h:0<m):hdL il m=.slice (some (il,0)) m (.own 0):=by unfold hdL;rw [if_neg (by omega),if_neg (by omega)]
theorem blL_pos {il:K} {bk:Bk} {m:Nat} (h:0<m):blL il bk m=[(il,bk)]:=by unfold blL;rw [if_neg (by omega)]
theorem DR.In.more {sz off el c q:Nat} {mk bh:Nat→AV} {v:AV} {d:DR} (h:d.In sz off el c q mk bh v) (i':K) {ns:List AV} (hn:ns[off]?=some (bh c)) (ho:off<sz) (hl:ns.length=sz) :
    DR.In sz off el (c+1) ((d.n+c) * sz) mk bh v { d with i:=i',bk:=.kept (d.cs++ns) el sz ((d.n+c) * sz),cs:=d.cs++ns } where
  v:=h.v
  ok:=by
    obtain ⟨h1,h2,h3,h4⟩:=h.ok
    refine ⟨rfl,h2.app,?_,h4⟩
    show Mk sz off bh ((d.cs++ns).drop (d.n * sz)) (c+1)
    have hle:d.n * sz≤d.cs.length:=by rw [h.len];exact Nat.mul_le_mul_right _ (by omega)
    rw [List.drop_append_of_le_length hle]
    exact h3.snoc (by rw [List.length_drop,h.len,Nat.add_mul];omega) hn ho
  len:=by show (d.cs++ns).length=_;rw [List.length_append,h.len,hl,←Nat.add_assoc,Nat.succ_mul]
  grown:=.inr rfl
  q:=Nat.mul_le_mul_right _ (by show d.n+c≤d.n+(c+1);omega)
  n:=h.n
theorem DR.In.nil {sz off el:Nat} {mk bh:Nat→AV} (i':K) {ns:List AV} (hn:ns[off]?=some (bh 0)) (hl:ns.length=sz):DR.In sz off el 1 0 mk bh OR.nil.v ⟨0,.ex 0,none,i',.cells ns el sz false,ns⟩ where
  v:=rfl
  ok:=⟨rfl,fun j hj=>absurd hj (Nat.not_lt_zero _),fun j hj=>by
    obtain rfl:j=0:=by omega
    show (ns.drop (0 * sz))[0 * sz+off]?=_
    rw [Nat.zero_mul,List.drop_zero,Nat.zero_add];exact hn,rfl⟩
  len:=by show ns.length=(0+1) * sz;omega
  grown:=.inl ⟨rfl,rfl⟩
  q:=Nat.zero_le _
  n:=Nat.zero_le _
theorem DR.In.fst {sz off el q:Nat} {mk bh:Nat→AV} {j:K} {n:Nat} {c:Cp} {cs os:List AV} (bk:Bk) (hb:rdl bk=some cs) (i':K) (bk':Bk) {ns:List AV} (hg:Grown bk' (os++ns) el sz q) (hq:q≤n * sz) (hm:Mk sz off mk cs n) (hos:Mk sz off mk os n) (hol:os.length=n * sz) (hn1:n≤1000000) (hn:ns[off]?=some (bh 0)) (hl:ns.length=sz) :
    DR.In sz off el 1 q mk bh (.slice (some (j,0)) n c) ⟨n,c,some (j,bk,cs),i',bk',os++ns⟩ where
  v:=rfl
  ok:=by
    refine ⟨hg.rdl,hos.app,fun j hj=>?_,hb,hm⟩
    obtain rfl:j=0:=by omega
    show ((os++ns).drop (n * sz))[0 * sz+off]?=_
    rw [List.drop_append_of_le_length (by omega),List.drop_eq_nil_of_le (by omega),List.nil_append,Nat.zero_mul,Nat.zero_add];exact hn
  len:=by show (os++ns).length=(n+1) * sz;rw [List.length_append,Nat.succ_mul];omega
  grown:=hg
  q:=Nat.le_trans hq (Nat.mul_le_mul_right _ (Nat.le_succ _))
  n:=hn1
end Go.Proofs.YtoegffiapnnkiaaGreat.Abs
