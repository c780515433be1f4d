/- Parts of one proof. No condition but those that each theorem names. -/
import Derived.Test.YtoegffiapnnkiaaGreatPE42
import Derived.Test.YtoegffiapnnkiaaGreatPE46
import Derived.Test.YtoegffiapnnkiaaGreatPE49
namespace Go.Proofs.YtoegffiapnnkiaaGreat.Abs
open Go Go.RowKit
set_option linter.unusedVariables false
set_option linter.unusedSimpArgs false
set_option maxRecDepth 100000
set_option maxHeartbeats 4000000
theorem CpT.trans {D:Dm} {x y z:Table} (h:CpT D x y) (s:SameT y z):CpT D x z:=by
  refine ⟨h.name.trans s.name,h.slots.trans s.slots,⟨h.regs.1.trans s.regs,h.regs.2⟩,⟨h.consts.1.trans s.consts,h.consts.2⟩,⟨h.code.1.trans s.code,h.code.2⟩,?_⟩
  obtain ⟨s1,s2,s3,s4,s5,s6,s7⟩:=s
  refine ⟨h.states.1.trans s6,h.states.2.1,fun i h1 h2=>?_⟩
  have h3:i<y.states.l.length:=by rw [s6];exact h2
  obtain ⟨c1,c2,c3⟩:=h.states.2.2 i h1 h3
  obtain ⟨d1,d2⟩:=s7 i h3 h2
  refine ⟨c1.trans d1,c2,fun k k1 k2=>?_⟩
  have k3:k<y.states.l[i].l.length:=by rw [d1];exact k2
  obtain ⟨e1,e2⟩:=c3 k k1 k3
  obtain ⟨f1,f2,f3,f4⟩:=d2 k k3 k2
  exact ⟨⟨e1.1.trans f1,e1.2.1.trans f2,e1.2.2.1.trans f3,e1.2.2.2.trans f4⟩,e2⟩
theorem docK_in {V:K→Option (List AV)} {D:Dm} (hn:(names D).Nodup) {jo:K} {kn:KR} (h:∀z∈knD jo kn,z∈D):(docK jo kn).In (withV V D) false 1 Sl.v∧∀r∈(docK jo kn).l,r.In (withV V D) true 3 Cch.av:=by
  have e:(docK jo kn).l.flatMap slC=kn.flatMap knH:=by
    show (kn.map _).flatMap slC=_
    rw [List.flatMap_map];rfl
  refine ⟨RowIn.in (enc:=slC) (el:=168) hn ?_ (fun _=>rfl) (fun _=>rfl),fun r hr=>?_⟩
  · cases kn with
    | nil=>exact .inl rfl
    | cons x kn=>exact .inr ⟨jo,false,rfl,by rw [e];exact h _ (List.mem_append_left _ (.head _))⟩
  · obtain ⟨q,hq,rfl⟩:=List.mem_map.1 hr
    exact RowIn.in (enc:=Cch.cs) (el:=170) hn (.inr ⟨q.1,true,rfl,h _ (List.mem_append_right _ (List.mem_map_of_mem hq))⟩) (fun _=>rfl) (fun _=>rfl)
theorem set_enc {α:Type} {enc:α→List AV} {sz:Nat} (he:∀a,(enc a).length=sz) {l:List α} {n:Nat} (h:n<l.length) (v:α):setLs (l.flatMap enc) (0+(n:Int).toNat * sz) (enc v)=some ((l.set n v).flatMap enc):=by
  have hl:∀l:List α,(l.flatMap enc).length=l.length * sz:=fun l=>by
    induction l with
    | nil=>simp
    | cons x l ih=>rw [List.flatMap_cons,List.length_append,ih,he,List.length_cons,Nat.succ_mul];omega
  have h2:=setLs_cat (enc v) (enc l[n]) (by rw [he,he]) ((l.drop (n+1)).flatMap enc) ((l.take n).flatMap enc)
  rw [hl,List.length_take,show min n l.length=n by omega] at h2
  have e:l.flatMap enc=(l.take n).flatMap enc++(enc l[n]++(l.drop (n+1)).flatMap enc):=by
    conv=>lhs;rw [←List.take_append_drop n l,List.drop_eq_getElem_cons h]
    rw [List.flatMap_append,List.flatMap_cons]
  rw [e,show 0+(n:Int).toNat * sz=n * sz by simp,h2,List.set_eq_take_append_cons_drop,if_pos h,List.flatMap_append,List.flatMap_cons]
theorem part_two {D:Dm} {i:K} {l:List Int} (h:∀z∈gD iC 2 1 i l,z∈D) {x:Sl Instr} (hx:RowIn D Instr.cs 86 2 x) :
    ∃(cD:List Instr→Dm) (Y:Dm),(0<x.l.length→∃j f,x.a=some (j,0)∧∀ms,cD ms=[(j,.cells (ms.flatMap Instr.cs) 86 2 f)])∧D.Perm (gD iC 2 1 i l++(cD x.l++Y)):=by
  have key:∀ {E:Dm},(∀z∈gD iC 2 1 i l,z∈E)→∃Y,E.Perm (gD iC 2 1 i l++Y):=by
    intro E hE
    cases l with
    | nil=>exact ⟨E,List.Perm.refl _⟩
    | cons a l =>
      obtain ⟨s,t,rfl⟩:=List.append_of_mem (hE _ (.head _))
      exact ⟨s++t,List.perm_middle⟩
  rcases hx with hx|⟨j,f,hj,hm⟩
  · obtain ⟨Y,hY⟩:=key h
    exact ⟨fun _=>[],Y,fun h=>absurd h (by rw [hx];simp),hY⟩
  · obtain ⟨s,t,rfl⟩:=List.append_of_mem hm
    have h2:∀z∈gD iC 2 1 i l,z∈s++t:=fun z hz=>by
      have:=h z hz
      rw [List.mem_append,List.mem_cons] at this
      rw [List.mem_append]
      rcases this with h|rfl|h
      · exact .inl h
      · exfalso
        cases l with
        | nil=>cases hz
        | cons a l =>
          rcases List.mem_cons.1 hz with hz|hz
          · injection hz with _ hz;injection hz with _ _ hz;cases hz
          · cases hz
      · exact .inr h
    obtain ⟨Y,hY⟩:=key h2
    refine ⟨fun ms=>[(j,.cells (ms.flatMap Instr.cs) 86 2 f)],Y,fun _=>⟨j,f,hj,fun _=>rfl⟩,?_⟩
    refine List.perm_middle.trans ((hY.cons _).trans ?_)
    exact permC fun _ a=>by simp only [consS,List.count_append,List.count_nil];omega
section
variable {P:Program} {g:Cg} {n:Nat} {V:K→Option (List AV)} {rs:List ResultVar} {st:List Fr} {Γ:Gm} {Δ:Dm} {Q:RO→Dm→Prop} {b:Bool} {all rest:List Oper} {ty:TypeId} {pos:String} {after:Array Edge} {gd:Option (Nat×Bool)}
theorem W.callK {dst:Option Nat} {fx:Operand} {xs:Array Operand} {tys:Array TypeId} {f:Nat} {first caps vs:List AV} {R:Dm} {x0 x1:K×Bk} {v:AV} (hf:eg Γ fx=some (.func f first caps)) (ha:egs Γ xs.toList=some vs)
    (hd:dstOk n dst=true) (hw:wantG all Γ ⟨dst,.call ⟨.value fx,xs,tys⟩,ty,pos,after,gd⟩=some true)
    (hc:Cl P g (withV V R) f (first++vs++caps) [x0] fun o Δ'=>o=.ret v∧x1∈Δ')
    (h:W P g n V rs (.o b all rest::st) .nrm (dstG dst v Γ) (x1::R) Q):W P g n V rs (.o b all (⟨dst,.call ⟨.value fx,xs,tys⟩,ty,pos,after,gd⟩::rest)::st) .nrm Γ (x0::R) Q :=
  W.callHe (Δ:=[x0]) (R:=R) hf ha hd hw hc (fun _ _ h=>by obtain ⟨h,-⟩:=h;cases h) fun u Δ' hq=>by
    obtain ⟨h1,hm⟩:=hq
    injection h1 with h1;subst h1
    exact W.dropE (x1::R) ((List.singleton_sublist.2 hm).append (List.Sublist.refl R)) h
end
attribute [local irreducible] W Cl Bd
variable {V:K→Option (List AV)} {t:Table}
theorem looks_at (ht:t.Ok V) (hck:checkS t=none) {R D:Dm} {k kx jr km jr' jo:K} {T:Table} {e:Ev} {kn:KR} {L:List Ent} {c:Nat} (hva:∀i∈names R,V i=none) (hnd:(names R).Nodup) (hcp:CpT D T t) (hD:∀z∈D,z∈R)
    (hk:evB k T jr km e∈R) (hr:∀z∈gD iC 2 1 jr e.regs,z∈R) (hkx:dvB kx t jr' jo kn e∈R) (hr':∀z∈gD iC 2 1 jr' e.regs,z∈R) (hb:∀z∈knD jo kn,z∈R) (hrl:e.regs.length≤1000) (hkn:kn.map (·.2)=matF (lkE L) 0 t.states.l) :
    Cl Tryz.prog G21 (withV V R) 36 [.ptr (some (k,0)),.ptr (some (kx,0))] [(km,.mp (L.map entA) c)] fun o Δ=>o=.ret (.bool true)∧(km,.mp (L.map entA) c)∈Δ:=by
  have hT:=CpT.ok (CpT.mono hcp hD) ht hnd
  obtain ⟨s1,s2,-⟩:=check_small hck
  have hsame:=hcp.same
  obtain ⟨d1,d2⟩:=docK_in (V:=V) hnd hb
  refine looks_c look21 hT (by rw [hsame.slen];exact s1) (fun s hs=>?_) (withV_at hnd hk) (withV_at hnd hkx) ((gS_in (enc:=iC) (el:=2) (sz:=1) (i:=jr) (l:=e.regs) hr).in (V:=V) (one:=AV.int .i64) (ag:=false) hnd (fun _=>rfl) (fun _=>rfl)) ((gS_in (enc:=iC) (el:=2) (sz:=1) (i:=jr') (l:=e.regs) hr').in (V:=V) (one:=AV.int .i64) (ag:=false) hnd (fun _=>rfl) (fun _=>rfl)) hrl d1 d2 (by rw [hkn,matF_same hsame])
  obtain ⟨i,hi⟩:=List.getElem?_of_mem hs
  obtain ⟨h1,rfl⟩:=List.getElem?_eq_some_iff.1 hi
  have h2:i<t.states.l.length:=by rw [←hcp.states.1];exact h1
  rw [(hcp.states.2.2 i h1 h2).1]
  exact s2 _ (List.getElem_mem h2)
end Go.Proofs.YtoegffiapnnkiaaGreat.Abs
