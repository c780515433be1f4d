/- Parts of one proof. No condition but those that each theorem names. -/
import Derived.Test.YtoegffiapnnkiaaGreatPE33
import Derived.Test.YtoegffiapnnkiaaGreatPE41
import Derived.Test.YtoegffiapnnkiaaGreatPE42
import Derived.Test.YtoegffiapnnkiaaGreatPE43
namespace Go.Proofs.YtoegffiapnnkiaaGreat.Abs
open Go
set_option linter.unusedVariables false
set_option linter.unusedSimpArgs false
set_option maxRecDepth 100000
set_option maxHeartbeats 4000000
theorem gS_len {α:Type} (i:K) {l l':List α} (h:l.length=l'.length):(gS i l).v=(gS i l').v:=by
  cases l with
  | nil=>cases l' with
    | nil=>rfl
    | cons _ _=>simp at h
  | cons x l=>cases l' with
    | nil=>simp at h
    | cons y l'=>show AV.slice (some (i,0)) (x::l).length (.own 0)=.slice (some (i,0)) (y::l').length (.own 0);rw [h]
def docK (jo:K) (kn:KR):Sl (Sl Cch):=⟨(gS jo kn).a,(gS jo kn).c,kn.map fun r=>⟨some (r.1,0),.ex r.2.length,r.2⟩⟩
def outK (js:K) (n:Nat) (kr:KR):Sl (Sl Cch):=⟨some (js,0),.ex n,kr.map fun r=>gS r.1 r.2⟩
theorem docK_v (jo:K) (kn:KR):(docK jo kn).v=(gS jo kn).v:=by
  show AV.slice _ (kn.map _).length _=.slice _ (gS jo kn).l.length _
  rw [List.length_map,gS_l];rfl
theorem docK_l (jo:K) (kn:KR):(docK jo kn).l.map (·.l)=kn.map (·.2):=by
  show (kn.map _).map _=_
  rw [List.map_map];rfl
theorem outK_l (js:K) (n:Nat) (kr:KR):(outK js n kr).l.map (·.l)=kr.map (·.2):=by
  show (kr.map _).map _=_
  rw [List.map_map]
  exact List.map_congr_left fun r _=>gS_l r.1 r.2
theorem outK_cs (js:K) (n:Nat) (kr:KR):(outK js n kr).l.flatMap slC=kr.map krH:=by
  show (kr.map _).flatMap slC=_
  rw [List.flatMap_map]
  induction kr with
  | nil=>rfl
  | cons r kr ih=>rw [List.flatMap_cons,List.map_cons,ih];rfl
theorem outK_in {V:K→Option (List AV)} {D:Dm} (hn:(names D).Nodup) {js:K} {n:Nat} {kr:KR} (h1:(js,Bk.cells (kr.map krH) 168 1 true)∈D):(outK js n kr).In (withV V D) false 1 Sl.v :=
  RowIn.in (enc:=slC) (el:=168) hn (.inr ⟨js,true,rfl,by rw [outK_cs];exact h1⟩) (fun _=>rfl) (fun _=>rfl)
theorem outK_rows {V:K→Option (List AV)} {D:Dm} (hn:(names D).Nodup) {js:K} {n:Nat} {kr:KR} (h2:∀z∈krD kr,z∈D):∀r∈(outK js n kr).l,r.In (withV V D) true 3 Cch.av:=fun r hr=>by
  obtain ⟨q,hq,rfl⟩:=List.mem_map.1 hr
  exact (gS_in (enc:=Cch.cs) (el:=170) (sz:=3) (i:=q.1) (l:=q.2) fun z hz=>h2 z (List.mem_flatMap.2 ⟨q,hq,hz⟩)).in (V:=V) (one:=Cch.av) (ag:=true) hn (fun _=>rfl) (fun _=>rfl)
theorem eqSnap_self (a b c d e f:Int):eqStr Tryz.prog 55 (.agg [.int .i64 a,.int .i64 b,.int .i64 c,.int .i64 d,.int .i64 e,.int .i64 f]) (.agg [.int .i64 a,.int .i64 b,.int .i64 c,.int .i64 d,.int .i64 e,.int .i64 f])=some true:=by
  have h:eqStr Tryz.prog 55 (.agg [.int .i64 a,.int .i64 b,.int .i64 c,.int .i64 d,.int .i64 e,.int .i64 f]) (.agg [.int .i64 a,.int .i64 b,.int .i64 c,.int .i64 d,.int .i64 e,.int .i64 f])=some (ieqb a a&&(ieqb b b&&(ieqb c c&&(ieqb d d&&(ieqb e e&&(ieqb f f&&true)))))):=by kernel_rfl
  rw [h]
  simp only [ieqb_eq,beq_self_eq_true,Bool.and_self]
theorem outK_v {js:K} {n:Nat} {kr:KR} (h:kr.length=n):(outK js n kr).v=.slice (some (js,0)) n (.ex n):=by
  show AV.slice _ (kr.map _).length _=_
  rw [List.length_map,h];rfl
theorem cs_len (l:List Cch):(l.flatMap Cch.cs).length=l.length * 3:=by
  induction l with
  | nil=>rfl
  | cons x l ih=>rw [List.flatMap_cons,List.length_append,ih,List.length_cons];show 3+_=_;omega
theorem setC {l:List Cch} {n:Nat} (h:n<l.length) (v:Int):∃l':List Cch,l'.length=l.length∧setLs (l.flatMap Cch.cs) (0+(n:Int).toNat * 3+1) [.int .i64 v]=some (l'.flatMap Cch.cs):=by
  refine ⟨l.take n++⟨l[n].clean,v,l[n].code⟩::l.drop (n+1),by rw [List.length_append,List.length_cons,List.length_take,List.length_drop];omega,?_⟩
  have h2:=setLs_cat [AV.int .i64 v] [AV.int .i64 l[n].v] rfl (AV.int .i64 l[n].code::(l.drop (n+1)).flatMap Cch.cs) ((l.take n).flatMap Cch.cs++[.bool l[n].clean])
  have e:l.flatMap Cch.cs=(l.take n).flatMap Cch.cs++[.bool l[n].clean]++([AV.int .i64 l[n].v]++(AV.int .i64 l[n].code::(l.drop (n+1)).flatMap Cch.cs)):=by
    conv=>lhs;rw [←List.take_append_drop n l,List.drop_eq_getElem_cons h]
    rw [List.flatMap_append,List.flatMap_cons,List.append_assoc];rfl
  rw [List.length_append,cs_len,List.length_take] at h2
  rw [e,show 0+(n:Int).toNat * 3+1=min n l.length * 3+[AV.bool l[n].clean].length by show _=_+1;omega,h2]
  rw [List.flatMap_append,List.flatMap_cons,List.append_assoc];rfl
theorem matF_le (f:Int→Int→Option Cch):∀(i:Nat) (l:List (Sl Guard)),(∀s∈l,s.l.length≤1000)→∀r∈matF f i l,r.length≤1000
  | _,[],_,r,hr=>by cases hr
  | i,s::l,h,r,hr=>by
    rcases List.mem_cons.1 hr with rfl|hr
    · unfold rowM
      rw [List.length_map,List.length_range]
      exact h s (List.mem_cons_self ..)
    · exact matF_le f (i+1) l (fun x hx=>h x (List.mem_cons_of_mem _ hx)) r hr
attribute [local irreducible] W Cl Bd
variable {g:Cg} {V:K→Option (List AV)}
structure LookG (g:Cg):Prop where
  E:EvG g
  looks:Plain g 36=true
  known:Plain g 55=true
  mode:Plain g 17=true
theorem looks_c (G:LookG g) {k kx jr km jr' jo:K} {T t:Table} {e:Ev} {kn:KR} {L:List Ent} {c:Nat} (hT:T.Ok V) (hn:T.states.l.length≤1000) (hn2:∀s∈T.states.l,s.l.length≤1000)
    (hk:V k=some (evC T jr km e)) (hkx:V kx=some (dvC t jr' jo kn e)) (hr:(gS jr e.regs).In V false 1 (AV.int .i64)) (hr':(gS jr' e.regs).In V false 1 (AV.int .i64)) (hrl:e.regs.length≤1000)
    (hb:(docK jo kn).In V false 1 Sl.v) (hbr:∀r∈(docK jo kn).l,r.In V true 3 Cch.av) (hkn:kn.map (·.2)=matF (lkE L) 0 T.states.l) :
    Cl Tryz.prog g V 36 [.ptr (some (k,0)),.ptr (some (kx,0))] [(km,.mp (L.map entA) c)] fun o Δ=>o=.ret (.bool true)∧(km,.mp (L.map entA) c)∈Δ:=by
  refine Cl.enter G.looks Tryz.func36 rfl ?_
  have hst:=evStatus_c (g:=g) (V:=V) G.E hk
  have hmo:=evMode_c (g:=g) G.E hk hr (by omega)
  have hsp:=evSteps_c (g:=g) (V:=V) G.E hk
  have hsn:=evSnap_c (g:=g) (V:=V) G.E hk
  have hlk:kn.length=T.states.l.length:=by have:=congrArg List.length hkn;rw [List.length_map,matF_len] at this;exact this
  repeat first|refine W.callP rfl rfl rfl rfl hst ?_|(refine W.callN (val:=fun i=>.agg [.int .i64 e.s,(gS i e.regs).v]) rfl rfl rfl rfl hmo ?_;rintro i1 _ ⟨R1,rfl⟩)|refine W.ldV tblOk rfl rfl rfl hkx rfl ?_|(with_reducible first|refine za ?_|refine zb ?_|refine zc ?_)|refine ym zr ?_|refine yn 0 zr ?_|refine yn 1 zr ?_|refine yn 2 zr ?_|refine yn 3 zr ?_|(refine yo zr ?_;intro _)|(refine yp zr ?_;intro _)|refine yq zr ?_|refine ys zr ?_|refine yu zr ?_|refine yv zr ?_|(with_reducible first|refine zd ?_|refine ze ?_|refine zf ?_|refine zg ?_|refine zh ?_|refine zi ?_|refine zj ?_|refine zk ?_|refine zl ?_)|refine zz zr ?_|refine zw (by decide +kernel) ?_|refine zx zr zr zr ?_|refine zy zr zr ?_|refine W.condT zr ?_|refine W.condF zr ?_
  have hkl:∀r∈kn.map (·.2),r.length≤1000:=hkn ▸ matF_le _ _ _ hn2
  refine W.know fun hva hnd=>?_
  have in1:=(gS_in (enc:=iC) (el:=2) (sz:=1) (i:=i1) (l:=e.regs) (fun z hz=>by simp [hz])).in (V:=V) (one:=AV.int .i64) (ag:=false) hnd (fun _=>rfl) (fun _=>rfl)
  have hsm:=sameMode_c G.mode in1 (In_mono (withV_le hva) hr') (by rw [gS_l,gS_l]) (by rw [gS_l];omega) e.s
  clear in1 hva hnd
  rename_i i7
  repeat first|refine W.callLP rfl rfl rfl rfl hsm ?_|(with_reducible first|refine za ?_|refine zb ?_|refine zc ?_)|refine ym zr ?_|refine yn 0 zr ?_|refine yn 1 zr ?_|refine yn 2 zr ?_|refine yn 3 zr ?_|(refine yo zr ?_;intro _)|(refine yp zr ?_;intro _)|refine yq zr ?_|refine ys zr ?_|refine yu zr ?_|refine yv zr ?_|(with_reducible first|refine zd ?_|refine ze ?_|refine zf ?_|refine zg ?_|refine zh ?_|refine zi ?_|refine zj ?_|refine zk ?_|refine zl ?_)|refine zz zr ?_|refine zw (by decide +kernel) ?_|refine zx zr zr zr ?_|refine zy zr zr ?_|refine W.condT zr ?_|refine W.condF zr ?_
  clear hsm
  refine W.fr1 ?_
  refine W.know fun hva hnd=>?_
  have hva2:=fun i hi=>hva i (List.mem_cons_of_mem _ hi)
  have hca:=caches_c G.E (Table.okM (withV_le hva2) hT) hn hn2 (withV_le hva2 _ _ hk) L c
  clear hva hva2 hnd
  repeat first|(with_reducible first|refine za ?_|refine zb ?_|refine zc ?_)|refine ym zr ?_|refine yn 0 zr ?_|refine yn 1 zr ?_|refine yn 2 zr ?_|refine yn 3 zr ?_|(refine yo zr ?_;intro _)|(refine yp zr ?_;intro _)|refine yq zr ?_|refine ys zr ?_|refine yu zr ?_|refine yv zr ?_|(with_reducible first|refine zd ?_|refine ze ?_|refine zf ?_|refine zg ?_|refine zh ?_|refine zi ?_|refine zj ?_|refine zk ?_|refine zl ?_)|refine zz zr ?_|refine zw (by decide +kernel) ?_|refine zx zr zr zr ?_|refine zy zr zr ?_|refine W.condT zr ?_|refine W.condF zr ?_
  refine W.callHe (Δ:=[_]) (R:=_::_) rfl rfl rfl rfl hca (by rintro v Δ' ⟨js,h,-⟩;cases h) ?_
  rintro v_ Δ_ ⟨js,h1_,kr,hkr,rfl⟩
  injection h1_ with h1_;subst h1_
  clear hca
  have hkrl:kr.length=T.states.l.length:=by have:=congrArg List.length hkr;rw [List.length_map,matF_len] at this;exact this
  have hkrs:∀r∈kr,r.2.length≤1000:=fun r hr=>matF_le _ _ _ hn2 r.2 (hkr ▸ List.mem_map_of_mem (f:=fun x:K×List Cch=>x.2) hr)
  repeat first|refine W.ldV tblOk rfl rfl rfl hkx rfl ?_|(with_reducible first|refine za ?_|refine zb ?_|refine zc ?_)|refine ym zr ?_|refine yn 0 zr ?_|refine yn 1 zr ?_|refine yn 2 zr ?_|refine yn 3 zr ?_|(refine yo zr ?_;intro _)|(refine yp zr ?_;intro _)|refine yq zr ?_|refine ys zr ?_|refine yu zr ?_|refine yv zr ?_|(with_reducible first|refine zd ?_|refine ze ?_|refine zf ?_|refine zg ?_|refine zh ?_|refine zi ?_|refine zj ?_|refine zk ?_|refine zl ?_)|refine zz zr ?_|refine zw (by decide +kernel) ?_|refine zx zr zr zr ?_|refine zy zr zr ?_|refine W.condT zr ?_|refine W.condF zr ?_
  refine W.know fun hva hnd=>?_
  have hsk:=sameKnown_c G.known (outK_in (V:=V) (js:=js) (n:=T.states.l.length) (kr:=kr) hnd (by simp)) (In_mono (withV_le hva) hb) (fun r hr=>⟨outK_rows hnd (fun z hz=>by simp [hz]) r hr,by obtain ⟨q,hq,rfl⟩:=List.mem_map.1 hr;rw [gS_l];exact hkrs q hq⟩) (fun r hr=>In_mono (withV_le hva) (hbr r hr)) (by rw [outK_l,docK_l,hkr,hkn]) (by show (kr.map _).length≤_;rw [List.length_map];omega)
  rw [outK_v hkrl,docK_v] at hsk
  clear hva hnd
  repeat first|refine W.callLP rfl rfl rfl rfl hsk ?_|refine W.callP rfl rfl rfl rfl hsp ?_|refine W.callP rfl rfl rfl rfl hsn ?_|refine W.ldV tblOk rfl rfl rfl hkx rfl ?_|(refine W.gs rfl rfl rfl rfl (fun h=>absurd rfl h) ?_;intro _)|refine W.neS tblOk rfl rfl rfl rfl rfl (eqSnap_self ..) ?_|refine W.condF rfl ?_|(with_reducible first|refine za ?_|refine zb ?_|refine zc ?_)|refine ym zr ?_|refine yn 0 zr ?_|refine yn 1 zr ?_|refine yn 2 zr ?_|refine yn 3 zr ?_|(refine yo zr ?_;intro _)|(refine yp zr ?_;intro _)|refine yq zr ?_|refine ys zr ?_|refine yu zr ?_|refine yv zr ?_|(with_reducible first|refine zd ?_|refine ze ?_|refine zf ?_|refine zg ?_|refine zh ?_|refine zi ?_|refine zj ?_|refine zk ?_|refine zl ?_)|refine zz zr ?_|refine zw (by decide +kernel) ?_|refine zx zr zr zr ?_|refine zy zr zr ?_|refine W.condT zr ?_|refine W.condF zr ?_
  clear hsk hst hsp hsn
  refine W.dropE ((js,.cells (kr.map krH) 168 1 true)::(km,.mp (L.map entA) c)::(krD kr++(i7,.cells [.int .i64 e.s,(gS i1 e.regs).v] 30 2 true)::gD iC 2 1 i1 e.regs)) (.cons _ (.cons_cons _ (.cons_cons _ ((List.Sublist.refl _).append (.cons_cons _ (List.sublist_append_right _ _)))))) ?_
  refine W.perm ((i7,.cells [.int .i64 e.s,(gS i1 e.regs).v] 30 2 true)::(js,.cells (kr.map krH) 168 1 true)::(km,.mp (L.map entA) c)::(gD iC 2 1 i1 e.regs++krD kr)) (permC fun _ a=>by simp only [consS,List.count_append,List.count_nil,List.append_assoc];omega) ?_
  refine W.loopR (α:={ q:Nat×List Int // q.1≤e.regs.length∧q.2.length=e.regs.length }) (fun q=>e.regs.length-q.1.1) (fun q=>[(0,.ptr (some (k,0))),(1,.ptr (some (kx,0))),(7,.ptr (some (i7,0))),(9,.slice (some (js,0)) T.states.l.length (.ex T.states.l.length)),(13,.int .i64 (q.1.1:Int))])
    (fun q=>(i7,.cells [.int .i64 e.s,(gS i1 e.regs).v] 30 2 true)::(js,.cells (kr.map krH) 168 1 true)::(km,.mp (L.map entA) c)::(gD iC 2 1 i1 q.1.2++krD kr)) ⟨(0,e.regs),Nat.zero_le _,rfl⟩ ⟨rfl,rfl,rfl,rfl,rfl⟩ (List.Sublist.refl _) ?_
  rintro ⟨⟨i,ms⟩,hi,hms⟩ ih
  simp only at ih hi hms ⊢
  have hgl:(gS i1 e.regs).l.length=e.regs.length:=by rw [gS_l]
  by_cases hlt:i<e.regs.length
  · have hnext:=ih ⟨(i+1,ms.set i (-77)),hlt,by show (ms.set _ _).length=_;rw [List.length_set];exact hms⟩ (by show e.regs.length-(i+1)<e.regs.length-i;omega)
    clear ih
    have hpos:0<ms.length:=by omega
    have hpe:0<e.regs.length:=by omega
    have hi0:(0:Int)≤(i:Int):=by omega
    have hi1:(i:Int)<((gS i1 e.regs).l.length:Int):=by rw [hgl];omega
    have hset:=set_iC (l:=ms) (n:=0+(i:Int).toNat * 1) (by omega) (-77)
    have ewi:IntKind.i64.wrap ((i:Int)+1)=((i+1:Nat):Int):=by rw [w64 (by omega) (by omega)];omega
    rw [show 0+(i:Int).toNat * 1=i by omega] at hset
    simp only [gD_pos (l:=ms.set i (-77)) (by rw [List.length_set];exact hpos),List.singleton_append] at hnext
    rw [gD_pos hpos,List.singleton_append]
    repeat first|(with_reducible first|refine za ?_|refine zb ?_|refine zc ?_)|refine ym zr ?_|refine yn 0 zr ?_|refine yn 1 zr ?_|refine yn 2 zr ?_|refine yn 3 zr ?_|(refine yo zr ?_;intro _)|(refine yp zr ?_;intro _)|refine yq zr ?_|refine ys zr ?_|refine yu zr ?_|refine yv zr ?_|(with_reducible first|refine zd ?_|refine ze ?_|refine zf ?_|refine zg ?_|refine zh ?_|refine zi ?_|refine zj ?_|refine zk ?_|refine zl ?_)|refine zz zr ?_|refine zw (by decide +kernel) ?_|refine zx zr zr zr ?_|refine zy zr zr ?_|refine W.condT zr ?_|refine W.condF zr ?_
    refine W.condP rfl (fun _=>?_) (fun h=>absurd hi1 h)
    repeat first|refine W.ia tblOk rfl rfl rfl rfl rfl rfl (gS_pos hpe) hi0 hi1 ?_|(refine W.fr3 ?_;refine W.stF tblOk rfl rfl rfl rfl rfl rfl rfl (show setLs _ (0+(i:Int).toNat * 1) _=_ from (by rw [show 0+(i:Int).toNat * 1=i by omega];exact hset)) ?_)|(with_reducible first|refine za ?_|refine zb ?_|refine zc ?_)|refine ym zr ?_|refine yn 0 zr ?_|refine yn 1 zr ?_|refine yn 2 zr ?_|refine yn 3 zr ?_|(refine yo zr ?_;intro _)|(refine yp zr ?_;intro _)|refine yq zr ?_|refine ys zr ?_|refine yu zr ?_|refine yv zr ?_|(with_reducible first|refine zd ?_|refine ze ?_|refine zf ?_|refine zg ?_|refine zh ?_|refine zi ?_|refine zj ?_|refine zk ?_|refine zl ?_)|refine zz zr ?_|refine zw (by decide +kernel) ?_|refine zx zr zr zr ?_|refine zy zr zr ?_|refine W.condT zr ?_|refine W.condF zr ?_
    rw [ewi]
    refine W.perm _ (permC fun _ a=>by simp only [consS,List.count_append,List.count_nil];omega) (W.weak _ _ ?_ (List.Sublist.refl _) hnext)
    exact ⟨rfl,rfl,rfl,rfl,rfl⟩
  clear ih
  repeat first|(with_reducible first|refine za ?_|refine zb ?_|refine zc ?_)|refine ym zr ?_|refine yn 0 zr ?_|refine yn 1 zr ?_|refine yn 2 zr ?_|refine yn 3 zr ?_|(refine yo zr ?_;intro _)|(refine yp zr ?_;intro _)|refine yq zr ?_|refine ys zr ?_|refine yu zr ?_|refine yv zr ?_|(with_reducible first|refine zd ?_|refine ze ?_|refine zf ?_|refine zg ?_|refine zh ?_|refine zi ?_|refine zj ?_|refine zk ?_|refine zl ?_)|refine zz zr ?_|refine zw (by decide +kernel) ?_|refine zx zr zr zr ?_|refine zy zr zr ?_|refine W.condT zr ?_|refine W.condF zr ?_
  refine W.condP rfl (fun h=>absurd h (by omega)) (fun _=>?_)
  repeat first|(with_reducible first|refine za ?_|refine zb ?_|refine zc ?_)|refine ym zr ?_|refine yn 0 zr ?_|refine yn 1 zr ?_|refine yn 2 zr ?_|refine yn 3 zr ?_|(refine yo zr ?_;intro _)|(refine yp zr ?_;intro _)|refine yq zr ?_|refine ys zr ?_|refine yu zr ?_|refine yv zr ?_|(with_reducible first|refine zd ?_|refine ze ?_|refine zf ?_|refine zg ?_|refine zh ?_|refine zi ?_|refine zj ?_|refine zk ?_|refine zl ?_)|refine zz zr ?_|refine zw (by decide +kernel) ?_|refine zx zr zr zr ?_|refine zy zr zr ?_|refine W.condT zr ?_|refine W.condF zr ?_
  refine W.dropE ((i7,.cells [.int .i64 e.s,(gS i1 e.regs).v] 30 2 true)::(js,.cells (kr.map krH) 168 1 true)::(km,.mp (L.map entA) c)::krD kr) (.cons_cons _ (.cons_cons _ (.cons_cons _ (List.sublist_append_right _ _)))) ?_
  have hkrn:kr.length≤1000:=by omega
  refine W.loopR (α:={ q:Nat×List AV // q.1≤kr.length∧q.2.length=q.1 }) (fun q=>kr.length-q.1.1) (fun q=>[(0,.ptr (some (k,0))),(1,.ptr (some (kx,0))),(7,.ptr (some (i7,0))),(9,.slice (some (js,0)) T.states.l.length (.ex T.states.l.length)),(14,.int .i64 (q.1.1:Int))])
    (fun q=>(i7,.cells [.int .i64 e.s,(gS i1 e.regs).v] 30 2 true)::(js,.cells (q.1.2++(kr.drop q.1.1).map krH) 168 1 true)::(km,.mp (L.map entA) c)::krD (kr.drop q.1.1)) ⟨(0,[]),Nat.zero_le _,rfl⟩ ⟨rfl,rfl,rfl,rfl,rfl⟩ (List.Sublist.refl _) ?_
  rintro ⟨⟨m,hs⟩,hm,hhs⟩ ih
  simp only at ih hm hhs ⊢
  by_cases hlm:m<kr.length
  · have hnext:=fun y=>ih ⟨(m+1,hs++[y]),hlm,by show (hs++[y]).length=_;rw [List.length_append,hhs];rfl⟩ (by show kr.length-(m+1)<kr.length-m;omega)
    simp only [List.append_assoc,List.singleton_append] at hnext
    clear ih
    have hr:=hkrs _ (List.getElem_mem hlm)
    rw [List.drop_eq_getElem_cons hlm]
    generalize kr[m]=r at hr ⊢
    obtain ⟨jn,l⟩:=r
    simp only at hr
    have hm0:(0:Int)≤(m:Int):=by omega
    have hm1:(m:Int)<(T.states.l.length:Int):=by omega
    have ewm:IntKind.i64.wrap ((m:Int)+1)=((m+1:Nat):Int):=by rw [w64 (by omega) (by omega)];omega
    have hget:=cell_get (t:=168) rfl (zs:=(kr.drop (m+1)).map krH) hhs (krH (jn,l))
    show W _ _ _ _ _ _ _ _ ((i7,.cells [.int .i64 e.s,(gS i1 e.regs).v] 30 2 true)::(js,.cells (hs++krH (jn,l)::(kr.drop (m+1)).map krH) 168 1 true)::(km,.mp (L.map entA) c)::(gD Cch.cs 170 3 jn l++krD (kr.drop (m+1)))) _
    generalize (kr.drop (m+1)).map krH=zs at hnext hget ⊢
    generalize krD (kr.drop (m+1))=Z at hnext ⊢
    repeat first|(with_reducible first|refine za ?_|refine zb ?_|refine zc ?_)|refine ym zr ?_|refine yn 0 zr ?_|refine yn 1 zr ?_|refine yn 2 zr ?_|refine yn 3 zr ?_|(refine yo zr ?_;intro _)|(refine yp zr ?_;intro _)|refine yq zr ?_|refine ys zr ?_|refine yu zr ?_|refine yv zr ?_|(with_reducible first|refine zd ?_|refine ze ?_|refine zf ?_|refine zg ?_|refine zh ?_|refine zi ?_|refine zj ?_|refine zk ?_|refine zl ?_)|refine zz zr ?_|refine zw (by decide +kernel) ?_|refine zx zr zr zr ?_|refine zy zr zr ?_|refine W.condT zr ?_|refine W.condF zr ?_
    refine W.condP rfl (fun _=>?_) (fun h=>absurd hm1 h)
    repeat first|(with_reducible first|refine za ?_|refine zb ?_|refine zc ?_)|refine ym zr ?_|refine yn 0 zr ?_|refine yn 1 zr ?_|refine yn 2 zr ?_|refine yn 3 zr ?_|(refine yo zr ?_;intro _)|(refine yp zr ?_;intro _)|refine yq zr ?_|refine ys zr ?_|refine yu zr ?_|refine yv zr ?_|(with_reducible first|refine zd ?_|refine ze ?_|refine zf ?_|refine zg ?_|refine zh ?_|refine zi ?_|refine zj ?_|refine zk ?_|refine zl ?_)|refine zz zr ?_|refine zw (by decide +kernel) ?_|refine zx zr zr zr ?_|refine zy zr zr ?_|refine W.condT zr ?_|refine W.condF zr ?_
    refine W.loopR (α:={ q:Nat×List Cch // q.1≤l.length∧q.2.length=l.length }) (fun q=>l.length-q.1.1) (fun q=>[(0,.ptr (some (k,0))),(1,.ptr (some (kx,0))),(7,.ptr (some (i7,0))),(9,.slice (some (js,0)) T.states.l.length (.ex T.states.l.length)),(14,.int .i64 (m:Int)),(15,.int .i64 (q.1.1:Int))])
      (fun q=>(i7,.cells [.int .i64 e.s,(gS i1 e.regs).v] 30 2 true)::(js,.cells (hs++krH (jn,l)::zs) 168 1 true)::(km,.mp (L.map entA) c)::(gD Cch.cs 170 3 jn q.1.2++Z)) ⟨(0,l),Nat.zero_le _,rfl⟩ ⟨rfl,rfl,rfl,rfl,rfl,rfl⟩ (List.Sublist.refl _) ?_
    rintro ⟨⟨u,cs⟩,hu,hcs⟩ ih2
    simp only at ih2 hu hcs ⊢
    have hgl2:(gS jn l).l.length=l.length:=by rw [gS_l]
    by_cases hlu:u<l.length
    · obtain ⟨cs',hcs',hset⟩:=setC (l:=cs) (n:=u) (by omega) (-77)
      have hnext2:=ih2 ⟨(u+1,cs'),hlu,by show cs'.length=_;omega⟩ (by show l.length-(u+1)<l.length-u;omega)
      clear ih2 hnext
      have hpos:0<cs.length:=by omega
      have hpl:0<l.length:=by omega
      have hu0:(0:Int)≤(u:Int):=by omega
      have hu1:(u:Int)<((gS jn l).l.length:Int):=by rw [hgl2];omega
      have ewu:IntKind.i64.wrap ((u:Int)+1)=((u+1:Nat):Int):=by rw [w64 (by omega) (by omega)];omega
      simp only [gD_pos (l:=cs') (by omega:0<cs'.length),List.singleton_append] at hnext2
      rw [gD_pos hpos,List.singleton_append]
      repeat first|refine W.ia tblOk rfl rfl rfl rfl rfl rfl rfl hm0 hm1 ?_|refine W.ldO tblOk 1 rfl rfl rfl hget rfl rfl ?_|(with_reducible first|refine za ?_|refine zb ?_|refine zc ?_)|refine ym zr ?_|refine yn 0 zr ?_|refine yn 1 zr ?_|refine yn 2 zr ?_|refine yn 3 zr ?_|(refine yo zr ?_;intro _)|(refine yp zr ?_;intro _)|refine yq zr ?_|refine ys zr ?_|refine yu zr ?_|refine yv zr ?_|(with_reducible first|refine zd ?_|refine ze ?_|refine zf ?_|refine zg ?_|refine zh ?_|refine zi ?_|refine zj ?_|refine zk ?_|refine zl ?_)|refine zz zr ?_|refine zw (by decide +kernel) ?_|refine zx zr zr zr ?_|refine zy zr zr ?_|refine W.condT zr ?_|refine W.condF zr ?_
      refine W.condP rfl (fun _=>?_) (fun h=>absurd hu1 h)
      repeat first|refine W.ia tblOk rfl rfl rfl rfl rfl rfl rfl hm0 hm1 ?_|refine W.ldO tblOk 1 rfl rfl rfl hget rfl rfl ?_|refine W.ia tblOk rfl rfl rfl rfl rfl rfl (gS_pos hpl) hu0 hu1 ?_|(refine W.fr3 ?_;refine W.stF tblOk rfl rfl rfl rfl rfl rfl rfl hset ?_)|(with_reducible first|refine za ?_|refine zb ?_|refine zc ?_)|refine ym zr ?_|refine yn 0 zr ?_|refine yn 1 zr ?_|refine yn 2 zr ?_|refine yn 3 zr ?_|(refine yo zr ?_;intro _)|(refine yp zr ?_;intro _)|refine yq zr ?_|refine ys zr ?_|refine yu zr ?_|refine yv zr ?_|(with_reducible first|refine zd ?_|refine ze ?_|refine zf ?_|refine zg ?_|refine zh ?_|refine zi ?_|refine zj ?_|refine zk ?_|refine zl ?_)|refine zz zr ?_|refine zw (by decide +kernel) ?_|refine zx zr zr zr ?_|refine zy zr zr ?_|refine W.condT zr ?_|refine W.condF zr ?_
      rw [ewu]
      refine W.perm _ (permC fun _ a=>by simp only [consS,List.count_append,List.count_nil];omega) (W.weak _ _ ?_ (List.Sublist.refl _) hnext2)
      exact ⟨rfl,rfl,rfl,rfl,rfl,rfl⟩
    clear ih2
    have hnu:¬(u:Int)<((gS jn l).l.length:Int):=by rw [hgl2];omega
    repeat first|refine W.ia tblOk rfl rfl rfl rfl rfl rfl rfl hm0 hm1 ?_|refine W.ldO tblOk 1 rfl rfl rfl hget rfl rfl ?_|(with_reducible first|refine za ?_|refine zb ?_|refine zc ?_)|refine ym zr ?_|refine yn 0 zr ?_|refine yn 1 zr ?_|refine yn 2 zr ?_|refine yn 3 zr ?_|(refine yo zr ?_;intro _)|(refine yp zr ?_;intro _)|refine yq zr ?_|refine ys zr ?_|refine yu zr ?_|refine yv zr ?_|(with_reducible first|refine zd ?_|refine ze ?_|refine zf ?_|refine zg ?_|refine zh ?_|refine zi ?_|refine zj ?_|refine zk ?_|refine zl ?_)|refine zz zr ?_|refine zw (by decide +kernel) ?_|refine zx zr zr zr ?_|refine zy zr zr ?_|refine W.condT zr ?_|refine W.condF zr ?_
    refine W.condP rfl (fun h=>absurd h hnu) (fun _=>?_)
    repeat first|refine W.ia tblOk rfl rfl rfl rfl rfl rfl rfl hm0 hm1 ?_|refine W.ldO tblOk 1 rfl rfl rfl hget rfl rfl ?_|(refine W.bsl tblOk rfl rfl rfl rfl (by decide) rfl rfl rfl ?_;intro i9)|(with_reducible first|refine za ?_|refine zb ?_|refine zc ?_)|refine ym zr ?_|refine yn 0 zr ?_|refine yn 1 zr ?_|refine yn 2 zr ?_|refine yn 3 zr ?_|(refine yo zr ?_;intro _)|(refine yp zr ?_;intro _)|refine yq zr ?_|refine ys zr ?_|refine yu zr ?_|refine yv zr ?_|(with_reducible first|refine zd ?_|refine ze ?_|refine zf ?_|refine zg ?_|refine zh ?_|refine zi ?_|refine zj ?_|refine zk ?_|refine zl ?_)|refine zz zr ?_|refine zw (by decide +kernel) ?_|refine zx zr zr zr ?_|refine zy zr zr ?_|refine W.condT zr ?_|refine W.condF zr ?_
    refine W.appG (i:=jn) (l:=cs) (m:=[⟨false,-78,0⟩]) (enc:=Cch.cs) (Δ1:=[_,_,_,_]) tblOk (congrArg some (gS_len jn hcs.symm)) rfl rfl rfl rfl rfl rfl (by decide) (by simp only [List.length_singleton,hcs];omega) (fun _=>rfl) (src_own (p:=0) rfl rfl rfl) (fun h=>by cases h) (leaf_all _ leafC _) rfl rfl fun n6=>?_
    have hset:=cell_set (zs:=zs) hhs (krH (jn,l)) (krH (n6,cs++[⟨false,-78,0⟩]))
    repeat first|refine W.ia tblOk rfl rfl rfl rfl rfl rfl rfl hm0 hm1 ?_|(refine W.fr2 ?_;refine W.stF tblOk rfl rfl rfl rfl rfl rfl rfl hset ?_)|(with_reducible first|refine za ?_|refine zb ?_|refine zc ?_)|refine ym zr ?_|refine yn 0 zr ?_|refine yn 1 zr ?_|refine yn 2 zr ?_|refine yn 3 zr ?_|(refine yo zr ?_;intro _)|(refine yp zr ?_;intro _)|refine yq zr ?_|refine ys zr ?_|refine yu zr ?_|refine yv zr ?_|(with_reducible first|refine zd ?_|refine ze ?_|refine zf ?_|refine zg ?_|refine zh ?_|refine zi ?_|refine zj ?_|refine zk ?_|refine zl ?_)|refine zz zr ?_|refine zw (by decide +kernel) ?_|refine zx zr zr zr ?_|refine zy zr zr ?_|refine W.condT zr ?_|refine W.condF zr ?_
    rw [ewm]
    refine W.dropE ((js,_)::(i7,_)::(km,_)::Z) (.cons_cons _ (.cons _ (.cons_cons _ (.cons_cons _ (List.sublist_append_right _ _))))) ?_
    refine W.fr1 ?_
    exact W.wk (hnext _) ⟨rfl,rfl,rfl,rfl,rfl⟩ (List.Sublist.refl _)
  clear ih
  repeat first|(with_reducible first|refine za ?_|refine zb ?_|refine zc ?_)|refine ym zr ?_|refine yn 0 zr ?_|refine yn 1 zr ?_|refine yn 2 zr ?_|refine yn 3 zr ?_|(refine yo zr ?_;intro _)|(refine yp zr ?_;intro _)|refine yq zr ?_|refine ys zr ?_|refine yu zr ?_|refine yv zr ?_|(with_reducible first|refine zd ?_|refine ze ?_|refine zf ?_|refine zg ?_|refine zh ?_|refine zi ?_|refine zj ?_|refine zk ?_|refine zl ?_)|refine zz zr ?_|refine zw (by decide +kernel) ?_|refine zx zr zr zr ?_|refine zy zr zr ?_|refine W.condT zr ?_|refine W.condF zr ?_
  refine W.condP rfl (fun h=>absurd h (by omega)) (fun _=>?_)
  refine W.dropE ((i7,.cells [.int .i64 e.s,(gS i1 e.regs).v] 30 2 true)::[(km,.mp (L.map entA) c)]) (.cons_cons _ (.cons _ (.cons_cons _ (List.nil_sublist _)))) ?_
  clear hkr hkrs hm hhs
  repeat first|(refine W.callN (val:=fun i=>.agg [.int .i64 e.s,(gS i e.regs).v]) rfl rfl rfl rfl hmo ?_;rintro i2 _ ⟨R2,rfl⟩)|(with_reducible first|refine za ?_|refine zb ?_|refine zc ?_)|refine ym zr ?_|refine yn 0 zr ?_|refine yn 1 zr ?_|refine yn 2 zr ?_|refine yn 3 zr ?_|(refine yo zr ?_;intro _)|(refine yp zr ?_;intro _)|refine yq zr ?_|refine ys zr ?_|refine yu zr ?_|refine yv zr ?_|(with_reducible first|refine zd ?_|refine ze ?_|refine zf ?_|refine zg ?_|refine zh ?_|refine zi ?_|refine zj ?_|refine zk ?_|refine zl ?_)|refine zz zr ?_|refine zw (by decide +kernel) ?_|refine zx zr zr zr ?_|refine zy zr zr ?_|refine W.condT zr ?_|refine W.condF zr ?_
  refine W.fr1 ?_
  refine W.know fun hva hnd=>?_
  have hva2:=fun i hi=>hva i (List.mem_cons_of_mem _ hi)
  have hca:=caches_c G.E (Table.okM (withV_le hva2) hT) hn hn2 (withV_le hva2 _ _ hk) L c
  clear hva hva2 hnd
  repeat first|(with_reducible first|refine za ?_|refine zb ?_|refine zc ?_)|refine ym zr ?_|refine yn 0 zr ?_|refine yn 1 zr ?_|refine yn 2 zr ?_|refine yn 3 zr ?_|(refine yo zr ?_;intro _)|(refine yp zr ?_;intro _)|refine yq zr ?_|refine ys zr ?_|refine yu zr ?_|refine yv zr ?_|(with_reducible first|refine zd ?_|refine ze ?_|refine zf ?_|refine zg ?_|refine zh ?_|refine zi ?_|refine zj ?_|refine zk ?_|refine zl ?_)|refine zz zr ?_|refine zw (by decide +kernel) ?_|refine zx zr zr zr ?_|refine zy zr zr ?_|refine W.condT zr ?_|refine W.condF zr ?_
  refine W.callHe (Δ:=[_]) (R:=_::_) rfl rfl rfl rfl hca (by rintro v Δ' ⟨js,h,-⟩;cases h) ?_
  rintro v_ Δ_ ⟨js2,h1_,kr2,hkr,rfl⟩
  injection h1_ with h1_;subst h1_
  clear hca
  have hkrl2:kr2.length=T.states.l.length:=by have:=congrArg List.length hkr;rw [List.length_map,matF_len] at this;exact this
  have hkrs:∀r∈kr2,r.2.length≤1000:=fun r hr=>matF_le _ _ _ hn2 r.2 (hkr ▸ List.mem_map_of_mem (f:=fun x:K×List Cch=>x.2) hr)
  refine W.perm _ List.perm_middle.symm ?_
  repeat first|refine W.ldV tblOk rfl rfl rfl hkx rfl ?_|(with_reducible first|refine za ?_|refine zb ?_|refine zc ?_)|refine ym zr ?_|refine yn 0 zr ?_|refine yn 1 zr ?_|refine yn 2 zr ?_|refine yn 3 zr ?_|(refine yo zr ?_;intro _)|(refine yp zr ?_;intro _)|refine yq zr ?_|refine ys zr ?_|refine yu zr ?_|refine yv zr ?_|(with_reducible first|refine zd ?_|refine ze ?_|refine zf ?_|refine zg ?_|refine zh ?_|refine zi ?_|refine zj ?_|refine zk ?_|refine zl ?_)|refine zz zr ?_|refine zw (by decide +kernel) ?_|refine zx zr zr zr ?_|refine zy zr zr ?_|refine W.condT zr ?_|refine W.condF zr ?_
  refine W.know fun hva hnd=>?_
  have in1:=(gS_in (enc:=iC) (el:=2) (sz:=1) (i:=i2) (l:=e.regs) (fun z hz=>by simp [hz])).in (V:=V) (one:=AV.int .i64) (ag:=false) hnd (fun _=>rfl) (fun _=>rfl)
  have hsm:=sameMode_c G.mode in1 (In_mono (withV_le hva) hr') (by rw [gS_l,gS_l]) (by rw [gS_l];omega) e.s
  have hsk:=sameKnown_c G.known (outK_in (V:=V) (js:=js2) (n:=T.states.l.length) (kr:=kr2) hnd (by simp)) (In_mono (withV_le hva) hb) (fun r hr=>⟨outK_rows hnd (fun z hz=>by simp [hz]) r hr,by obtain ⟨q,hq,rfl⟩:=List.mem_map.1 hr;rw [gS_l];exact hkrs q hq⟩) (fun r hr=>In_mono (withV_le hva) (hbr r hr)) (by rw [outK_l,docK_l,hkr,hkn]) (by show (kr2.map _).length≤_;rw [List.length_map];omega)
  rw [outK_v hkrl2,docK_v] at hsk
  clear in1 hva hnd
  repeat first|refine W.callLP rfl rfl rfl rfl hsm ?_|refine W.ldV tblOk rfl rfl rfl hkx rfl ?_|refine W.callLP rfl rfl rfl rfl hsk ?_|(with_reducible first|refine za ?_|refine zb ?_|refine zc ?_)|refine ym zr ?_|refine yn 0 zr ?_|refine yn 1 zr ?_|refine yn 2 zr ?_|refine yn 3 zr ?_|(refine yo zr ?_;intro _)|(refine yp zr ?_;intro _)|refine yq zr ?_|refine ys zr ?_|refine yu zr ?_|refine yv zr ?_|(with_reducible first|refine zd ?_|refine ze ?_|refine zf ?_|refine zg ?_|refine zh ?_|refine zi ?_|refine zj ?_|refine zk ?_|refine zl ?_)|refine zz zr ?_|refine zw (by decide +kernel) ?_|refine zx zr zr zr ?_|refine zy zr zr ?_|refine W.condT zr ?_|refine W.condF zr ?_
  repeat' first|(with_reducible first|refine za ?_|refine zb ?_|refine zc ?_)|refine ym zr ?_|refine yn 0 zr ?_|refine yn 1 zr ?_|refine yn 2 zr ?_|refine yn 3 zr ?_|(refine yo zr ?_;intro _)|(refine yp zr ?_;intro _)|refine yq zr ?_|refine ys zr ?_|refine yu zr ?_|refine yv zr ?_|(with_reducible first|refine zd ?_|refine ze ?_|refine zf ?_|refine zg ?_|refine zh ?_|refine zi ?_|refine zj ?_|refine zk ?_|refine zl ?_)|refine zz zr ?_|refine zw (by decide +kernel) ?_|refine zx zr zr zr ?_|refine zy zr zr ?_|(refine W.condP zr ?_ ?_<;>intro _)|refine W.condT zr ?_|refine W.condF zr ?_|(refine W.cond zr ?_ ?_<;>intro _)|(refine W.gs zr zr zr zr ?_ ?_<;>intro _)|(refine W.gsB zr zr zr zr ?_ ?_<;>intro _)|refine W.done zr ?_|refine W.doneN zr ?_
  exact ⟨rfl,by simp⟩
end Go.Proofs.YtoegffiapnnkiaaGreat.Abs
