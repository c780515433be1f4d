/- Parts of one proof. No condition but those that each theorem names. -/
import Derived.Test.YtoegffiapnnkiaaGreatPT40
namespace Go.Proofs.YtoegffiapnnkiaaGreat.Abs
open Go
set_option linter.unusedVariables false
set_option linter.unusedSimpArgs false
set_option maxRecDepth 100000
set_option maxHeartbeats 4000000
def mkLo (i k:Nat):List AV:=[.int .i64 (IntKind.i64.wrap (IntKind.i64.wrap ((i:Int) * 1000)+(k:Int)))]
def bhLo (i k:Nat):List AV:=[.int .i64 (IntKind.i64.wrap (IntKind.i64.wrap (IntKind.i64.wrap (-1-(i:Int)) * 1000)-(k:Int)))]
abbrev SLo:Nat→Prop:=fun o=>o<1
abbrev mcLo (i k o:Nat):AV:=cell 0 (mkLo i k) o
abbrev bcLo (i k o:Nat):AV:=cell 0 (bhLo i k) o
theorem mcLo_ok (i k:Nat):∀o,SLo o→0≤o∧o<1∧(mkLo i k)[o-0]?=some (mcLo i k o):=fun o ho=>⟨Nat.zero_le _,ho,cell_some (by show o-0<1;have:o<1:=ho;omega)⟩
theorem bcLo_ok (i k:Nat):∀o,SLo o→(bhLo i k)[o]?=some (bcLo i k o):=fun o ho=>cell_some (off:=0) (by show o-0<1;have:o<1:=ho;omega)
attribute [local irreducible] W Cl Bd
variable {g:Cg} {V:K→Option (List AV)}
abbrev bbLo:OR→Dm:=OR.b 2 1
theorem ownLo_c (hp:Plain g 63=true) (rows:List OR) (jl:K) (bkl:Bk) (hbl:rdl bkl=some (rows.map OR.v)) (hok:∀r∈rows,r.Oks 1) (hlen:rows.length≤1000000) :
    Cl Tryz.prog g V 63 [hdL jl rows.length] (blL jl bkl rows.length++rows.flatMap bbLo) fun o _=>o=.ret (.bool true):=by
  refine Cl.enter hp Tryz.func63 rfl ?_
  generalize hM:rows.length=M at hlen ⊢
  have hrow:∀(A C:List OR) (r:OR),(A++r::C).map OR.v=rows.map OR.v→partG tbl 22 (rows.map OR.v) (0+(A.length:Int).toNat * 1)=some r.v:=fun A C r h=>part_leaf rfl (by rw [←h];simp)
  repeat first|(with_reducible first|refine za ?_|refine zb ?_|refine zc ?_)|refine ym zr ?_|with_reducible refine ze ?_
  refine W.loopR (α:={ q:List OR×List OR // (q.1++q.2).map OR.v=rows.map OR.v∧(∀(i:Nat) (r:OR),q.1[i]?=some r→r.Mks 1 SLo mcLo i)∧∀r∈q.1++q.2,r.Oks 1 }) (fun q=>q.1.2.length) (fun q=>[(0,hdL jl M),(3,.int .i64 (q.1.1.length:Int))]) (fun q=>blL jl bkl M++(q.1.1++q.1.2).flatMap bbLo) ⟨([],rows),rfl,fun i r h=>by simp at h,hok⟩ ⟨rfl,rfl⟩ (List.Sublist.refl _) ?_
  rintro ⟨⟨A,T⟩,hv,hmk,hok1⟩ ih
  simp only at ih hv hmk hok1 ⊢
  have hML:A.length+T.length=M:=by have:=congrArg List.length hv;simp at this;omega
  cases T with
  | cons r C =>
    simp only [List.length_cons] at hML
    have h0:¬M=0:=by omega
    have hlt:(A.length:Int)<(M:Int):=by omega
    have hr:=hrow A C r hv
    have ew:IntKind.i64.wrap ((A.length:Int)+1)=(((A.length+1:Nat)):Int):=by rw [w64 (by omega) (by omega)];omega
    have hrk:=hok1 r (by simp)
    repeat first|(with_reducible first|refine za ?_|refine zb ?_|refine zc ?_)|refine ym zr ?_
    refine W.condP rfl (fun _=>?_) (fun h=>absurd hlt h)
    repeat first|(with_reducible first|refine za ?_|refine zb ?_|refine zc ?_)|refine ym zr ?_|(with_reducible first|refine zd ?_|refine ze ?_)
    cases r with
    | nil =>
      refine W.loop ?_
      have hin:(jl,bkl)∈blL jl bkl M++(A++OR.nil::C).flatMap bbLo:=List.mem_append_left _ (blL_in (by omega))
      repeat first|refine W.ia tblOk rfl rfl rfl rfl rfl rfl (if_neg h0) (by omega) hlt ?_|refine W.ldM tblOk rfl hin hbl hr rfl rfl ?_|refine W.condF rfl ?_|(with_reducible first|refine za ?_|refine zb ?_|refine zc ?_)|refine ym zr ?_|(with_reducible first|refine zf ?_|refine zg ?_|refine zh ?_|refine zi ?_)
      rw [ew]
      have hnext:=ih ⟨(A++[.nil],C),by rw [←hv];simp,fun i r h=>by
        by_cases hi:i<A.length
        · rw [List.getElem?_append_left hi] at h;exact hmk i r h
        · rw [List.getElem?_append_right (by omega)] at h
          obtain rfl:r=.nil:=by simpa using List.mem_of_getElem? h
          trivial,by simpa using hok1⟩ (by simp)
      refine W.weak _ _ ?_ ?_ hnext
      · refine ⟨rfl,?_⟩
        simp only [List.length_append,List.length_singleton];rfl
      · simp
    | blk j f own cs n room =>
      obtain ⟨k1,k2,k3,k4⟩:=hrk
      have hperm:(blL jl bkl M++(A++OR.blk j f own cs n room::C).flatMap bbLo).Perm ((j,.cells cs 2 1 f)::(blL jl bkl M++(A.flatMap bbLo++C.flatMap bbLo))):=by
        rw [List.flatMap_append,List.flatMap_cons];exact permMid _ _ _ _
      refine W.perm _ hperm.symm ?_
      refine W.loopR (α:={ q:Nat×List AV // q.1≤n∧q.2.length=(n+room) * 1∧Mks 1 SLo (mcLo A.length) q.2 q.1 }) (fun q=>n-q.1.1) (fun q=>[(0,hdL jl M),(3,.int .i64 (A.length:Int)),(4,.int .i64 (q.1.1:Int))]) (fun q=>(j,.cells q.1.2 2 1 f)::(blL jl bkl M++(A.flatMap bbLo++C.flatMap bbLo))) ⟨(0,cs),Nat.zero_le _,k1,Mks.zero⟩ ⟨rfl,rfl,rfl⟩ (List.Sublist.refl _) ?_
      rintro ⟨⟨k,cs'⟩,hk,hcl,hcm⟩ ih2
      simp only at ih2 hk hcl hcm ⊢
      have hin:(jl,bkl)∈(j,Bk.cells cs' 2 1 f)::(blL jl bkl M++(A.flatMap bbLo++C.flatMap bbLo)):=.tail _ (List.mem_append_left _ (blL_in (by omega)))
      have hrn:partG tbl 22 (rows.map OR.v) (0+(A.length:Int).toNat * 1)=some (.slice (some (j,0)) n (OR.cp own (n+room))):=hr
      by_cases hkn:k<n
      · have hmul:(k+1) * 1≤(n+room) * 1:=Nat.mul_le_mul_right _ (by omega)
        have hset:setLs cs' (0+(k:Int).toNat * 1) (mkLo A.length k)=some (cs'.take (k * 1+0)++(mkLo A.length k++cs'.drop (k * 1+0+(mkLo A.length k).length))):=by
          rw [show 0+(k:Int).toNat * 1=k * 1+0 by omega]
          exact setLs_at _ _ _ (by show k * 1+0+1≤_;omega)
        have ewk:IntKind.i64.wrap ((k:Int)+1)=(((k+1:Nat)):Int):=by rw [w64 (by omega) (by omega)];omega
        have hnext:=ih2 ⟨(k+1,_),hkn,(put_len (by show k * 1+0+1≤_;omega)).trans hcl,hcm.put (p:=0) (mcLo_ok A.length k) (by show k * 1+0+1≤_;omega)⟩ (by show n-(k+1)<n-k;omega)
        repeat first|refine W.ia tblOk rfl rfl rfl rfl rfl rfl (if_neg h0) (by omega) hlt ?_|refine W.ldM tblOk rfl hin hbl hrn rfl rfl ?_|(with_reducible first|refine za ?_|refine zb ?_|refine zc ?_)|refine ym zr ?_
        refine W.condP rfl (fun _=>?_) (fun h=>absurd (show (k:Int)<(n:Int) by omega) h)
        repeat first|refine W.ia tblOk rfl rfl rfl rfl rfl rfl (if_neg h0) (by omega) hlt ?_|refine W.ldM tblOk rfl hin hbl hrn rfl rfl ?_|refine W.ia tblOk rfl rfl rfl rfl rfl rfl rfl (by omega) (by omega) ?_|refine W.stF tblOk rfl rfl rfl rfl rfl rfl rfl hset ?_|(with_reducible first|refine za ?_|refine zb ?_|refine zc ?_)|refine ym zr ?_|(with_reducible first|refine zd ?_|refine ze ?_|refine zf ?_)
        rw [ewk]
        exact W.wk hnext ⟨rfl,rfl,rfl⟩ (List.Sublist.refl _)
      · have hkn':k=n:=by omega
        subst hkn'
        repeat first|refine W.ia tblOk rfl rfl rfl rfl rfl rfl (if_neg h0) (by omega) hlt ?_|refine W.ldM tblOk rfl hin hbl hrn rfl rfl ?_|(with_reducible first|refine za ?_|refine zb ?_|refine zc ?_)|refine ym zr ?_
        refine W.condP rfl (fun h=>absurd h (by omega)) (fun _=>?_)
        repeat first|(with_reducible first|refine zb ?_|refine zc ?_)|refine ym zr ?_|(with_reducible first|refine zf ?_|refine zg ?_|refine zh ?_|refine zi ?_)
        rw [ew]
        have hnext:=ih ⟨(A++[.blk j f own cs' k room],C),by rw [←hv];simp [OR.v],fun i r h=>by
          by_cases hi:i<A.length
          · rw [List.getElem?_append_left hi] at h;exact hmk i r h
          · rw [List.getElem?_append_right (by omega)] at h
            have hr1:r=.blk j f own cs' k room:=by simpa using List.mem_of_getElem? h
            have hi1:i=A.length:=by
              have:=(List.getElem?_eq_some_iff.1 h).1
              simp at this;omega
            subst hr1;subst hi1;exact hcm,by
          intro r hr
          simp only [List.mem_append,List.mem_singleton] at hr
          rcases hr with (hr|hr)|hr
          · exact hok1 r (by simp [hr])
          · subst hr;exact ⟨hcl,k2,k3,k4⟩
          · exact hok1 r (by simp [hr])⟩ (by simp)
        have hperm2:(blL jl bkl M++((A++[OR.blk j f own cs' k room])++C).flatMap bbLo).Perm ((j,.cells cs' 2 1 f)::(blL jl bkl M++(A.flatMap bbLo++C.flatMap bbLo))):=by
          rw [List.append_assoc,List.singleton_append,List.flatMap_append,List.flatMap_cons];exact permMid _ _ _ _
        refine W.perm _ hperm2 ?_
        refine W.weak _ _ ?_ (List.Sublist.refl _) hnext
        refine ⟨rfl,?_⟩
        simp only [List.length_append,List.length_singleton];rfl
  | nil =>
    simp only [List.length_nil,Nat.add_zero] at hML
    simp only [List.append_nil] at hv hok1 ⊢
    clear ih
    repeat first|(with_reducible first|refine za ?_|refine zb ?_|refine zc ?_)|refine ym zr ?_
    refine W.condP rfl (fun h=>absurd h (by omega)) (fun _=>?_)
    repeat first|(with_reducible first|refine za ?_|refine zb ?_|refine zc ?_)|refine ym zr ?_|(with_reducible first|refine ze ?_|refine zg ?_|refine zh ?_|refine zi ?_)
    refine W.loopR (α:={ q:(List DR×List OR)×(K×Bk×Nat) // q.1.1.map DR.v++q.1.2.map OR.v=rows.map OR.v∧(∀(i:Nat) (r:DR),q.1.1[i]?=some r→r.Oks 1 SLo 16 (mcLo i) (bcLo i))∧(∀r∈q.1.1,r.n≤1000000)∧(∀(i:Nat) (r:OR),q.1.2[i]?=some r→r.Mks 1 SLo mcLo (q.1.1.length+i))∧(∀r∈q.1.2,r.Oks 1)∧(0<q.1.1.length→Grown q.2.2.1 (q.1.1.map (DR.w 16)) 22 1 q.2.2.2∧q.2.2.2≤q.1.1.length) }) (fun q=>q.1.1.2.length) (fun q=>[(0,hdL jl M),(5,hdL q.1.2.1 q.1.1.1.length),(6,.int .i64 (q.1.1.1.length:Int))]) (fun q=>blL q.1.2.1 q.1.2.2.1 q.1.1.1.length++(blL jl bkl M++(q.1.1.1.flatMap DR.b++q.1.1.2.flatMap bbLo))) ⟨(([],A),(.z,bkl,0)),hv,fun i r h=>by simp at h,fun r h=>by simp at h,fun i r h=>by simpa using hmk i r h,hok1,fun h=>by simp at h⟩ ⟨rfl,rfl,rfl⟩ (by simp [blL]) ?_
    clear hv hmk hok1 hML
    rintro ⟨⟨⟨B,T⟩,il,bkL,qL⟩,hv,hB,hnB,hT,hok2,hgr⟩ ih
    simp only at ih hv hB hnB hT hok2 hgr ⊢
    have hML:B.length+T.length=M:=by have:=congrArg List.length hv;simp at this;omega
    cases T with
    | cons r C =>
      simp only [List.length_cons] at hML
      have h0:¬M=0:=by omega
      have hlt:(B.length:Int)<(M:Int):=by omega
      have hr:partG tbl 22 (rows.map OR.v) (0+(B.length:Int).toNat * 1)=some r.v:=part_leaf rfl (by rw [←hv];simp)
      have ew:IntKind.i64.wrap ((B.length:Int)+1)=(((B.length+1:Nat)):Int):=by rw [w64 (by omega) (by omega)];omega
      have hrk:=hok2 r (by simp)
      have hrm:=hT 0 r (by simp)
      rw [Nat.add_zero] at hrm
      repeat first|(with_reducible first|refine za ?_|refine zb ?_|refine zc ?_)|refine ym zr ?_
      refine W.condP rfl (fun _=>?_) (fun h=>absurd hlt h)
      have hin:(jl,bkl)∈blL il bkL B.length++(blL jl bkl M++(B.flatMap DR.b++(r::C).flatMap bbLo)):=List.mem_append_right _ (List.mem_append_left _ (blL_in (by omega)))
      repeat first|refine W.ia tblOk rfl rfl rfl rfl rfl rfl (if_neg h0) (by omega) hlt ?_|refine W.ldM tblOk rfl hin hbl hr rfl rfl ?_|(with_reducible first|refine za ?_|refine zb ?_|refine zc ?_)|refine ym zr ?_|(with_reducible first|refine zd ?_|refine ze ?_)
      refine W.loopF (fun Γ' Δ'=>∃(d:DR) (c q:Nat),Γ'=[(0,hdL jl M),(5,hdL il B.length),(6,.int .i64 (B.length:Int)),(7,d.w c),(8,.int .i64 (c:Int))]∧Δ'=d.b++(blL il bkL B.length++(blL jl bkl M++(B.flatMap DR.b++C.flatMap bbLo)))∧(1≤c∧c≤16)∧d.Ins 1 SLo 2 c q (mcLo B.length) (bcLo B.length) r.v) ?_ ?_
      · rintro _ _ ⟨d,c,q,rfl,rfl,hc0,hd⟩
        refine W.loopR (α:={ x:DR×(Nat×Nat) // x.1.Ins 1 SLo 2 x.2.1 x.2.2 (mcLo B.length) (bcLo B.length) r.v∧1≤x.2.1∧x.2.1≤16 }) (fun x=>16-x.1.2.1) (fun x=>[(0,hdL jl M),(5,hdL il B.length),(6,.int .i64 (B.length:Int)),(7,x.1.1.w x.1.2.1),(8,.int .i64 (x.1.2.1:Int))]) (fun x=>(x.1.1.i,x.1.1.bk)::(x.1.1.ob++(blL il bkL B.length++(blL jl bkl M++(B.flatMap DR.b++C.flatMap bbLo))))) ⟨(d,c,q),hd,hc0.1,hc0.2⟩ ⟨rfl,rfl,rfl,rfl,rfl⟩ (List.Sublist.refl _) ?_
        clear hd hc0 d c q
        rintro ⟨⟨d,c,q⟩,hd,hc1,hc2⟩ ih2
        simp only at ih2 hd hc1 hc2 ⊢
        have hdn:=hd.n
        by_cases hc:c<16
        · have ewk:IntKind.i64.wrap ((c:Int)+1)=(((c+1:Nat)):Int):=by rw [w64 (by omega) (by omega)];omega
          have hold:takeL ((d.n+c) * 1) d.cs=some d.cs:=by rw [←hd.len];exact takeL_all _
          have hnext:=fun i2=>ih2 ⟨(_,c+1,(d.n+c) * 1),hd.more i2 (ns:=bhLo B.length c) (bcLo_ok B.length c) (fun _ h=>h) rfl,by show 1≤c+1;omega,by show c+1≤16;omega⟩ (by show 16-(c+1)<16-c;omega)
          simp only at hnext
          clear ih2 ih
          repeat first|(with_reducible first|refine za ?_|refine zb ?_|refine zc ?_)|refine ym zr ?_
          refine W.condP rfl (fun _=>?_) (fun h=>absurd (show (c:Int)<16 by omega) h)
          repeat first|(refine W.bsl tblOk rfl rfl rfl rfl (by decide) rfl rfl rfl ?_;intro i0)|(refine W.fr1 ?_;refine W.appK (len:=d.n+c) tblOk hd.grown rfl rfl rfl rfl rfl rfl rfl (by decide) (by decide) ?hb hd.q hold (src_own (p:=1) rfl rfl rfl) rfl rfl rfl ?_;(case hb=>show (d.n+c+1) * 8≤_;omega);intro i2)|(with_reducible first|refine za ?_|refine zb ?_|refine zc ?_)|refine ym zr ?_|(with_reducible first|refine zd ?_|refine ze ?_|refine zf ?_)
          rw [ewk]
          exact W.wk (hnext i2) ⟨rfl,rfl,rfl,rfl,rfl⟩ (.cons_cons _ (.cons _ (.cons _ (List.Sublist.refl _))))
        · obtain rfl:c=16:=by omega
          clear ih2
          have hnext:=fun i2 bk2 q2 h=>ih ⟨((B++[d],C),i2,bk2,q2),by rw [←hv];simp [hd.v],fun i r' h'=>by
            by_cases hi:i<B.length
            · rw [List.getElem?_append_left hi] at h';exact hB i r' h'
            · have hi1:i=B.length:=by
                have:=(List.getElem?_eq_some_iff.1 h').1
                simp at this;omega
              subst hi1
              obtain rfl:d=r':=by simpa using h'
              exact hd.ok,fun r' h'=>by
            rcases List.mem_append.1 h' with h'|h'
            · exact hnB r' h'
            · rw [List.mem_singleton.1 h'];exact hdn,fun i r' h'=>by
            have:=hT (i+1) r' (by simpa using h')
            rw [show (B++[d]).length+i=B.length+(i+1) by simp;omega];exact this,fun r' h'=>hok2 r' (by simp [h']),h⟩ (by simp)
          simp only at hnext
          cases B with
          | nil =>
            repeat first|(refine W.bsl tblOk rfl rfl rfl rfl (by decide) rfl rfl rfl ?_;intro i0)|(refine W.appN tblOk rfl rfl rfl rfl rfl rfl rfl (by decide) (by decide) (by decide) (src_own (p:=0) rfl rfl rfl) rfl rfl rfl ?_;intro i2)|(with_reducible first|refine za ?_|refine zb ?_|refine zc ?_)|refine ym zr ?_|(with_reducible first|refine zf ?_|refine zg ?_|refine zh ?_|refine zi ?_)|refine W.condF zr ?_
            refine W.weak [(0,_),(5,_),(6,.int .i64 1)] ((i2,_)::((d.i,d.bk)::(d.ob++(blL jl bkl M++C.flatMap bbLo)))) ⟨rfl,rfl,rfl⟩ (.cons_cons _ (.cons _ (List.Sublist.refl _))) ?_
            refine W.perm _ ?_ (W.weak _ _ ?_ (List.Sublist.refl _) (hnext i2 (.cells [d.w 16] 22 1 false) 0 (fun _=>⟨.inl ⟨rfl,rfl⟩,Nat.zero_le _⟩)))
            · refine .cons _ ?_
              show (blL jl bkl M++(([]++[d]).flatMap DR.b++C.flatMap bbLo)).Perm (d.b++(blL jl bkl M++C.flatMap bbLo))
              simp only [List.nil_append,List.flatMap_cons,List.flatMap_nil,List.append_nil]
              exact List.perm_append_comm_assoc _ _ _
            · exact ⟨rfl,rfl,rfl⟩
          | cons b0 B =>
            have hm0:0<(b0::B).length:=by simp
            obtain ⟨hg1,hq1⟩:=hgr hm0
            generalize hBB:b0::B=BB at *
            have hold:takeL (BB.length * 1) (BB.map (DR.w 16))=some (BB.map (DR.w 16)):=by
              rw [Nat.mul_one,show BB.length=(BB.map (DR.w 16)).length by simp];exact takeL_all _
            rw [hdL_pos hm0,blL_pos hm0]
            repeat first|(refine W.bsl tblOk rfl rfl rfl rfl (by decide) rfl rfl rfl ?_;intro i0)|(with_reducible first|refine za ?_|refine zb ?_|refine zc ?_)|refine ym zr ?_|(with_reducible first|refine zg ?_|refine zh ?_|refine zi ?_)|refine W.condF zr ?_
            refine W.perm ((il,bkL)::(i0,.cells [d.w 16] 22 1 true)::((d.i,d.bk)::(d.ob++(blL jl bkl M++(BB.flatMap DR.b++C.flatMap bbLo))))) ?_ ?_
            rotate_left
            · refine W.appK (len:=BB.length) tblOk hg1 rfl rfl rfl rfl rfl rfl rfl (by decide) (by decide) ?hb ?hq hold (src_own (p:=1) rfl rfl rfl) rfl rfl rfl ?_
              case hb=>show (BB.length+1) * 24≤_;omega
              case hq=>omega
              intro i2
              repeat first|(with_reducible first|refine zb ?_|refine zc ?_)|refine ym zr ?_|with_reducible refine zf ?_
              rw [ew]
              refine W.dropE ((i2,_)::((d.i,d.bk)::(d.ob++(blL jl bkl M++(BB.flatMap DR.b++C.flatMap bbLo))))) (.cons_cons _ (.cons _ (.cons _ (List.Sublist.refl _)))) ?_
              refine W.perm _ ?_ (W.weak _ _ ?_ (List.Sublist.refl _) (hnext i2 (.kept (BB.map (DR.w 16)++[d.w 16]) 22 1 (BB.length * 1)) (BB.length * 1) (fun _=>⟨.inr (by simp),by simp⟩)))
              · rw [blL_pos (by simp)]
                refine .cons _ ?_
                show (blL jl bkl M++((BB++[d]).flatMap DR.b++C.flatMap bbLo)).Perm (d.b++(blL jl bkl M++(BB.flatMap DR.b++C.flatMap bbLo)))
                rw [List.flatMap_append,List.flatMap_cons,List.flatMap_nil,List.append_nil,List.append_assoc]
                refine .trans (List.Perm.append_left _ (List.perm_append_comm_assoc _ _ _)) ?_
                exact List.perm_append_comm_assoc _ _ _
              · refine ⟨rfl,?_,?_⟩
                · rw [hdL_pos (m:=(BB++[d]).length) (by simp),List.length_append];rfl
                · rw [List.length_append];rfl
            · exact (List.perm_middle (l₁:=_::_::d.ob)).symm
      · intro hA
        clear ih
        cases r with
        | nil =>
          refine W.loop ?_
          repeat first|(refine W.bsl tblOk rfl rfl rfl rfl (by decide) rfl rfl rfl ?_;intro i0)|(refine W.appN tblOk rfl rfl rfl rfl rfl rfl rfl (by decide) (by decide) (by decide) (src_own (p:=0) rfl rfl rfl) rfl rfl rfl ?_;intro i2)|(with_reducible first|refine za ?_|refine zb ?_|refine zc ?_)|refine ym zr ?_|(with_reducible first|refine zd ?_|refine ze ?_|refine zf ?_)|refine W.condT zr ?_
          refine W.weak _ _ ?_ ?_ (hA _ _ ⟨_,1,0,rfl,rfl,⟨Nat.le_refl _,by decide⟩,DR.Ins.nil i2 (ns:=bhLo B.length 0) (bcLo_ok B.length 0) rfl⟩)
          · exact ⟨rfl,rfl,rfl,rfl,rfl⟩
          · exact .cons_cons _ (.cons _ (List.Sublist.refl _))
        | blk j f own cs n room =>
          obtain ⟨k1,k2,k3,k4⟩:=hrk
          have hrm:Mks 1 SLo (mcLo B.length) cs n:=hrm
          cases own with
          | true =>
            obtain ⟨rfl,rfl⟩:=k4 rfl
            rw [Nat.add_zero] at k1
            have hold:takeL (n * 1) cs=some cs:=by rw [←k1];exact takeL_all _
            refine W.loop ?_
            repeat first|(refine W.bsl tblOk rfl rfl rfl rfl (by decide) rfl rfl rfl ?_;intro i0)|(with_reducible first|refine za ?_|refine zb ?_|refine zc ?_)|refine ym zr ?_|(with_reducible first|refine zd ?_|refine ze ?_)|refine W.condT zr ?_
            refine W.perm ((j,.cells cs 2 1 false)::(i0,.cells (bhLo B.length 0) 2 1 true)::(blL il bkL B.length++(blL jl bkl M++(B.flatMap DR.b++C.flatMap bbLo)))) ?_ ?_
            rotate_left
            · skip
              repeat first|(refine W.appK (len:=n) tblOk (.inl ⟨rfl,rfl⟩) rfl rfl rfl rfl rfl rfl rfl (by decide) (by decide) ?hb (Nat.zero_le _) hold (src_own (p:=1) rfl rfl rfl) rfl rfl rfl ?_;(case hb=>show (n+1) * 8≤_;omega);intro i2)|(with_reducible first|refine zb ?_|refine zc ?_)|refine ym zr ?_|with_reducible refine zf ?_
              refine W.weak _ _ ?_ ?_ (hA _ _ ⟨_,1,n * 1,rfl,rfl,⟨Nat.le_refl _,by decide⟩,DR.Ins.fst (room:=0) (.view cs) rfl i2 (.kept (cs++bhLo B.length 0) 2 1 (n * 1)) (.inr rfl) (Nat.le_refl _) hrm Mks.zero (by rw [Nat.add_zero];exact k1) k2 (bcLo_ok B.length 0) (fun _ h=>h) rfl⟩)
              · exact ⟨rfl,rfl,rfl,rfl,rfl⟩
              · exact .cons_cons _ (.cons_cons _ (.cons _ (List.Sublist.refl _)))
            · exact permThree _ _ _ _ _ _
          | false =>
            clear k4
            rcases k3 with rfl|rfl
            · rw [Nat.add_zero] at k1
              have hold:takeL (n * 1) cs=some cs:=by rw [←k1];exact takeL_all _
              refine W.loop ?_
              repeat first|(refine W.bsl tblOk rfl rfl rfl rfl (by decide) rfl rfl rfl ?_;intro i0)|(with_reducible first|refine za ?_|refine zb ?_|refine zc ?_)|refine ym zr ?_|(with_reducible first|refine zd ?_|refine ze ?_)|refine W.condT zr ?_
              have hin2:(j,Bk.cells cs 2 1 f)∈(i0,Bk.cells (bhLo B.length 0) 2 1 true)::(blL il bkL B.length++(blL jl bkl M++(B.flatMap DR.b++(OR.blk j f false cs n 0::C).flatMap bbLo))):=by
                rw [List.flatMap_cons];simp [OR.b]
              have hold2:subL cs 0 (n * 1)=some cs:=hold
              repeat first|(refine W.appC (len:=n) tblOk rfl rfl rfl rfl rfl rfl rfl (by decide) (by decide) ?hb ?hk ?hlk hin2 rfl hold2 (src_own (p:=0) rfl rfl rfl) rfl rfl rfl ?_;(case hb=>show (n+1) * 8≤_;omega);(case hk=>show n+0<n+1;omega);(case hlk=>omega);intro i2)|(with_reducible first|refine zb ?_|refine zc ?_)|refine ym zr ?_|with_reducible refine zf ?_
              refine W.dropE (_::(blL il bkL B.length++(blL jl bkl M++(B.flatMap DR.b++(j,Bk.cells cs 2 1 f)::C.flatMap bbLo)))) (.cons_cons _ (.cons _ (List.Sublist.refl _))) ?_
              refine W.perm (_::(j,Bk.cells cs 2 1 f)::(blL il bkL B.length++(blL jl bkl M++(B.flatMap DR.b++C.flatMap bbLo)))) (.trans (.swap _ _ _) (permThree _ _ _ _ _ _)) ?_
              refine W.weak _ _ ?_ ?_ (hA _ _ ⟨_,1,0,rfl,rfl,⟨Nat.le_refl _,by decide⟩,DR.Ins.fst (room:=0) (.cells cs 2 1 f) rfl i2 (.cells (cs++bhLo B.length 0) 2 1 false) (.inl ⟨rfl,rfl⟩) (Nat.zero_le _) hrm Mks.zero (by rw [Nat.add_zero];exact k1) k2 (bcLo_ok B.length 0) (fun _ h=>h) rfl⟩)
              · exact ⟨rfl,rfl,rfl,rfl,rfl⟩
              · exact List.Sublist.refl _
            -- two things more have room
            have q0:n * 1+1+1≤cs.length:=by rw [k1];omega
            have hset0:setLs cs (n * 1) (bhLo B.length 0)=some (cs.take (n * 1)++(bhLo B.length 0++cs.drop (n * 1+(bhLo B.length 0).length))):=setLs_at _ _ _ (by show n * 1+1≤_;omega)
            have k1a:=put_len (cs:=cs) (ns:=bhLo B.length 0) (q:=n * 1) (by show n * 1+1≤_;omega)
            have m1a:=hrm.keep (ns:=bhLo B.length 0) (q:=n * 1) (m:=n * 1+(bhLo B.length 0).length) (fun _ h=>h) (Nat.le_refl _) (by omega)
            have b1a:=Mks.room (n:=n) (k:=0) (bh:=bcLo B.length) (ns:=bhLo B.length 0) (cs:=cs) (S:=SLo) (sz:=1) Mks.zero (bcLo_ok B.length 0) (fun _ h=>h) rfl (by omega)
            rw [Nat.add_zero] at b1a
            generalize cs.take (n * 1)++(bhLo B.length 0++cs.drop (n * 1+(bhLo B.length 0).length))=cs1 at hset0 k1a m1a b1a
            have q1:(n+1) * 1+1≤cs1.length:=by rw [k1a];omega
            have hset1:setLs cs1 ((n+1) * 1) (bhLo B.length 1)=some (cs1.take ((n+1) * 1)++(bhLo B.length 1++cs1.drop ((n+1) * 1+(bhLo B.length 1).length))):=setLs_at _ _ _ (by show (n+1) * 1+1≤_;omega)
            have k1b:=put_len (cs:=cs1) (ns:=bhLo B.length 1) (q:=(n+1) * 1) (by show (n+1) * 1+1≤_;omega)
            have m1b:=m1a.keep (ns:=bhLo B.length 1) (q:=(n+1) * 1) (m:=(n+1) * 1+(bhLo B.length 1).length) (fun _ h=>h) (by omega) (by omega)
            have b1b:=Mks.room (n:=n) (k:=1) (bh:=bcLo B.length) (ns:=bhLo B.length 1) (cs:=cs1) (S:=SLo) (sz:=1) b1a (bcLo_ok B.length 1) (fun _ h=>h) rfl (by omega)
            generalize cs1.take ((n+1) * 1)++(bhLo B.length 1++cs1.drop ((n+1) * 1+(bhLo B.length 1).length))=cs2 at hset1 k1b m1b b1b
            have k2b:cs2.length=(n+2) * 1:=by rw [k1b,k1a,k1]
            have hold:takeL ((n+2) * 1) cs2=some cs2:=by rw [←k2b];exact takeL_all _
            have hold2:subL cs2 0 ((n+2) * 1)=some cs2:=hold
            refine W.loop ?_
            repeat first|(refine W.bsl tblOk rfl rfl rfl rfl (by decide) rfl rfl rfl ?_;intro i0)|(with_reducible first|refine za ?_|refine zb ?_|refine zc ?_)|refine ym zr ?_|(with_reducible first|refine zd ?_|refine ze ?_)|refine W.condT zr ?_
            refine W.perm ((j,.cells cs 2 1 f)::(i0,.cells (bhLo B.length 0) 2 1 true)::(blL il bkL B.length++(blL jl bkl M++(B.flatMap DR.b++C.flatMap bbLo)))) (permThree _ _ _ _ _ _) ?_
            refine W.appE (k:=n+2) (len:=n) (m:=1) tblOk rfl rfl rfl rfl rfl rfl rfl (by decide) (by decide) ?hb1 ?hk1 hset0 (src_own (p:=1) rfl rfl rfl) rfl rfl rfl ?_
            case hb1=>show (n+1) * 8≤_;omega
            case hk1=>omega
            refine W.dropE ((j,.cells cs1 2 1 f)::(blL il bkL B.length++(blL jl bkl M++(B.flatMap DR.b++C.flatMap bbLo)))) (.cons_cons _ (.cons _ (List.Sublist.refl _))) ?_
            repeat first|(with_reducible first|refine zb ?_|refine zc ?_)|refine ym zr ?_|with_reducible refine zf ?_
            refine W.loop ?_
            repeat first|(refine W.bsl tblOk rfl rfl rfl rfl (by decide) rfl rfl rfl ?_;intro i1)|(with_reducible first|refine za ?_|refine zb ?_|refine zc ?_)|refine ym zr ?_|(with_reducible first|refine zd ?_|refine ze ?_)|refine W.condT zr ?_
            refine W.fr1 ?_
            refine W.appE (k:=n+2) (len:=n+1) (m:=1) tblOk rfl rfl rfl rfl rfl rfl rfl (by decide) (by decide) ?hb2 ?hk2 hset1 (src_own (p:=1) rfl rfl rfl) rfl rfl rfl ?_
            case hb2=>show (n+1+1) * 8≤_;omega
            case hk2=>omega
            refine W.dropE ((j,.cells cs2 2 1 f)::(blL il bkL B.length++(blL jl bkl M++(B.flatMap DR.b++C.flatMap bbLo)))) (.cons_cons _ (.cons _ (List.Sublist.refl _))) ?_
            repeat first|(with_reducible first|refine zb ?_|refine zc ?_)|refine ym zr ?_|with_reducible refine zf ?_
            refine W.loop ?_
            repeat first|(refine W.bsl tblOk rfl rfl rfl rfl (by decide) rfl rfl rfl ?_;intro i2)|(with_reducible first|refine za ?_|refine zb ?_|refine zc ?_)|refine ym zr ?_|(with_reducible first|refine zd ?_|refine ze ?_)|refine W.condT zr ?_
            have hin2:∀(x:K×Bk) (l:Dm),(j,Bk.cells cs2 2 1 f)∈x::(j,Bk.cells cs2 2 1 f)::l:=fun x l=>.tail _ (.head _)
            refine W.appC (k:=n+2) (len:=n+2) (m:=1) tblOk rfl rfl rfl rfl rfl rfl rfl (by decide) (by decide) ?hb3 ?hk3 (Nat.le_refl _) (hin2 _ _) rfl hold2 (src_own (p:=0) rfl rfl rfl) rfl rfl rfl ?_
            case hb3=>show (n+2+1) * 8≤_;omega
            case hk3=>omega
            intro i3
            refine W.dropE (_::(j,.cells cs2 2 1 f)::(blL il bkL B.length++(blL jl bkl M++(B.flatMap DR.b++C.flatMap bbLo)))) (.cons_cons _ (.cons _ (List.Sublist.refl _))) ?_
            repeat first|(with_reducible first|refine zb ?_|refine zc ?_)|refine ym zr ?_|with_reducible refine zf ?_
            refine W.weak _ _ ?_ ?_ (hA _ _ ⟨_,3,0,rfl,rfl,⟨by decide,by decide⟩,DR.Ins.fst (room:=2) (.cells cs2 2 1 f) rfl i3 (.cells (cs2++bhLo B.length 2) 2 1 false) (.inl ⟨rfl,rfl⟩) (Nat.zero_le _) m1b b1b k2b k2 (bcLo_ok B.length 2) (fun _ h=>h) rfl⟩)
            · exact ⟨rfl,rfl,rfl,rfl,rfl⟩
            · exact List.Sublist.refl _
    | nil =>
      simp only [List.length_nil,Nat.add_zero] at hML
      clear ih hT hok2
      simp only [List.map_nil,List.append_nil] at hv
      repeat first|(with_reducible first|refine za ?_|refine zb ?_|refine zc ?_)|refine ym zr ?_
      refine W.condP rfl (fun h=>absurd h (by omega)) (fun _=>?_)
      repeat first|(with_reducible first|refine za ?_|refine zb ?_|refine zc ?_)|refine ym zr ?_|(with_reducible first|refine ze ?_|refine zg ?_|refine zh ?_|refine zi ?_)
      generalize hDD:blL il bkL B.length++(blL jl bkl M++(B.flatMap DR.b++List.flatMap bbLo []))=DD
      refine W.know fun hva hnd=>?_
      refine W.lendW [] DD ?_
      have hV:∀ {x bk cs},(x,bk)∈DD→rdl bk=some cs→withV V DD x=some cs:=fun h hr=>(withV_at hnd h).trans hr
      have hinB:∀ {d:DR} {x:K×Bk},d∈B→x∈d.b→x∈DD:=fun hd hx=>by
        rw [←hDD]
        exact List.mem_append_right _ (List.mem_append_right _ (List.mem_append_left _ (List.mem_flatMap.2 ⟨_,hd,hx⟩)))
      have hinJ:0<M→withV V DD jl=some (rows.map OR.v):=fun h=>hV (by rw [←hDD];exact List.mem_append_right _ (List.mem_append_left _ (blL_in h))) hbl
      have hinI:0<B.length→withV V DD il=some (B.map (DR.w 16)):=fun h=>hV (by rw [←hDD];exact List.mem_append_left _ (blL_in h)) (hgr h).1.rdl
      refine W.loopR (α:={ p:Nat // p≤M }) (fun p=>M-p.1) (fun p=>[(0,hdL jl M),(5,hdL il B.length),(9,.int .i64 (p.1:Int))]) (fun _=>[]) ⟨0,Nat.zero_le _⟩ ⟨rfl,rfl,rfl⟩ (List.Sublist.refl _) ?_
      rintro ⟨p,hp'⟩ ih
      simp only at ih hp' ⊢
      by_cases hpM:p<M
      · have h0:¬M=0:=by omega
        have h0B:¬B.length=0:=by omega
        have hVj:=hinJ (by omega)
        have hVi:=hinI (by omega)
        have hpl:(p:Int)<(M:Int):=by omega
        have hpB:(p:Int)<(B.length:Int):=by omega
        obtain ⟨d,hd⟩:∃d,B[p]?=some d:=⟨B[p]'(by omega),List.getElem?_eq_getElem _⟩
        obtain ⟨o1,o2,o3,o4⟩:=hB p d hd
        have hdB:=List.mem_of_getElem? hd
        have hr1:partG tbl 22 (rows.map OR.v) (0+(p:Int).toNat * 1)=some (.slice (d.old.map fun x=>(x.1,0)) d.n d.c):=part_leaf rfl (by rw [←hv];simp [hd,DR.v])
        have hr2:partG tbl 22 (B.map (DR.w 16)) (0+(p:Int).toNat * 1)=some (.slice (some (d.i,0)) (d.n+16) (.own 0)):=part_leaf rfl (by simp [hd,DR.w])
        have hVn:withV V DD d.i=some d.cs:=hV (hinB hdB (.head _)) o1
        have ewp:IntKind.i64.wrap ((p:Int)+1)=(((p+1:Nat)):Int):=by rw [w64 (by omega) (by omega)];omega
        have hdn:d.n≤1000000:=hnB d hdB
        have hnext:=ih ⟨p+1,hpM⟩ (by show M-(p+1)<M-p;omega)
        clear ih
        repeat first|(with_reducible first|refine za ?_|refine zb ?_|refine zc ?_)|refine ym zr ?_
        refine W.condP rfl (fun _=>?_) (fun h=>absurd hpl h)
        repeat first|refine W.ia tblOk rfl rfl rfl rfl rfl rfl (if_neg h0) (by omega) hpl ?_|refine W.ldV tblOk rfl rfl rfl hVj hr1 ?_|(with_reducible first|refine za ?_|refine zb ?_|refine zc ?_)|refine ym zr ?_|(with_reducible first|refine zd ?_|refine ze ?_)
        refine W.loopR (α:={ k:Nat // k≤d.n }) (fun k=>d.n-k.1) (fun k=>[(0,hdL jl M),(5,hdL il B.length),(9,.int .i64 (p:Int)),(10,.int .i64 (d.n:Int)),(11,.int .i64 (k.1:Int))]) (fun _=>[]) ⟨0,Nat.zero_le _⟩ ⟨rfl,rfl,rfl,rfl,rfl⟩ (List.Sublist.refl _) ?_
        rintro ⟨k,hk⟩ ih2
        simp only at ih2 hk ⊢
        by_cases hkn:k<d.n
        · obtain ⟨jo,bo,oc,ho⟩:∃jo bo oc,d.old=some (jo,bo,oc):=by
            cases hq:d.old with
            | none=>rw [hq] at o4;exact absurd o4 (by omega)
            | some q=>exact ⟨_,_,_,rfl⟩
          rw [ho] at o4 hr1
          have hVo:withV V DD jo=some oc:=hV (hinB hdB (by unfold DR.b DR.ob;rw [ho];simp)) o4.1
          have hp1:partG tbl 2 oc (0+(k:Int).toNat * 1)=some (mcLo p k 0):=part_leaf rfl (by rw [show 0+(k:Int).toNat * 1=k * 1+0 by omega];exact o4.2 k 0 hkn (by decide))
          have hp2:partG tbl 2 d.cs (0+(k:Int).toNat * 1)=some (mcLo p k 0):=part_leaf rfl (by rw [show 0+(k:Int).toNat * 1=k * 1+0 by omega];exact o2 k 0 hkn (by decide))
          have hkl:(k:Int)<(d.n:Int):=by omega
          have hkl2:(k:Int)<((d.n+16:Nat):Int):=by omega
          have ewk:IntKind.i64.wrap ((k:Int)+1)=(((k+1:Nat)):Int):=by rw [w64 (by omega) (by omega)];omega
          have hnext2:=ih2 ⟨k+1,hkn⟩ (by show d.n-(k+1)<d.n-k;omega)
          clear ih2
          repeat first|(with_reducible first|refine za ?_|refine zb ?_|refine zc ?_)|refine ym zr ?_
          refine W.condP rfl (fun _=>?_) (fun h=>absurd hkl h)
          repeat first|refine W.ia tblOk rfl rfl rfl rfl rfl rfl (if_neg h0) (by omega) hpl ?_|refine W.ia tblOk rfl rfl rfl rfl rfl rfl (if_neg h0B) (by omega) hpB ?_|refine W.ia tblOk rfl rfl rfl rfl rfl rfl rfl (by omega) hkl ?_|refine W.ia tblOk rfl rfl rfl rfl rfl rfl rfl (by omega) hkl2 ?_|refine W.ldV tblOk rfl rfl rfl hVj hr1 ?_|refine W.ldV tblOk rfl rfl rfl hVi hr2 ?_|refine W.ldV tblOk rfl rfl rfl hVo hp1 ?_|refine W.ldV tblOk rfl rfl rfl hVn hp2 ?_|(refine W.gs rfl rfl rfl rfl (fun h=>absurd rfl h) ?_;intro _)|(with_reducible first|refine za ?_|refine zb ?_|refine zc ?_)|refine ym zr ?_|(with_reducible first|refine zd ?_|refine ze ?_)
          refine W.condP rfl (fun h=>absurd rfl h) (fun _=>?_)
          repeat first|(with_reducible first|refine zb ?_|refine zc ?_)|refine ym zr ?_|(with_reducible first|refine zd ?_|refine zf ?_)
          rw [ewk]
          exact W.wk hnext2 ⟨rfl,rfl,rfl,rfl,rfl⟩ (List.Sublist.refl _)
        · have hk1:k=d.n:=by omega
          clear ih2
          repeat first|(with_reducible first|refine za ?_|refine zb ?_|refine zc ?_)|refine ym zr ?_
          refine W.condP rfl (fun h=>absurd h (by omega)) (fun _=>?_)
          repeat first|(with_reducible first|refine za ?_|refine zb ?_|refine zc ?_)|refine ym zr ?_|(with_reducible first|refine ze ?_|refine zg ?_|refine zh ?_|refine zi ?_)
          refine W.loopR (α:={ k:Nat // k≤16 }) (fun k=>16-k.1) (fun k=>[(0,hdL jl M),(5,hdL il B.length),(9,.int .i64 (p:Int)),(10,.int .i64 (d.n:Int)),(12,.int .i64 (k.1:Int))]) (fun _=>[]) ⟨0,Nat.zero_le _⟩ ⟨rfl,rfl,rfl,rfl,rfl⟩ (List.Sublist.refl _) ?_
          rintro ⟨k3,hk3⟩ ih3
          simp only at ih3 hk3 ⊢
          by_cases hk16:k3<16
          · have hp3:partG tbl 2 d.cs (0+((d.n+k3:Nat):Int).toNat * 1)=some (bcLo p k3 0):=part_leaf rfl (by
              have:=o3 k3 0 hk16 (by decide)
              rw [List.getElem?_drop] at this
              rw [show 0+((d.n+k3:Nat):Int).toNat * 1=d.n * 1+(k3 * 1+0) by rw [Int.toNat_natCast];omega]
              exact this)
            have hkl3:((d.n+k3:Nat):Int)<((d.n+16:Nat):Int):=by omega
            have ews:IntKind.i64.wrap ((d.n:Int)+(k3:Int))=((d.n+k3:Nat):Int):=by rw [w64 (by omega) (by omega)];omega
            have ewk3:IntKind.i64.wrap ((k3:Int)+1)=(((k3+1:Nat)):Int):=by rw [w64 (by omega) (by omega)];omega
            have hnext3:=ih3 ⟨k3+1,hk16⟩ (by show 16-(k3+1)<16-k3;omega)
            clear ih3
            repeat first|(with_reducible first|refine za ?_|refine zb ?_|refine zc ?_)|refine ym zr ?_
            refine W.condP rfl (fun _=>?_) (fun h=>absurd (show (k3:Int)<16 by omega) h)
            repeat first|refine W.ia tblOk rfl rfl rfl rfl rfl rfl (if_neg h0B) (by omega) hpB ?_|refine W.ldV tblOk rfl rfl rfl hVi hr2 ?_|(with_reducible first|refine za ?_|refine zb ?_)|refine ym zr ?_|(with_reducible first|refine zd ?_|refine ze ?_)
            rw [ews]
            repeat first|refine W.ia tblOk rfl rfl rfl rfl rfl rfl rfl (by omega) hkl3 ?_|refine W.ldV tblOk rfl rfl rfl hVn hp3 ?_|with_reducible refine zc ?_|refine ym zr ?_
            refine W.condP rfl (fun h=>absurd rfl h) (fun _=>?_)
            repeat first|(with_reducible first|refine zb ?_|refine zc ?_)|refine ym zr ?_|(with_reducible first|refine zd ?_|refine zf ?_)
            rw [ewk3]
            exact W.wk hnext3 ⟨rfl,rfl,rfl,rfl,rfl⟩ (List.Sublist.refl _)
          · clear ih3
            repeat first|(with_reducible first|refine za ?_|refine zb ?_|refine zc ?_)|refine ym zr ?_
            refine W.condP rfl (fun h=>absurd h (by omega)) (fun _=>?_)
            repeat first|(with_reducible first|refine zb ?_|refine zc ?_)|refine ym zr ?_|(with_reducible first|refine zf ?_|refine zg ?_|refine zh ?_|refine zi ?_)
            rw [ewp]
            exact W.wk hnext ⟨rfl,rfl,rfl⟩ (List.Sublist.refl _)
      · clear ih
        repeat first|(with_reducible first|refine za ?_|refine zb ?_|refine zc ?_)|refine ym zr ?_
        refine W.condP rfl (fun h=>absurd h (by omega)) (fun _=>?_)
        repeat' first|(with_reducible first|refine za ?_|refine zb ?_|refine zc ?_)|refine ym zr ?_|(with_reducible first|refine zg ?_|refine zh ?_|refine zi ?_|refine zj ?_)|refine W.done zr ?_
        rfl
end Go.Proofs.YtoegffiapnnkiaaGreat.Abs
