/- Parts of one proof. No condition but those that each theorem names. -/
import Derived.Test.YtoegffiapnnkiaaGreatPE17
namespace Go.Proofs.YtoegffiapnnkiaaGreat.Abs
open Go
set_option linter.unusedVariables false
set_option linter.unusedSimpArgs false
set_option maxRecDepth 100000
set_option maxHeartbeats 4000000
attribute [local irreducible] W Cl Bd
variable {g:Cg} {V:K→Option (List AV)}
def runR (t:Table) (f:Int):Nat→Int→List Int→Bool→Option (List Int)
  | 0,_,L,bad=>if bad=true then none else some L
  | m+1,i,L,bad=>if bad=true then none else if lAt L (i-f)<0 then none else runR t f m (i+1) (stepR f L bad (codeAt t i) i).1 (stepR f L bad (codeAt t i) i).2
def L0 (f z:Int):List Int:=List.replicate (z+1-f).toNat (-1)
def fitR (t:Table) (f z:Int):Bool:=match runR t f (z-f).toNat f (comeR (L0 f z) false (f-f) 0).1 (comeR (L0 f z) false (f-f) 0).2 with
  | some L=>decide (lAt L (z-f)=1)
  | none=>false
theorem LOk.step {f:Int} {L:List Int} {bad:Bool} {x:Instr} {a:Int} (hL:LOk L):LOk (stepR f L bad x a).1∧(stepR f L bad x a).1.length=L.length:=by
  simp only [stepR]
  (repeat' split)<;>first
    | exact ⟨hL.come _ _ _,comeR_len _ _ _ _⟩
    | exact ⟨(hL.come _ _ _).come _ _ _,(comeR_len _ _ _ _).trans (comeR_len _ _ _ _)⟩
theorem takeL_allL {α:Type} (l:List α):takeL l.length l=some l:=by
  induction l with
  | nil=>rfl
  | cons x l ih=>show consO x (takeL l.length l)=_;rw [ih];rfl
theorem fit_c (hp:Plain g 128=true) (hc:Plain g 165=true) (hs:Plain g 166=true) {t:Table} (ht:t.Ok V) {f z:Int} (h0:0≤f) (h1:f<z) (h2:z≤t.code.l.length) (h3:t.code.l.length≤4096) (hst:standAll t z (z-f).toNat f=true) :
    Cl Tryz.prog g V 128 [t.v,.agg [.int .i64 f,.int .i64 z]] [] fun o _=>o=.ret (.bool (fitR t f z)):=by
  have e1:∀i:Int,f≤i→i≤z→IntKind.i64.wrap (i+1)=i+1:=fun i _ _=>w64 (by omega) (by omega)
  refine Cl.enter hp Tryz.func128 rfl ?_
  repeat first|(with_reducible first|refine za ?_|refine zb ?_|refine zc ?_)|refine ym zr ?_|refine yn 0 zr ?_|refine yn 1 zr ?_|(refine yo zr ?_;intro _)|with_reducible refine ze ?_
  -- the first round: a row is made
  refine W.loop ?_
  repeat first|(with_reducible first|refine za ?_|refine zb ?_|refine zc ?_)|refine ym zr ?_|refine yn 1 zr ?_
  refine W.condP rfl ?_ ?_<;>intro hlt
  rotate_left
  · exfalso;omega
  repeat first|(refine W.bsl tblOk rfl rfl rfl rfl (by decide) rfl rfl rfl ?_;intro j_)|(refine W.appN tblOk rfl rfl rfl rfl rfl rfl rfl (by decide) (by decide) (by decide) (src_own (p:=0) rfl rfl rfl) rfl rfl rfl ?_;intro l_)|(with_reducible first|refine za ?_|refine zb ?_|refine zc ?_)|refine ym zr ?_|refine yn 0 zr ?_|refine yu zr ?_|(with_reducible first|refine zd ?_|refine ze ?_|refine zf ?_)
  rw [e1 f (by omega) (by omega)]
  rename_i tb_ xs_ h_
  refine W.loopR (α:={ p:Int×K // f+1≤p.1∧p.1≤z+1 }) (fun p=>(z+1-p.1.1).toNat) (fun p=>[(2,_),(3,_),(5,_),(6,.int .i64 p.1.1)]) (fun p=>[hB h_ p.1.2 f (p.1.1-f).toNat (.own 0) false,lB p.1.2 (List.replicate (p.1.1-f).toNat (-1)),(xs_,.cells [.int .i64 f,.int .i64 z] 53 2 true),(tb_,.cells [.str t.name,t.regs.v,.int .i64 t.slots,t.consts.v,t.code.v,t.states.v] 26 6 true)]) ⟨(f+1,l_),by omega,by omega⟩ ⟨rfl,rfl,rfl,rfl⟩ ?_ ?_
  · show List.Sublist [hB h_ l_ f (f+1-f).toNat (.own 0) false,lB l_ (List.replicate (f+1-f).toNat (-1)),_,_] _
    rw [show (f+1-f).toNat=1 by omega]
    exact .cons_cons _ (.cons_cons _ (.cons _ (List.Sublist.refl _)))
  rintro ⟨⟨i,lk⟩,hi0,hi1⟩ ih
  simp only at ih hi0 hi1 ⊢
  repeat first|(with_reducible first|refine za ?_|refine zb ?_|refine zc ?_)|refine ym zr ?_|refine yn 2 zr ?_
  refine W.condP rfl ?_ ?_<;>intro hlt2
  · have hold:takeL ((i-f).toNat * 1) (List.map (AV.int .i64) (List.replicate (i-f).toNat (-1)))=some (List.map (AV.int .i64) (List.replicate (i-f).toNat (-1))):=by
      have:=takeL_allL (List.map (AV.int .i64) (List.replicate (i-f).toNat (-1)))
      simpa using this
    repeat first|(refine W.bsl tblOk rfl rfl rfl rfl (by decide) rfl rfl rfl ?_;intro j_)|(refine W.fr2 ?_;refine W.appO tblOk rfl rfl rfl rfl rfl rfl rfl (by decide) (by decide) (by omega) hold (src_own (p:=1) rfl rfl rfl) rfl rfl rfl ?_;intro l_)|(with_reducible first|refine za ?_|refine zb ?_|refine zc ?_)|refine ym zr ?_|refine yn 0 zr ?_|refine yu zr ?_|(with_reducible first|refine zd ?_|refine ze ?_|refine zf ?_)
    rw [e1 i (by omega) (by omega)]
    have h9:=ih ⟨(i+1,l_),by show f+1≤i+1;omega,by show i+1≤z+1;omega⟩ (by show (z+1-(i+1)).toNat<(z+1-i).toNat;omega)
    simp only [show (i+1-f).toNat=(i-f).toNat+1 by omega] at h9
    refine W.weak _ _ ?_ ?_ h9
    · exact ⟨rfl,rfl,rfl,rfl⟩
    · rw [show lB l_ (List.replicate ((i-f).toNat+1) (-1))=(l_,.cells (List.map (AV.int .i64) (List.replicate (i-f).toNat (-1))++[.int .i64 (-1)]) 3 1 false) by simp [lB,List.replicate_succ']]
      exact .cons_cons _ (.cons_cons _ (.cons _ (List.Sublist.refl _)))
  have hiz:i=z+1:=by omega
  subst hiz
  clear ih
  have hL0:LOk (List.replicate (z+1-f).toNat (-1)):=⟨by simp;omega,fun n hn=>by rw [List.eq_of_mem_replicate hn];omega⟩
  repeat first|(with_reducible first|refine za ?_|refine zb ?_)|refine ym zr ?_|refine yn 2 zr ?_|(with_reducible first|refine zg ?_|refine zh ?_|refine zi ?_)
  refine W.callR (Δ:=[hB _ _ _ _ _ _,lB _ _]) rfl rfl rfl rfl (comeR_c hc _ _ hL0 (by simp) 0 (by omega) (by omega) (by simp;omega)) (by rintro v Δ' ⟨h,-⟩;cases h) ?_
  rintro v_ Δ_ ⟨hv_,hm1_,hm2_⟩
  injection hv_ with hv_;subst hv_
  refine W.keep2 _ _ hm1_ hm2_ hl_ne ?_
  clear hm1_ hm2_
  have hL1:=hL0.come false (f-f) 0
  have hN1:(comeR (List.replicate (z+1-f).toNat (-1)) false (f-f) 0).1.length=(z+1-f).toNat:=by rw [comeR_len];simp
  have hfit:fitR t f z=match runR t f (z-f).toNat f (comeR (List.replicate (z+1-f).toNat (-1)) false (f-f) 0).1 (comeR (List.replicate (z+1-f).toNat (-1)) false (f-f) 0).2 with
    | some L=>decide (lAt L (z-f)=1)
    | none=>false:=rfl
  generalize hG:(comeR (List.replicate (z+1-f).toNat (-1)) false (f-f) 0)=G at hL1 hN1 hfit ⊢
  obtain ⟨L1,b1⟩:=G
  simp only at hL1 hN1 hfit ⊢
  generalize fitR t f z=R at hfit ⊢
  repeat first|(with_reducible first|refine za ?_|refine zb ?_|refine zc ?_)|refine ym zr ?_|refine yn 2 zr ?_|with_reducible refine ze ?_
  refine W.loopR (α:={ p:Int×List Int×Bool // f≤p.1∧p.1≤z∧LOk p.2.1∧p.2.1.length=(z+1-f).toNat∧R=match runR t f (z-p.1).toNat p.1 p.2.1 p.2.2 with|some L=>decide (lAt L (z-f)=1)|none=>false }) (fun p=>(z-p.1.1).toNat) (fun p=>[(2,_),(3,_),(5,_),(7,.int .i64 p.1.1)]) (fun p=>[hB h_ lk f (z+1-f).toNat (.own 0) p.1.2.2,lB lk p.1.2.1,(xs_,.cells [.int .i64 f,.int .i64 z] 53 2 true),(tb_,.cells [.str t.name,t.regs.v,.int .i64 t.slots,t.consts.v,t.code.v,t.states.v] 26 6 true)]) ⟨(f,L1,b1),by omega,by omega,hL1,hN1,hfit⟩ ⟨rfl,rfl,rfl,rfl⟩ (List.Sublist.refl _) ?_
  clear hfit hN1 hL1 hG
  rintro ⟨⟨i,L,bad⟩,hi0,hi1,hL,hN,hinv⟩ ih
  simp only at ih hi0 hi1 hL hN hinv ⊢
  have hlz:=lload (L:=L) (a:=z-f) (by omega) (by omega)
  have hli:=lload (L:=L) (a:=i-f) (by omega) (by omega)
  have ez:IntKind.i64.wrap (z-f)=z-f:=w64 (by omega) (by omega)
  have ei:IntKind.i64.wrap (i-f)=i-f:=w64 (by omega) (by omega)
  rw [←ez] at hlz
  rw [←ei] at hli
  rcases Int.lt_or_le i z with hiz|hiz
  · rw [show (z-i).toNat=(z-(i+1)).toNat+1 by omega,runR] at hinv
    cases bad with
    | true =>
      rw [if_pos rfl] at hinv
      clear ih
      repeat' first|(refine W.gs rfl rfl rfl rfl ?_ ?_<;>intro _<;>first|(exfalso;omega)|skip)|(with_reducible first|refine za ?_|refine zb ?_|refine zc ?_)|refine ym zr ?_|refine yn 0 zr ?_|refine yn 2 zr ?_|(with_reducible first|refine zg ?_|refine zh ?_|refine zi ?_|refine zj ?_)|refine zw (by decide +kernel) ?_|refine zx zr zr zr ?_|refine W.condF zr ?_|refine W.done zr ?_
      rw [hinv];rfl
    | false =>
      rw [if_neg (by simp)] at hinv
      obtain ⟨jn,o,cs,ha,hV,hpt⟩:=codeAt_in ht (i:=i) (by omega) (by omega)
      have hsti:=standAll_at _ f i hst hi0 (by omega)
      repeat' first|(refine W.gs rfl rfl rfl rfl ?_ ?_<;>intro _<;>first|(exfalso;omega)|skip)|(refine W.ia tblOk rfl rfl rfl rfl rfl rfl rfl (by rw [ei];omega) (by rw [ei];omega) ?_)|refine W.ldO tblOk 1 rfl rfl rfl hli rfl rfl ?_|refine W.ia tblOk rfl rfl rfl rfl rfl rfl ha (by omega) (by omega) ?_|refine W.ldV tblOk rfl rfl rfl hV hpt ?_|(with_reducible first|refine za ?_|refine zb ?_|refine zc ?_)|refine ym zr ?_|refine yn 0 zr ?_|refine yn 2 zr ?_|refine yn 3 zr ?_|(with_reducible first|refine zd ?_|refine ze ?_|refine zj ?_|refine zk ?_|refine zl ?_)|refine zw (by decide +kernel) ?_|(refine W.condP zr ?_ ?_<;>intro _)|refine W.condT zr ?_|refine W.done zr ?_
      · rename_i hq
        rw [ei] at hq
        rw [hinv,if_pos hq];rfl
      rename_i hq
      rw [ei] at hq
      rw [if_neg hq] at hinv
      refine W.callR (Δ:=[hB _ _ _ _ _ _,lB _ _]) rfl rfl rfl rfl (stepR_c hs hc _ _ hL hN (x:=codeAt t i) (by omega) hi0 (by omega) (fun hk=>by have:=stands_to hsti hk;omega) (by omega)) (by rintro v Δ' ⟨h,-⟩;cases h) ?_
      rintro v_ Δ_ ⟨hv_,hm1_,hm2_⟩
      injection hv_ with hv_;subst hv_
      refine W.keep2 _ _ hm1_ hm2_ hl_ne ?_
      clear hm1_ hm2_
      repeat first|(with_reducible first|refine zb ?_|refine zc ?_)|refine ym zr ?_|with_reducible refine zf ?_
      rw [e1 i (by omega) (by omega)]
      have h9:=ih ⟨(i+1,(stepR f L false (codeAt t i) i).1,(stepR f L false (codeAt t i) i).2),by show f≤i+1;omega,by show i+1≤z;omega,(LOk.step hL).1,(LOk.step hL).2.trans hN,hinv⟩ (by show (z-(i+1)).toNat<(z-i).toNat;omega)
      refine W.weak _ _ ?_ ?_ h9
      · exact ⟨rfl,rfl,rfl,rfl⟩
      · exact List.Sublist.refl _
  · have e:i=z:=by omega
    subst e
    clear ih
    rw [show (i-i).toNat=0 by omega,runR] at hinv
    cases bad with
    | true =>
      repeat' first|(refine W.gs rfl rfl rfl rfl ?_ ?_<;>intro _<;>first|(exfalso;omega)|skip)|(with_reducible first|refine za ?_|refine zb ?_|refine zc ?_)|refine ym zr ?_|refine yn 0 zr ?_|refine yn 2 zr ?_|(with_reducible first|refine zg ?_|refine zh ?_|refine zi ?_|refine zj ?_)|refine zw (by decide +kernel) ?_|refine zx zr zr zr ?_|refine W.condF zr ?_|refine W.done zr ?_
      rw [hinv];rfl
    | false =>
      rw [if_neg (by simp)] at hinv
      repeat' first|(refine W.gs rfl rfl rfl rfl ?_ ?_<;>intro _<;>first|(exfalso;omega)|skip)|(refine W.ia tblOk rfl rfl rfl rfl rfl rfl rfl (by rw [ez];omega) (by rw [ez];omega) ?_)|refine W.ldO tblOk 1 rfl rfl rfl hlz rfl rfl ?_|(with_reducible first|refine za ?_|refine zb ?_|refine zc ?_)|refine ym zr ?_|refine yn 0 zr ?_|refine yn 2 zr ?_|(with_reducible first|refine zg ?_|refine zh ?_|refine zi ?_|refine zj ?_)|refine zw (by decide +kernel) ?_|refine zx zr zr zr ?_|refine W.condF zr ?_|refine W.done zr ?_
      rw [hinv,ez];rfl
end Go.Proofs.YtoegffiapnnkiaaGreat.Abs
