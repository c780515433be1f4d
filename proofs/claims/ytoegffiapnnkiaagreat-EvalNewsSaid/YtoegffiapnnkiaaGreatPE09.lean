/- Parts of one proof. No condition but those that each theorem names. -/
import Derived.Test.YtoegffiapnnkiaaGreatPE08
namespace Go.Proofs.YtoegffiapnnkiaaGreat.Abs
open Go
set_option linter.unusedSimpArgs false
set_option linter.unusedVariables false
set_option maxRecDepth 100000
set_option maxHeartbeats 4000000
attribute [local irreducible] W Cl Bd
variable {g:Cg} {V:K→Option (List AV)}
def codeAt (t:Table) (i:Int):Instr:=t.code.l.getD i.toNat ⟨0,0⟩
theorem codeAt_in {t:Table} (ht:t.Ok V) {i:Int} (h0:0≤i) (h1:i<t.code.l.length):∃j o cs,t.code.a=some (j,o)∧V j=some cs∧partG tbl 86 cs (o+i.toNat * 2)=some (codeAt t i).v:=by
  have h:t.code.l[i.toNat]?=some (codeAt t i):=by
    unfold codeAt
    rw [List.getD_eq_getElem?_getD,List.getElem?_eq_getElem (by omega)];rfl
  exact ht.code.2.1 i.toNat (codeAt t i) h
def standAll (t:Table) (z:Int):Nat→Int→Bool
  | 0,_=>true
  | m+1,i=>Stands t (codeAt t i) i z&&standAll t z m (i+1)
def runS (t:Table):Nat→Int→List Int→Option (List Int)
  | 0,_,H=>some H
  | m+1,i,H=>(goS H (codeAt t i) i).bind (runS t m (i+1))
def H0:List Int:=List.replicate 4097 0
def spanS (t:Table) (f z:Int):Option Int :=
  if standAll t z (z-f).toNat f=true then
    match (comeS H0 f 0).bind (runS t (z-f).toNat f) with
    | some H=>if hAt H z=2 then none else some 192
    | none=>some 192
  else some 191
theorem standAll_at {t:Table} {z:Int}:∀(m:Nat) (f i:Int),standAll t z m f=true→f≤i→i<f+m→Stands t (codeAt t i) i z=true
  | 0,f,i,_,h1,h2=>by omega
  | m+1,f,i,h,h1,h2=>by
    simp only [standAll,Bool.and_eq_true] at h
    by_cases e:i=f
    · subst e;exact h.1
    · exact standAll_at m (f+1) i h.2 (by omega) (by omega)
theorem stands_to {t:Table} {x:Instr} {a z:Int} (h:Stands t x a z=true) (hk:6≤x.k∧x.k≤9):a<x.a∧x.a≤z:=by
  unfold Stands at h
  rw [if_neg (by omega),if_neg (by omega),if_neg (by omega),if_neg (by omega),if_neg (by omega),if_pos (by omega)] at h
  simpa using h
theorem HOk.go {H H':List Int} {x:Instr} {a:Int} (hH:HOk H) (h:goS H x a=some H'):HOk H':=by
  have hb:∀ {H1:List Int} {f:List Int→Option (List Int)} {o:Option (List Int)},(∀G,o=some G→HOk G)→(∀G G',HOk G→f G=some G'→HOk G')→o.bind f=some H1→HOk H1:=fun h1 h2 h3=>by
    obtain ⟨G,e1,e2⟩:=Option.bind_eq_some_iff.1 h3
    exact h2 _ _ (h1 G e1) e2
  simp only [goS] at h
  (repeat' split at h)<;>first
    | cases h
    | exact hH.come h
    | exact hb (fun G e=>hH.come e) (fun G G' hG e=>hG.come e) h
theorem H0_ok:HOk H0:=⟨List.length_replicate,fun n hn=>by rw [List.eq_of_mem_replicate hn];omega⟩
theorem span_c (hp:Plain g 110=true) (hs:Plain g 145=true) (hg:Plain g 147=true) (hc:Plain g 146=true) (hm:Plain g 112=true) {t:Table} (ht:t.Ok V) {f z:Int} (h0:0≤f) (h1:f≤z) (h2:z≤t.code.l.length) (h3:t.code.l.length≤4096) :
    Cl Tryz.prog g V 110 [t.v,.agg [.int .i64 f,.int .i64 z]] [] fun o _=>o=match spanS t f z with|none=>.ret (.tup [])|some c=>.pan (pn c):=by
  refine Cl.enter hp Tryz.func110 rfl ?_
  repeat first|(with_reducible first|refine za ?_|refine zb ?_|refine zc ?_)|refine ym zr ?_|refine yn 0 zr ?_|(refine yo zr ?_;intro _)|with_reducible refine ze ?_
  refine W.loopR (α:={ i:Int // f≤i∧i≤z∧standAll t z (z-f).toNat f=standAll t z (z-i).toNat i }) (fun i=>(z-i.1).toNat) (fun i=>[(2,_),(3,_),(4,.int .i64 i.1)]) (fun _=>_) ⟨f,by omega,h1,rfl⟩ ⟨rfl,rfl,rfl⟩ (List.Sublist.refl _) ?_
  rintro ⟨i,hi0,hi1,hi2⟩ ih
  simp only at ih ⊢
  repeat first|(with_reducible first|refine za ?_|refine zb ?_|refine zc ?_)|refine ym zr ?_|refine yn 0 zr ?_
  refine W.condP rfl ?_ ?_<;>intro hlt
  · obtain ⟨jn,o,cs,ha,hV,hpt⟩:=codeAt_in ht (i:=i) (by omega) (by omega)
    have e1:IntKind.i64.wrap (i+1)=i+1:=w64 (by omega) (by omega)
    repeat' first|refine W.ia tblOk rfl rfl rfl rfl rfl rfl ha (by omega) (by omega) ?_|refine W.ldV tblOk rfl rfl rfl hV hpt ?_|refine W.callP rfl rfl rfl rfl (stands_c hs (t:=t) (x:=codeAt t i) ht (by omega)) ?_|(refine W.callM rfl rfl rfl rfl (must_c hm _ _) (by decide +kernel) ?_ ?_<;>intro hm_<;>(try simp only [decide_eq_true_eq,decide_eq_false_iff_not,Bool.true_eq_false,Bool.false_eq_true] at hm_))|(with_reducible first|refine za ?_|refine zb ?_|refine zc ?_)|refine ym zr ?_|refine yn 0 zr ?_|refine yn 1 zr ?_|(with_reducible first|refine zd ?_|refine ze ?_|refine zf ?_)|refine zw (by decide +kernel) ?_
    · rw [e1]
      have h9:=ih ⟨i+1,by omega,by omega,by rw [hi2,show (z-i).toNat=(z-(i+1)).toNat+1 by omega,standAll,hm_,Bool.true_and]⟩ (by show (z-(i+1)).toNat<(z-i).toNat;omega)
      refine W.weak _ _ ?_ ?_ h9
      · exact ⟨rfl,rfl,rfl⟩
      · exact List.Sublist.refl _
    · have:spanS t f z=some 191:=by
        unfold spanS
        rw [hi2,show (z-i).toNat=(z-(i+1)).toNat+1 by omega,standAll,hm_];rfl
      rw [this]
  · have hall:standAll t z (z-f).toNat f=true:=by rw [hi2,show (z-i).toNat=0 by omega];rfl
    have hS:spanS t f z=match (comeS H0 f 0).bind (runS t (z-f).toNat f) with
        | some H=>if hAt H z=2 then none else some 192
        | none=>some 192:=by unfold spanS;rw [if_pos hall]
    clear ih hi2 hlt
    repeat first|(with_reducible first|refine za ?_|refine zb ?_|refine zc ?_)|refine ym zr ?_|refine yn 1 zr ?_|(refine yo zr ?_;intro _)|(with_reducible first|refine zg ?_|refine zh ?_|refine zi ?_)
    refine W.callF (x0:=hb _ H0) rfl rfl rfl rfl (come_c hc hm _ H0_ok 0 h0 (by omega)) (by decide +kernel) ?_ ?_<;>intro hm_
    rotate_left
    · rw [hS,Option.not_isSome_iff_eq_none.1 hm_];rfl
    obtain ⟨H1,hH1⟩:=Option.isSome_iff_exists.1 hm_
    have hO1:=H0_ok.come hH1
    rw [hH1] at hS ⊢
    simp only [Option.getD_some]
    repeat first|(with_reducible first|refine za ?_|refine zb ?_|refine zc ?_)|refine ym zr ?_|refine yn 1 zr ?_|with_reducible refine ze ?_
    refine W.loopR (α:={ p:Int×List Int // f≤p.1∧p.1≤z∧HOk p.2∧(some H1).bind (runS t (z-f).toNat f)=runS t (z-p.1).toNat p.1 p.2 }) (fun p=>(z-p.1.1).toNat) (fun p=>[(2,_),(3,_),(5,_),(6,.int .i64 p.1.1)]) (fun p=>[hb _ p.1.2,_,_]) ⟨(f,H1),by omega,h1,hO1,rfl⟩ ⟨rfl,rfl,rfl,rfl⟩ (List.Sublist.refl _) ?_
    rintro ⟨⟨j,H⟩,hj0,hj1,hO,hj2⟩ ih
    simp only at ih hj0 hj1 hO hj2 ⊢
    repeat first|(with_reducible first|refine za ?_|refine zb ?_|refine zc ?_)|refine ym zr ?_|refine yn 1 zr ?_
    refine W.condP rfl ?_ ?_<;>intro hlt
    · obtain ⟨jn,o,cs,ha,hV,hpt⟩:=codeAt_in ht (i:=j) (by omega) (by omega)
      have e1:IntKind.i64.wrap (j+1)=j+1:=w64 (by omega) (by omega)
      have hst:=standAll_at _ f j hall hj0 (by omega)
      repeat first|refine W.ia tblOk rfl rfl rfl rfl rfl rfl ha (by omega) (by omega) ?_|refine W.ldV tblOk rfl rfl rfl hV hpt ?_|(with_reducible first|refine za ?_|refine zb ?_)|refine ym zr ?_|refine yn 2 zr ?_|(with_reducible first|refine zd ?_|refine ze ?_)
      refine W.callF rfl rfl rfl rfl (go1_c hg hc hm _ hO (x:=codeAt t j) (by omega) (by omega) (fun hk=>by have:=stands_to hst hk;omega)) (by decide +kernel) ?_ ?_<;>intro hm_
      · obtain ⟨H2,hH2⟩:=Option.isSome_iff_exists.1 hm_
        have hO2:=hO.go hH2
        rw [hH2]
        simp only [Option.getD_some]
        repeat first|(with_reducible first|refine zb ?_|refine zc ?_)|refine ym zr ?_|with_reducible refine zf ?_
        rw [e1]
        have h9:=ih ⟨(j+1,H2),by show f≤j+1;omega,by show j+1≤z;omega,hO2,by
          rw [hj2,show (z-j).toNat=(z-(j+1)).toNat+1 by omega,runS,hH2];rfl⟩ (by show (z-(j+1)).toNat<(z-j).toNat;omega)
        refine W.weak _ _ ?_ ?_ h9
        · exact ⟨rfl,rfl,rfl,rfl⟩
        · exact List.Sublist.refl _
      · rw [hS,hj2,show (z-j).toNat=(z-(j+1)).toNat+1 by omega,runS,Option.not_isSome_iff_eq_none.1 hm_];rfl
    · have hS:spanS t f z=if hAt H z=2 then none else some 192:=by rw [hS,hj2,show (z-j).toNat=0 by omega];rfl
      have hl:=hload hO (a:=z) (by omega) (by omega)
      clear ih
      repeat' first|refine W.iaA tblOk rfl rfl rfl rfl rfl rfl (by omega) (by omega) ?_|refine W.ldO tblOk 0 rfl rfl rfl hl rfl rfl ?_|(refine W.callM rfl rfl rfl rfl (must_c hm _ _) (by decide +kernel) ?_ ?_<;>intro hm_<;>(try simp only [decide_eq_true_eq,decide_eq_false_iff_not,Bool.true_eq_false,Bool.false_eq_true] at hm_))|with_reducible refine zc ?_|refine ym zr ?_|refine yn 1 zr ?_|(with_reducible first|refine zg ?_|refine zh ?_|refine zi ?_)|refine zw (by decide +kernel) ?_|refine W.doneN zr ?_
      · rw [hS,if_pos hm_];rfl
      · rw [hS,if_neg hm_]
end Go.Proofs.YtoegffiapnnkiaaGreat.Abs
