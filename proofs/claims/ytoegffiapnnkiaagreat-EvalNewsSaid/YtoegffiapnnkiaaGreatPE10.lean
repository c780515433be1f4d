/- Parts of one proof. No condition but those that each theorem names. -/
import Derived.Test.YtoegffiapnnkiaaGreatPE09
namespace Go.Proofs.YtoegffiapnnkiaaGreat.Abs
open Go
set_option linter.unusedVariables false
set_option linter.unusedSimpArgs false
set_option maxRecDepth 100000
set_option maxHeartbeats 4000000
attribute [local irreducible] W Cl Bd
variable {g:Cg} {V:K→Option (List AV)}
theorem cell_in {cs l:List AV} {p n k:Nat} {v:AV} (h:partB cs p (true,n)=some (.agg l)) (hk:l[k]?=some v):getL cs (p+k)=some v:=by
  have h:aggO (subL cs p n)=some (.agg l):=h
  unfold aggO at h
  obtain ⟨r,h1,h2⟩:=optK_some h
  injection h2 with h2;injection h2 with h2;subst h2
  obtain ⟨h3,h4,h5⟩:=subL_eq h1
  have hlt:k<n:=by rw [←h5];exact (List.getElem?_eq_some_iff.1 hk).1
  rw [h3,List.getElem?_take_of_lt hlt,List.getElem?_drop] at hk
  rw [getL_eq];exact hk
noncomputable def orW (m a:Int):Int:=bitI .or .u16 m (IntKind.u16.wrap (1 * 2^(min a.toNat IntKind.u16.bits)))
noncomputable def readsS (c:Int→Instr):Nat→Int→Int→Int→Int×Int
  | 0,_,m,r=>(m,r)
  | k+1,i,m,r=>if 0≤(c i).a∧(c i).a≤15 then (if (c i).k=2∨(c i).k=3 then readsS c k (i+1) (orW m (c i).a) r else if (c i).k=4 then readsS c k (i+1) m (orW r (c i).a) else readsS c k (i+1) m r) else readsS c k (i+1) m r
theorem reads_c (hp:Plain g 111=true) {t:Table} (ht:t.Ok V) {f z:Int} (hf:-9223372036854775808≤f∧f≤9223372036854775807) (hz:-9223372036854775808≤z∧z≤9223372036854775807) :
    Cl Tryz.prog g V 111 [t.v,.agg [.int .i64 f,.int .i64 z]] [] fun o _=>o=.ret (.tup [.int .u16 (readsS (codeAt t) (min z t.code.l.length-max f 0).toNat (max f 0) 0 0).1,.int .u16 (readsS (codeAt t) (min z t.code.l.length-max f 0).toNat (max f 0) 0 0).2]):=by
  have hlen:=ht.code.1
  unfold Len at hlen
  have ef:(if (0:Int)>f then (0:Int) else f)=max f 0:=by split<;>omega
  have ez:(if (t.code.l.length:Int)<z then (t.code.l.length:Int) else z)=min z t.code.l.length:=by split<;>omega
  refine Cl.enter hp Tryz.func111 rfl ?_
  repeat first|(with_reducible first|refine za ?_|refine zb ?_|refine zc ?_)|refine ym zr ?_|refine yn 0 zr ?_|(refine yo zr ?_;intro _)|with_reducible refine ze ?_
  rw [ef]
  refine W.loopR (α:={ p:Int×Int×Int // max f 0≤p.1∧readsS (codeAt t) (min z t.code.l.length-max f 0).toNat (max f 0) 0 0=readsS (codeAt t) (min z t.code.l.length-p.1).toNat p.1 p.2.1 p.2.2 }) (fun p=>(min z t.code.l.length-p.1.1).toNat) (fun p=>[(2,_),(3,_),(8,.int .i64 p.1.1),(6,.int .u16 p.1.2.1),(7,.int .u16 p.1.2.2)]) (fun _=>_) ⟨(max f 0,0,0),by omega,rfl⟩ ⟨rfl,rfl,rfl,rfl,rfl⟩ (List.Sublist.refl _) ?_
  rintro ⟨⟨i,m,r⟩,hi,hinv⟩ ih
  simp only at ih hi hinv ⊢
  repeat first|(with_reducible first|refine za ?_|refine zb ?_|refine zc ?_)|refine ym zr ?_|refine yn 0 zr ?_|refine yn 1 zr ?_
  rw [ez]
  refine W.condP rfl ?_ ?_<;>intro hlt
  · obtain ⟨jn,o,cs,ha,hV,hpt⟩:=codeAt_in ht (i:=i) (by omega) (by omega)
    have e1:IntKind.i64.wrap (i+1)=i+1:=w64 (by omega) (by omega)
    have hs:(min z t.code.l.length-i).toNat=(min z t.code.l.length-(i+1)).toNat+1:=by omega
    rw [hs] at hinv
    repeat' first|refine W.ia tblOk rfl rfl rfl rfl rfl rfl ha (by omega) (by omega) ?_|refine W.ldV tblOk rfl rfl rfl hV hpt ?_|refine W.shl rfl rfl rfl rfl (by omega) ?_|(with_reducible first|refine za ?_|refine zb ?_|refine zc ?_)|refine ym zr ?_|refine yn 0 zr ?_|refine yn 1 zr ?_|(refine yp zr ?_;intro _)|refine yq zr ?_|(with_reducible first|refine zd ?_|refine ze ?_|refine zf ?_|refine zg ?_|refine zh ?_|refine zi ?_)|refine zx zr zr zr ?_|(refine W.condP zr ?_ ?_<;>intro _)|refine W.condT zr ?_|(refine W.gs zr zr zr zr ?_ ?_<;>intro _)
    all_goals rw [e1]
    all_goals first
      | (have h9:=ih ⟨(i+1,m,r),by show max f 0≤i+1;omega,by rw [hinv];simp only [readsS];(repeat' split)<;>first|rfl|omega⟩ (by show (min z t.code.l.length-(i+1)).toNat<(min z t.code.l.length-i).toNat;omega)
         refine W.weak _ _ ?_ ?_ h9
         · exact ⟨rfl,rfl,rfl,rfl,rfl⟩
         · exact List.sublist_cons_self _ _)
      | (have h9:=ih ⟨(i+1,orW m (codeAt t i).a,r),by show max f 0≤i+1;omega,by rw [hinv];simp only [readsS];(repeat' split)<;>first|rfl|omega⟩ (by show (min z t.code.l.length-(i+1)).toNat<(min z t.code.l.length-i).toNat;omega)
         refine W.weak _ _ ?_ ?_ h9
         · exact ⟨rfl,rfl,rfl,rfl,rfl⟩
         · exact List.sublist_cons_self _ _)
      | (have h9:=ih ⟨(i+1,m,orW r (codeAt t i).a),by show max f 0≤i+1;omega,by rw [hinv];simp only [readsS];(repeat' split)<;>first|rfl|omega⟩ (by show (min z t.code.l.length-(i+1)).toNat<(min z t.code.l.length-i).toNat;omega)
         refine W.weak _ _ ?_ ?_ h9
         · exact ⟨rfl,rfl,rfl,rfl,rfl⟩
         · exact List.sublist_cons_self _ _)
      | trace_state
  · rw [show (min z t.code.l.length-i).toNat=0 by omega] at hinv
    repeat' first|(with_reducible first|refine za ?_|refine zb ?_|refine zc ?_)|refine ym zr ?_|(with_reducible first|refine zg ?_|refine zh ?_|refine zi ?_|refine zj ?_)|refine W.done zr ?_
    rw [hinv];rfl
theorem readsR_c (hp:Plain g 84=true) {t:Table} (ht:t.Ok V) {f z:Int} (h0:0≤f) (h2:z≤t.code.l.length) (hz:-9223372036854775808≤z) (hf:f≤9223372036854775807) :
    Cl Tryz.prog g V 84 [t.code.v,.agg [.int .i64 f,.int .i64 z]] [] fun o _=>o=.ret (.tup [.int .u16 (readsS (codeAt t) (z-f).toNat f 0 0).1,.int .u16 (readsS (codeAt t) (z-f).toNat f 0 0).2]):=by
  have hlen:=ht.code.1
  unfold Len at hlen
  refine Cl.enter hp Tryz.func84 rfl ?_
  repeat first|(with_reducible first|refine za ?_|refine zb ?_|refine zc ?_)|refine ym zr ?_|refine yn 0 zr ?_|(refine yo zr ?_;intro _)|with_reducible refine ze ?_
  refine W.loopR (α:={ p:Int×Int×Int // f≤p.1∧readsS (codeAt t) (z-f).toNat f 0 0=readsS (codeAt t) (z-p.1).toNat p.1 p.2.1 p.2.2 }) (fun p=>(z-p.1.1).toNat) (fun p=>[(0,_),(3,_),(8,.int .i64 p.1.1),(6,.int .u16 p.1.2.1),(7,.int .u16 p.1.2.2)]) (fun _=>_) ⟨(f,0,0),by omega,rfl⟩ ⟨rfl,rfl,rfl,rfl,rfl⟩ (List.Sublist.refl _) ?_
  rintro ⟨⟨i,m,r⟩,hi,hinv⟩ ih
  simp only at ih hi hinv ⊢
  repeat first|(with_reducible first|refine za ?_|refine zb ?_|refine zc ?_)|refine ym zr ?_|refine yn 0 zr ?_
  refine W.condP rfl ?_ ?_<;>intro hlt
  · obtain ⟨jn,o,cs,ha,hV,hpt⟩:=codeAt_in ht (i:=i) (by omega) (by omega)
    have hA:partG tbl 3 cs (o+i.toNat * 2+1)=some (.int .i64 (codeAt t i).a):=cell_in (k:=1) hpt rfl
    have hK:partG tbl 84 cs (o+i.toNat * 2+0)=some (.int .u8 (codeAt t i).k):=cell_in (k:=0) hpt rfl
    have e1:IntKind.i64.wrap (i+1)=i+1:=w64 (by omega) (by omega)
    have hs:(z-i).toNat=(z-(i+1)).toNat+1:=by omega
    rw [hs] at hinv
    repeat' first|refine W.ia tblOk rfl rfl rfl rfl rfl rfl ha (by omega) (by omega) ?_|refine W.ldV tblOk rfl rfl rfl hV hA ?_|refine W.ldV tblOk rfl rfl rfl hV hK ?_|refine W.shl rfl rfl rfl rfl (by omega) ?_|(with_reducible first|refine za ?_|refine zb ?_|refine zc ?_)|refine ym zr ?_|(with_reducible first|refine zd ?_|refine ze ?_|refine zf ?_)|refine zx zr zr zr ?_|(refine W.condP zr ?_ ?_<;>intro _)|refine W.condF zr ?_|(refine W.gs zr zr zr zr ?_ ?_<;>intro _)
    all_goals rw [e1]
    all_goals first
      | (have h9:=ih ⟨(i+1,m,r),by show f≤i+1;omega,by rw [hinv];simp only [readsS];(repeat' split)<;>first|rfl|omega⟩ (by show (z-(i+1)).toNat<(z-i).toNat;omega)
         refine W.weak _ _ ?_ ?_ h9
         · exact ⟨rfl,rfl,rfl,rfl,rfl⟩
         · exact List.Sublist.refl _)
      | (have h9:=ih ⟨(i+1,orW m (codeAt t i).a,r),by show f≤i+1;omega,by rw [hinv];simp only [readsS];(repeat' split)<;>first|rfl|omega⟩ (by show (z-(i+1)).toNat<(z-i).toNat;omega)
         refine W.weak _ _ ?_ ?_ h9
         · exact ⟨rfl,rfl,rfl,rfl,rfl⟩
         · exact List.Sublist.refl _)
      | (have h9:=ih ⟨(i+1,m,orW r (codeAt t i).a),by show f≤i+1;omega,by rw [hinv];simp only [readsS];(repeat' split)<;>first|rfl|omega⟩ (by show (z-(i+1)).toNat<(z-i).toNat;omega)
         refine W.weak _ _ ?_ ?_ h9
         · exact ⟨rfl,rfl,rfl,rfl,rfl⟩
         · exact List.Sublist.refl _)
      | trace_state
  · rw [show (z-i).toNat=0 by omega] at hinv
    repeat' first|(with_reducible first|refine za ?_|refine zb ?_|refine zc ?_)|refine ym zr ?_|(with_reducible first|refine zg ?_|refine zh ?_|refine zi ?_|refine zj ?_)|refine W.done zr ?_
    rw [hinv];rfl
end Go.Proofs.YtoegffiapnnkiaaGreat.Abs
