/- Parts of one proof. No condition but those that each theorem names. -/
import Derived.Test.YtoegffiapnnkiaaGreatPE05
import Derived.Test.YtoegffiapnnkiaaGreatPE23
namespace Go.Proofs.YtoegffiapnnkiaaGreat.Abs
open Go
set_option linter.unusedVariables false
set_option linter.unusedSimpArgs false
set_option maxRecDepth 100000
set_option maxHeartbeats 4000000
attribute [local irreducible] W Cl Bd
variable {g:Cg} {V:K→Option (List AV)}
theorem weigh2_c (hp:Plain g 58=true) {t:Table} (ht:t.Ok V) (hr:t.Room) :
    Cl Tryz.prog g V 58 [t.v] [] fun o _=>∃n:Int,o=.ret (.int .i64 n)∧(t.regs.l.length:Int)≤n:=by
  refine Cl.enter hp Tryz.func58 rfl ?_
  have hlen:=ht.states.1
  unfold Len at hlen
  have r1:=hr.name.1
  have r2:=hr.regs
  have r3:=hr.consts
  have r4:=hr.code
  have w0:IntKind.i64.wrap (IntKind.i64.wrap (IntKind.i64.wrap ((t.name.length:Int)+(t.regs.l.length:Int))+(t.consts.l.length:Int))+(t.code.l.length:Int))=(t.name.length:Int)+(t.regs.l.length:Int)+(t.consts.l.length:Int)+(t.code.l.length:Int):=by
    rw [w64 (n:=(t.name.length:Int)+(t.regs.l.length:Int)) (by omega) (by omega),w64 (n:=(t.name.length:Int)+(t.regs.l.length:Int)+(t.consts.l.length:Int)) (by omega) (by omega),w64 (by omega) (by omega)]
  repeat first|(with_reducible first|refine za ?_|refine zb ?_|refine zc ?_)|refine ym zr ?_|refine yn 0 zr ?_|(refine yo zr ?_;intro _)|with_reducible refine ze ?_
  rw [w0]
  refine W.loopR (α:={ q:Nat×Int // q.1≤t.states.l.length∧(t.regs.l.length:Int)≤q.2∧q.2≤1152921504606846976 }) (fun q=>t.states.l.length-q.1.1) (fun q=>[(1,_),(3,.int .i64 q.1.2),(4,.int .i64 (q.1.1:Int))]) (fun _=>_) ⟨(0,(t.name.length:Int)+(t.regs.l.length:Int)+(t.consts.l.length:Int)+(t.code.l.length:Int)),by simp,by show _≤_;simp only;omega,by show _≤_;simp only;omega⟩ ⟨rfl,rfl,rfl⟩ (List.Sublist.refl _) ?_
  rintro ⟨⟨i,m⟩,hi,hm0,hm1⟩ ih
  simp only at ih hi hm0 hm1 ⊢
  repeat' first|(with_reducible first|refine za ?_|refine zb ?_|refine zc ?_)|refine ym zr ?_|refine yn 0 zr ?_|(with_reducible first|refine zd ?_|refine ze ?_|refine zg ?_|refine zh ?_|refine zi ?_|refine zj ?_)|refine zx zr zr zr ?_|(refine W.condP zr ?_ ?_<;>intro _)|refine W.condF zr ?_|(refine W.gs zr zr zr zr ?_ ?_<;>intro _)|refine W.done zr ?_
  all_goals first
    | exact ⟨m,rfl,hm0⟩
    | skip
  have hlt:i<t.states.l.length:=by omega
  have hrw:=hr.rows _ (List.getElem_mem hlt)
  have wm:IntKind.i64.wrap (m+1)=m+1:=w64 (by omega) (by omega)
  rw [wm]
  obtain ⟨jn,o,cs,ha,hV,hpt⟩:=Sl.In.get ht.states.2.1 hlt
  have hl:=ht.states.2.2 _ (List.getElem_mem hlt)
  generalize t.states.l[i]=l at hpt hl hrw
  have hll:=hl.1
  unfold Len at hll
  refine W.loopR (α:={ q:Nat×Int // q.1≤l.l.length∧(t.regs.l.length:Int)≤q.2∧q.2≤1152921504606846976 }) (fun q=>l.l.length-q.1.1) (fun q=>[(1,_),(3,.int .i64 q.1.2),(4,.int .i64 (i:Int)),(5,.int .i64 (q.1.1:Int))]) (fun _=>_) ⟨(0,m+1),by simp,by show _≤_;simp only;omega,by show _≤_;simp only;omega⟩ ⟨rfl,rfl,rfl,rfl⟩ (List.Sublist.refl _) ?_
  rintro ⟨⟨k,m2⟩,hk,hk0,hk1⟩ ih2
  simp only at ih2 hk hk0 hk1 ⊢
  have hnext:=ih ⟨(i+1,m2),by show i+1≤_;omega,hk0,hk1⟩ (by show t.states.l.length-(i+1)<t.states.l.length-i;omega)
  by_cases hlt2:k<l.l.length
  · obtain ⟨jn2,o2,cs2,ha2,hV2,hpt2⟩:=Sl.In.get hl.2.1 hlt2
    have hg2:=hrw _ (List.getElem_mem hlt2)
    repeat' first|refine W.ia tblOk rfl rfl rfl rfl rfl rfl ha (by omega) (by omega) ?_|refine W.ldV tblOk rfl rfl rfl hV hpt ?_|refine W.ia tblOk rfl rfl rfl rfl rfl rfl ha2 (by omega) (by omega) ?_|refine W.ldV tblOk rfl rfl rfl hV2 (part_field hpt2 (i:=4) rfl) ?_|(with_reducible first|refine za ?_|refine zb ?_|refine zc ?_)|refine ym zr ?_|refine yn 0 zr ?_|(with_reducible first|refine zd ?_|refine ze ?_|refine zf ?_|refine zg ?_|refine zh ?_|refine zi ?_)|refine zx zr zr zr ?_|(refine W.condP zr ?_ ?_<;>intro _)|refine W.condF zr ?_|(refine W.gs zr zr zr zr ?_ ?_<;>intro _)
    all_goals first
      | (rw [wN (by omega)];refine W.weak _ _ ?_ ?_ (ih2 ⟨(k+1,IntKind.i64.wrap (IntKind.i64.wrap (m2+1)+((l.l[k].rows.l.length:Nat):Int))),by show k+1≤_;omega,by show _≤IntKind.i64.wrap (IntKind.i64.wrap (m2+1)+_);rw [w64 (n:=m2+1) (by omega) (by omega),w64 (by omega) (by omega)];omega,by show IntKind.i64.wrap (IntKind.i64.wrap (m2+1)+_)≤_;rw [w64 (n:=m2+1) (by omega) (by omega),w64 (by omega) (by omega)];omega⟩ (by show l.l.length-(k+1)<l.l.length-k;omega));· exact ⟨rfl,rfl,rfl,rfl⟩
         exact List.Sublist.refl _)
      | (rw [wN (by omega)];refine W.weak _ _ ?_ ?_ hnext;· exact ⟨rfl,rfl,rfl⟩
         exact List.Sublist.refl _)
      | (exfalso;omega)
      | trace_state
  · skip
    repeat' first|refine W.ia tblOk rfl rfl rfl rfl rfl rfl ha (by omega) (by omega) ?_|refine W.ldV tblOk rfl rfl rfl hV hpt ?_|(with_reducible first|refine za ?_|refine zb ?_|refine zc ?_)|refine ym zr ?_|refine yn 0 zr ?_|(with_reducible first|refine zd ?_|refine ze ?_|refine zf ?_|refine zg ?_|refine zh ?_|refine zi ?_)|refine zx zr zr zr ?_|(refine W.condP zr ?_ ?_<;>intro _)|refine W.condF zr ?_|(refine W.gs zr zr zr zr ?_ ?_<;>intro _)
    all_goals first
      | (rw [wN (by omega)];refine W.weak _ _ ?_ ?_ hnext;· exact ⟨rfl,rfl,rfl⟩
         exact List.Sublist.refl _)
      | (exfalso;omega)
      | trace_state
end Go.Proofs.YtoegffiapnnkiaaGreat.Abs
