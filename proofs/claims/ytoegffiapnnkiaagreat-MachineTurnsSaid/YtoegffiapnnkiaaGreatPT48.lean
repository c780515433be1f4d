/- Parts of one proof. No condition but those that each theorem names. -/
import Derived.Test.YtoegffiapnnkiaaGreatPT02
import Derived.Test.YtoegffiapnnkiaaGreatPT05
import Derived.Test.YtoegffiapnnkiaaGreatPT06
import Derived.Test.YtoegffiapnnkiaaGreatPT22
import Derived.Test.YtoegffiapnnkiaaGreatPT24
import Derived.Test.YtoegffiapnnkiaaGreatPT26
import Derived.Test.YtoegffiapnnkiaaGreatPT37
import Derived.Test.YtoegffiapnnkiaaGreatPT46
import Derived.Test.YtoegffiapnnkiaaGreatPT47
namespace Go.Proofs.YtoegffiapnnkiaaGreat.Abs
open Go
set_option linter.unusedVariables false
set_option linter.unusedSimpArgs false
set_option maxRecDepth 100000
set_option maxHeartbeats 4000000
attribute [local irreducible] W Cl Bd
variable {g:Cg} {V:K→Option (List AV)}
theorem weigh2_c (hp:Plain g 58=true) {t:Table} (ht:t.Ok V) (hr:t.Room) :
    Cl Tryz.prog g V 58 [t.v] [] fun o _=>∃n:Int,o=.ret (.int .i64 n)∧(t.regs.l.length:Int)≤n:=by
  refine Cl.enter hp Tryz.func58 rfl ?_
  have hlen:=ht.states.1
  unfold Len at hlen
  have r1:=hr.name.1
  have r2:=hr.regs
  have r3:=hr.consts
  have r4:=hr.code
  have w0:IntKind.i64.wrap (IntKind.i64.wrap (IntKind.i64.wrap ((t.name.length:Int)+(t.regs.l.length:Int))+(t.consts.l.length:Int))+(t.code.l.length:Int))=(t.name.length:Int)+(t.regs.l.length:Int)+(t.consts.l.length:Int)+(t.code.l.length:Int):=by
    rw [w64 (n:=(t.name.length:Int)+(t.regs.l.length:Int)) (by omega) (by omega),w64 (n:=(t.name.length:Int)+(t.regs.l.length:Int)+(t.consts.l.length:Int)) (by omega) (by omega),w64 (by omega) (by omega)]
  repeat first|(with_reducible first|refine za ?_|refine zb ?_|refine zc ?_)|refine ym zr ?_|refine yn 0 zr ?_|(refine yo zr ?_;intro _)|with_reducible refine ze ?_
  rw [w0]
  refine W.loopR (α:={ q:Nat×Int // q.1≤t.states.l.length∧(t.regs.l.length:Int)≤q.2∧q.2≤1152921504606846976 }) (fun q=>t.states.l.length-q.1.1) (fun q=>[(1,_),(3,.int .i64 q.1.2),(4,.int .i64 (q.1.1:Int))]) (fun _=>_) ⟨(0,(t.name.length:Int)+(t.regs.l.length:Int)+(t.consts.l.length:Int)+(t.code.l.length:Int)),by simp,by show _≤_;simp only;omega,by show _≤_;simp only;omega⟩ ⟨rfl,rfl,rfl⟩ (List.Sublist.refl _) ?_
  rintro ⟨⟨i,m⟩,hi,hm0,hm1⟩ ih
  simp only at ih hi hm0 hm1 ⊢
  repeat' first|(with_reducible first|refine za ?_|refine zb ?_|refine zc ?_)|refine ym zr ?_|refine yn 0 zr ?_|(with_reducible first|refine zd ?_|refine ze ?_|refine zg ?_|refine zh ?_|refine zi ?_|refine zj ?_)|refine zx zr zr zr ?_|(refine W.condP zr ?_ ?_<;>intro _)|refine W.condF zr ?_|(refine W.gs zr zr zr zr ?_ ?_<;>intro _)|refine W.done zr ?_
  all_goals first
    | exact ⟨m,rfl,hm0⟩
    | skip
  have hlt:i<t.states.l.length:=by omega
  have hrw:=hr.rows _ (List.getElem_mem hlt)
  have wm:IntKind.i64.wrap (m+1)=m+1:=w64 (by omega) (by omega)
  rw [wm]
  obtain ⟨jn,o,cs,ha,hV,hpt⟩:=Sl.In.get ht.states.2.1 hlt
  have hl:=ht.states.2.2 _ (List.getElem_mem hlt)
  generalize t.states.l[i]=l at hpt hl hrw
  have hll:=hl.1
  unfold Len at hll
  refine W.loopR (α:={ q:Nat×Int // q.1≤l.l.length∧(t.regs.l.length:Int)≤q.2∧q.2≤1152921504606846976 }) (fun q=>l.l.length-q.1.1) (fun q=>[(1,_),(3,.int .i64 q.1.2),(4,.int .i64 (i:Int)),(5,.int .i64 (q.1.1:Int))]) (fun _=>_) ⟨(0,m+1),by simp,by show _≤_;simp only;omega,by show _≤_;simp only;omega⟩ ⟨rfl,rfl,rfl,rfl⟩ (List.Sublist.refl _) ?_
  rintro ⟨⟨k,m2⟩,hk,hk0,hk1⟩ ih2
  simp only at ih2 hk hk0 hk1 ⊢
  have hnext:=ih ⟨(i+1,m2),by show i+1≤_;omega,hk0,hk1⟩ (by show t.states.l.length-(i+1)<t.states.l.length-i;omega)
  by_cases hlt2:k<l.l.length
  · obtain ⟨jn2,o2,cs2,ha2,hV2,hpt2⟩:=Sl.In.get hl.2.1 hlt2
    have hg2:=hrw _ (List.getElem_mem hlt2)
    repeat' first|refine W.ia tblOk rfl rfl rfl rfl rfl rfl ha (by omega) (by omega) ?_|refine W.ldV tblOk rfl rfl rfl hV hpt ?_|refine W.ia tblOk rfl rfl rfl rfl rfl rfl ha2 (by omega) (by omega) ?_|refine W.ldV tblOk rfl rfl rfl hV2 (part_field hpt2 (i:=4) rfl) ?_|(with_reducible first|refine za ?_|refine zb ?_|refine zc ?_)|refine ym zr ?_|refine yn 0 zr ?_|(with_reducible first|refine zd ?_|refine ze ?_|refine zf ?_|refine zg ?_|refine zh ?_|refine zi ?_)|refine zx zr zr zr ?_|(refine W.condP zr ?_ ?_<;>intro _)|refine W.condF zr ?_|(refine W.gs zr zr zr zr ?_ ?_<;>intro _)
    all_goals first
      | (rw [wN (by omega)];refine W.weak _ _ ?_ ?_ (ih2 ⟨(k+1,IntKind.i64.wrap (IntKind.i64.wrap (m2+1)+((l.l[k].rows.l.length:Nat):Int))),by show k+1≤_;omega,by show _≤IntKind.i64.wrap (IntKind.i64.wrap (m2+1)+_);rw [w64 (n:=m2+1) (by omega) (by omega),w64 (by omega) (by omega)];omega,by show IntKind.i64.wrap (IntKind.i64.wrap (m2+1)+_)≤_;rw [w64 (n:=m2+1) (by omega) (by omega),w64 (by omega) (by omega)];omega⟩ (by show l.l.length-(k+1)<l.l.length-k;omega));· exact ⟨rfl,rfl,rfl,rfl⟩
         exact List.Sublist.refl _)
      | (rw [wN (by omega)];refine W.weak _ _ ?_ ?_ hnext;· exact ⟨rfl,rfl,rfl⟩
         exact List.Sublist.refl _)
      | (exfalso;omega)
      | trace_state
  · skip
    repeat' first|refine W.ia tblOk rfl rfl rfl rfl rfl rfl ha (by omega) (by omega) ?_|refine W.ldV tblOk rfl rfl rfl hV hpt ?_|(with_reducible first|refine za ?_|refine zb ?_|refine zc ?_)|refine ym zr ?_|refine yn 0 zr ?_|(with_reducible first|refine zd ?_|refine ze ?_|refine zf ?_|refine zg ?_|refine zh ?_|refine zi ?_)|refine zx zr zr zr ?_|(refine W.condP zr ?_ ?_<;>intro _)|refine W.condF zr ?_|(refine W.gs zr zr zr zr ?_ ?_<;>intro _)
    all_goals first
      | (rw [wN (by omega)];refine W.weak _ _ ?_ ?_ hnext;· exact ⟨rfl,rfl,rfl⟩
         exact List.Sublist.refl _)
      | (exfalso;omega)
      | trace_state
end Go.Proofs.YtoegffiapnnkiaaGreat.Abs
namespace Go.Proofs.YtoegffiapnnkiaaGreat.Abs
open Go Go.RowKit
set_option maxRecDepth 100000
noncomputable def srcM:Memo:=⟨106,[.str [115,116,114,97,116,101,103,121,32,115,32,123,32,114,101,103,32,110,32,105,110,116,32,61,32,45,50,59,32,115,108,111,116,32,111,59,32,115,116,97,116,101,32,97,32,123,32,119,104,101,110,32,104,97,115,32,98,105,100,32,38,38,32,110,32,60,32,51,32,100,111,32,115,117,98,109,105,116,32,98,117,121,32,111,102,32,50,113,32,97,116,32,98,105,100,32,108,105,109,105,116,32,97,115,32,111,44,32,115,101,116,32,110,32,61,32,110,32,43,32,49,44,32,103,111,116,111,32,98,59,32,125,32,115,116,97,116,101,32,98,32,123,125,32,125]],.o .z,.tup [.agg [.str [115],.slice (some ((.o (.i (.i (.i (.o (.i (.o (.i (.i (.o .z)))))))))),0)) 1 (.own 0),.int .i64 1,.slice (some ((.i (.i (.o (.i (.i (.i (.i (.i (.i (.o .z)))))))))),0)) 3 (.own 0),.slice (some ((.i (.o (.o (.o (.i (.i (.o (.o (.o (.i .z)))))))))),0)) 11 (.own 0),.slice (some ((.i (.i (.i (.o (.o (.o (.i (.o (.o (.i .z)))))))))),0)) 2 (.own 0)],.agg [.int .i64 11,.int .i64 1],.int .i64 0,.int .i64 0],
  [((.o (.i (.i (.i (.o (.i (.o (.i (.i (.o .z)))))))))),.cells [.int .i64 (-2)] 2 1 false),
   ((.i (.i (.o (.i (.i (.i (.i (.i (.i (.o .z)))))))))),.cells [.int .i64 3,.int .i64 1,.int .i64 2] 2 1 false),
   ((.i (.o (.o (.o (.i (.i (.o (.o (.o (.i .z)))))))))),.cells [.int .u8 3,.int .i64 1,.int .u8 6,.int .i64 5,.int .u8 4,.int .i64 0,.int .u8 1,.int .i64 0,.int .u8 5,.int .i64 13,.int .u8 1,.int .i64 1,.int .u8 1,.int .i64 2,.int .u8 2,.int .i64 1,.int .u8 4,.int .i64 0,.int .u8 1,.int .i64 1,.int .u8 5,.int .i64 6] 86 2 false),
   ((.i (.o (.o (.o (.o (.o (.i (.o (.o (.i .z)))))))))),.cells [.int .u8 1,.int .u8 1,.int .i64 1,.int .i64 5,.int .i64 6,.int .i64 6,.int .i64 7,.int .i64 7,.int .i64 8,.int .i64 0,.int .i64 0,.int .u8 4,.int .u8 0,.int .i64 0,.int .i64 0,.int .i64 0,.int .i64 0,.int .i64 0,.int .i64 0,.int .i64 0,.int .i64 8,.int .i64 11,.int .u8 5,.int .u8 0,.int .i64 1,.int .i64 0,.int .i64 0,.int .i64 0,.int .i64 0,.int .i64 0,.int .i64 0,.int .i64 0,.int .i64 0] 148 11 false),
   ((.i (.i (.o (.o (.o (.o (.i (.o (.o (.i .z)))))))))),.cells [.int .i64 0,.int .i64 5,.int .u16 2,.int .u16 1,.slice (some ((.i (.o (.o (.o (.o (.o (.i (.o (.o (.i .z)))))))))),0)) 3 (.own 0)] 132 5 false),
   ((.i (.i (.i (.o (.o (.o (.i (.o (.o (.i .z)))))))))),.cells [.slice (some ((.i (.i (.o (.o (.o (.o (.i (.o (.o (.i .z)))))))))),0)) 1 (.own 0),.slice none 0 (.ex 0)] 129 1 false)],(.i (.o (.i (.i (.o (.i (.i (.i (.i (.i .z)))))))))),false⟩
theorem srcM_ok:memoOk Tryz.prog ⟨107,271,[]⟩ 3000 srcM=true:=by decide +kernel
theorem srcMs:∀m∈[srcM],MemoS Tryz.prog m:=fun m hm=>by
  rw [List.mem_singleton] at hm
  subst hm
  exact memo_of (callsS [] (fun _ h=>by cases h) 3000) srcM_ok
end Go.Proofs.YtoegffiapnnkiaaGreat.Abs
namespace Go.Proofs.YtoegffiapnnkiaaGreat.Abs
open Go Go.RowKit
set_option maxRecDepth 100000
theorem awake20_runs:isTrue_ (acall Tryz.prog ⟨107,271,[srcM]⟩ 3000 12 [] ⟨.e,.z⟩)=true:=by decide +kernel
theorem awake20.calls (w:World):Calls Tryz.prog 12 #[] w fun e w'=>e=.returned (.bool true)∧Below w.heap.size w w':=true_call srcMs awake20_runs w
end Go.Proofs.YtoegffiapnnkiaaGreat.Abs
namespace Go.Proofs.YtoegffiapnnkiaaGreat.Abs
open Go Go.RowKit
set_option linter.unusedVariables false
set_option linter.unusedSimpArgs false
set_option maxRecDepth 100000
theorem rowR_c {g:Cg} {V:K→Option (List AV)} (hp:Plain g 164=true) (hi:Plain g 189=true) (hh:Plain g 129=true) {t:Table} (ht:t.Ok V) (x:Row) (n:Int) :
    Cl Tryz.prog g V 164 [t.v,x.v,.int .i64 n] [] fun o _=>o=.ret (placeI (RowAt t x n)):=by
  by_cases h1:x.k=1
  · exact rowR_1 hp hi hh ht x n (by by_cases h2:x.o=2;exact .inl ⟨h1,h2⟩;exact .inr ⟨h1,h2⟩)
  · exact rowR_2 hp hi hh ht x n (by omega)
noncomputable def G20:Cg:=⟨107,271,[⟨12,[],.z,.bool true,[],.z,true⟩]⟩
theorem G20_ok:∀m∈G20.ms,MemoS Tryz.prog m:=by
  intro m hm
  have hm:m∈[(⟨12,[],.z,.bool true,[],.z,true⟩:Memo)]:=hm
  rw [List.mem_singleton] at hm
  subst hm
  exact memo_pure ⟨_,Tryz.func12,rfl⟩ (fun _=>rfl) awake20.calls
theorem conc_one {μ:K→Option Loc} {v:AV} {c:Value} (h:concL μ [v]=some [c]):conc μ v=some c:=by
  simp only [concL] at h
  cases e:conc μ v with
  | none=>rw [e] at h;cases h
  | some x=>rw [e] at h;injection h with h;injection h with h;rw [h]
theorem conc_nil {μ:K→Option Loc}:concL μ []=some []:=rfl
theorem conc_cons {μ:K→Option Loc} {v:AV} {c:Value} {l:List AV} {cs:List Value} (h:conc μ v=some c) (k:concL μ l=some cs):concL μ (v::l)=some (c::cs):=by
  simp only [concL,h,k];rfl
variable {V:K→Option (List AV)} {t:Table}
theorem awakeC:Cl Tryz.prog G20 V 12 [] [] fun o _=>o=.ret (.bool true):=Cl.memo rfl rfl rfl rfl rfl
theorem nameC (V:K→Option (List AV)) (hr:t.Room):Cl Tryz.prog G20 V 142 [.str t.name] [] fun o _=>o=.ret (.bool (NameS t.name)) :=
  name_c rfl rfl rfl rfl rfl rfl rfl rfl rfl rfl hr.name.2 (by have:=hr.name.1;omega)
theorem nameRC (V:K→Option (List AV)) (hr:t.Room):Cl Tryz.prog G20 V 125 [.str t.name] [] fun o _=>o=.ret (.bool (NameS t.name)) :=
  nameR_c rfl rfl rfl rfl rfl rfl hr.name.2 (by have:=hr.name.1;omega)
theorem checkC (ht:t.Ok V) (hr:t.Room):Cl Tryz.prog G20 V 59 [t.v] [] fun o _=>o=.ret (.int .i64 ((checkS t).getD 0)) :=
  check_c ⟨rfl,rfl,rfl,rfl,rfl,rfl,rfl,rfl,rfl,rfl,rfl⟩ rfl rfl rfl rfl rfl ht fun V=>nameC V hr
theorem spanRC (ht:t.Ok V) (h3:t.code.l.length≤4096) {f z:Int} (h0:0≤f) (h1:f<z) (h2:z≤t.code.l.length):Cl Tryz.prog G20 V 83 [t.v,.agg [.int .i64 f,.int .i64 z]] [] fun o _=>o=.ret (.int .i64 ((spanS t f z).getD 0)) :=
  spanR_c rfl rfl rfl rfl rfl ht h0 h1 h2 h3
theorem checkRC (ht:t.Ok V) (hr:t.Room):Cl Tryz.prog G20 V 29 [t.v] [] fun o _=>o=.ret (.int .i64 ((checkS t).getD 0)) :=
  checkR_c rfl rfl ht (formedR_c rfl ht (nameRC V hr) fun x n hx=>guardR_c rfl hx (fun r n=>rowR_c rfl rfl rfl ht r n) n) (fun h3 f z h0 h1 h2=>spanRC ht h3 h0 h1 h2)
    (fun h3 x hx=>rowsR_c rfl rfl x fun y hy=>by have:=hx y hy;exact spanRC ht h3 this.1 this.2.1 this.2.2)
theorem far20_c (ht:t.Ok V) (hr:t.Room) {regs:Sl Int} (s:Int):Cl Tryz.prog G20 V 13 [t.v,.agg [.int .i64 s,regs.v]] [] fun o _=>∃v,o=.ret v∧∃b:Bool,v=.bool b∧(b=false→t.regs.l.length≤65536∧regs.l.length≤65536):=by
  have hw:=weigh2_c (g:=G20) (V:=V) rfl ht hr
  refine Cl.enter rfl Tryz.func13 rfl ?_
  repeat first|(with_reducible first|refine za ?_|refine zb ?_|refine zc ?_)|refine ym zr ?_|refine yn 1 zr ?_|(refine yo zr ?_;intro _)
  refine W.callR (Δ:=[]) (R:=[_,_]) rfl rfl rfl rfl hw (by rintro v Δ' ⟨i,h,-⟩;cases h) ?_
  rintro v_ Δ_ ⟨i_,hv_,hi_⟩
  injection hv_ with hv_;subst hv_
  refine W.perm (([_,_]:Dm)++Δ_) List.perm_append_comm ?_
  repeat' first|with_reducible refine zc ?_|refine ym zr ?_|refine yn 0 zr ?_|with_reducible refine zj ?_|refine zx zr zr zr ?_|(refine W.gs zr zr zr zr ?_ ?_<;>intro _)|refine W.done zr ?_
  · exact ⟨_,rfl,true,rfl,fun h=>by cases h⟩
  · refine ⟨_,rfl,_,rfl,fun h=>?_⟩
    have h:=of_decide_eq_false h
    omega
theorem calls20:∀k,CallS Tryz.prog (callA Tryz.prog G20 (exec Tryz.prog G20 k)):=fun k=>callsS _ G20_ok k
end Go.Proofs.YtoegffiapnnkiaaGreat.Abs
namespace Go.Proofs.YtoegffiapnnkiaaGreat.Abs
open Go
set_option linter.unusedVariables false
set_option linter.unusedSimpArgs false
set_option maxRecDepth 100000
set_option maxHeartbeats 4000000
theorem ask20:AskG G20:=⟨rfl,rfl,rfl,rfl,rfl,rfl,rfl,rfl,rfl⟩
theorem stk20:StkG G20:=⟨rfl,rfl,rfl⟩
theorem num20:NumG G20:=⟨rfl,rfl,rfl,rfl,rfl,rfl,rfl,rfl,rfl,rfl,rfl,rfl,rfl,rfl,rfl,rfl,rfl,rfl,rfl⟩
theorem opr20:OprG G20:=⟨num20,rfl,rfl,rfl,rfl,rfl,rfl,rfl,rfl,rfl,rfl,rfl,rfl⟩
end Go.Proofs.YtoegffiapnnkiaaGreat.Abs
