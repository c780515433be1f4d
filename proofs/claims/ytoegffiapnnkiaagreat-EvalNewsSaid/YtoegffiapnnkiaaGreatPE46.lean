/- Parts of one proof. No condition but those that each theorem names. -/
import Derived.Test.YtoegffiapnnkiaaGreatPE26
import Derived.Test.YtoegffiapnnkiaaGreatPE44
import Derived.Test.YtoegffiapnnkiaaGreatPE45
namespace Go.Proofs.YtoegffiapnnkiaaGreat.Abs
open Go Go.RowKit
set_option linter.unusedVariables false
set_option linter.unusedSimpArgs false
set_option maxRecDepth 100000
set_option maxHeartbeats 4000000
noncomputable def G21:Cg:=⟨107,271,[⟨32,[],.z,.bool true,[],.z,true⟩]⟩
theorem G21_ok:∀m∈G21.ms,MemoS Tryz.prog m:=by
  intro m hm
  have hm:m∈[(⟨32,[],.z,.bool true,[],.z,true⟩:Memo)]:=hm
  rw [List.mem_singleton] at hm
  subst hm
  exact memo_pure ⟨_,Tryz.func32,rfl⟩ (fun _=>rfl) awake21.calls
theorem calls21:∀k,CallS Tryz.prog (callA Tryz.prog G21 (exec Tryz.prog G21 k)):=fun k=>callsS _ G21_ok k
theorem ask21:AskG G21:=⟨rfl,rfl,rfl,rfl,rfl,rfl,rfl,rfl,rfl⟩
theorem ev21:EvG G21:=⟨rfl,rfl,rfl,rfl,rfl,rfl⟩
theorem look21:LookG G21:=⟨ev21,rfl,rfl,rfl⟩
attribute [local irreducible] W Cl Bd
variable {V:K→Option (List AV)} {t:Table}
theorem awakeC21:Cl Tryz.prog G21 V 32 [] [] fun o _=>o=.ret (.bool true):=Cl.memo rfl rfl rfl rfl rfl
theorem nameC21 (V:K→Option (List AV)) (hr:t.Room):Cl Tryz.prog G21 V 142 [.str t.name] [] fun o _=>o=.ret (.bool (NameS t.name)) :=
  name_c rfl rfl rfl rfl rfl rfl rfl rfl rfl rfl hr.name.2 (by have:=hr.name.1;omega)
theorem nameRC21 (V:K→Option (List AV)) (hr:t.Room):Cl Tryz.prog G21 V 125 [.str t.name] [] fun o _=>o=.ret (.bool (NameS t.name)) :=
  nameR_c rfl rfl rfl rfl rfl rfl hr.name.2 (by have:=hr.name.1;omega)
theorem checkC21 (ht:t.Ok V) (hr:t.Room):Cl Tryz.prog G21 V 59 [t.v] [] fun o _=>o=.ret (.int .i64 ((checkS t).getD 0)) :=
  check_c ⟨rfl,rfl,rfl,rfl,rfl,rfl,rfl,rfl,rfl,rfl,rfl⟩ rfl rfl rfl rfl rfl ht fun V=>nameC21 V hr
theorem spanRC21 (ht:t.Ok V) (h3:t.code.l.length≤4096) {f z:Int} (h0:0≤f) (h1:f<z) (h2:z≤t.code.l.length):Cl Tryz.prog G21 V 83 [t.v,.agg [.int .i64 f,.int .i64 z]] [] fun o _=>o=.ret (.int .i64 ((spanS t f z).getD 0)) :=
  spanR_c rfl rfl rfl rfl rfl ht h0 h1 h2 h3
theorem checkRC21 (ht:t.Ok V) (hr:t.Room):Cl Tryz.prog G21 V 29 [t.v] [] fun o _=>o=.ret (.int .i64 ((checkS t).getD 0)) :=
  checkR_c rfl rfl ht (formedR_c rfl ht (nameRC21 V hr) fun x n hx=>guardR_c rfl hx (fun r n=>rowR_c rfl rfl rfl ht r n) n) (fun h3 f z h0 h1 h2=>spanRC21 ht h3 h0 h1 h2)
    (fun h3 x hx=>rowsR_c rfl rfl x fun y hy=>by have:=hx y hy;exact spanRC21 ht h3 this.1 this.2.1 this.2.2)
theorem far21_c (ht:t.Ok V) (hr:t.Room):Cl Tryz.prog G21 V 33 [t.v,.slice none 0 (.ex 0)] [] fun o _=>∃v,o=.ret v∧∃b:Bool,v=.bool b∧(b=false→t.regs.l.length≤65536):=by
  have hw:=weigh2_c (g:=G21) (V:=V) rfl ht hr
  refine Cl.enter rfl Tryz.func33 rfl ?_
  repeat first|(with_reducible first|refine za ?_|refine zb ?_|refine zc ?_)|refine ym zr ?_|refine yn 0 zr ?_|refine yn 1 zr ?_|refine yn 2 zr ?_|refine yn 3 zr ?_|(refine yo zr ?_;intro _)|(refine yp zr ?_;intro _)|refine yq zr ?_|refine ys zr ?_|refine yu zr ?_|refine yv zr ?_|(with_reducible first|refine zd ?_|refine ze ?_|refine zf ?_|refine zg ?_|refine zh ?_|refine zi ?_|refine zj ?_|refine zk ?_|refine zl ?_)|refine zz zr ?_|refine zw (by decide +kernel) ?_|refine zx zr zr zr ?_|refine zy zr zr ?_|refine W.condT zr ?_|refine W.condF zr ?_
  refine W.callR (Δ:=[]) (R:=[_]) rfl rfl rfl rfl hw (by rintro v Δ' ⟨i,h,-⟩;cases h) ?_
  rintro v_ Δ_ ⟨i_,hv_,hi_⟩
  injection hv_ with hv_;subst hv_
  refine W.perm (([_]:Dm)++Δ_) List.perm_append_comm ?_
  repeat first|(with_reducible first|refine za ?_|refine zb ?_|refine zc ?_)|refine ym zr ?_|refine yn 0 zr ?_|refine yn 1 zr ?_|refine yn 2 zr ?_|refine yn 3 zr ?_|(refine yo zr ?_;intro _)|(refine yp zr ?_;intro _)|refine yq zr ?_|refine ys zr ?_|refine yu zr ?_|refine yv zr ?_|(with_reducible first|refine zd ?_|refine ze ?_|refine zf ?_|refine zg ?_|refine zh ?_|refine zi ?_|refine zj ?_|refine zk ?_|refine zl ?_)|refine zz zr ?_|refine zw (by decide +kernel) ?_|refine zx zr zr zr ?_|refine zy zr zr ?_|refine W.condT zr ?_|refine W.condF zr ?_
  refine W.loop ?_
  repeat' first|(with_reducible first|refine za ?_|refine zb ?_|refine zc ?_)|refine ym zr ?_|refine yn 0 zr ?_|refine yn 1 zr ?_|refine yn 2 zr ?_|refine yn 3 zr ?_|(refine yo zr ?_;intro _)|(refine yp zr ?_;intro _)|refine yq zr ?_|refine ys zr ?_|refine yu zr ?_|refine yv zr ?_|(with_reducible first|refine zd ?_|refine ze ?_|refine zf ?_|refine zg ?_|refine zh ?_|refine zi ?_|refine zj ?_|refine zk ?_|refine zl ?_)|refine zz zr ?_|refine zw (by decide +kernel) ?_|refine zx zr zr zr ?_|refine zy zr zr ?_|(refine W.condP zr ?_ ?_<;>intro _)|refine W.condT zr ?_|refine W.condF zr ?_|(refine W.cond zr ?_ ?_<;>intro _)|(refine W.gs zr zr zr zr ?_ ?_<;>intro _)|(refine W.gsB zr zr zr zr ?_ ?_<;>intro _)|refine W.done zr ?_|refine W.doneN zr ?_
  refine ⟨_,rfl,_,rfl,fun h=>?_⟩
  have h:=of_decide_eq_false h
  omega
theorem matF_same {x y:Table} (h:SameT x y) (f:Int→Int→Option Cch):matF f 0 x.states.l=matF f 0 y.states.l:=by
  have key:∀(a b:List (Sl Guard)) (i:Nat),a.map (·.l.length)=b.map (·.l.length)→matF f i a=matF f i b:=by
    intro a
    induction a with
    | nil=>intro b i h;cases b with
      | nil=>rfl
      | cons _ _=>cases h
    | cons s a ih=>intro b i h;cases b with
      | nil=>cases h
      | cons s' b =>
        simp only [List.map_cons,List.cons.injEq] at h
        show rowM f i s.l.length::matF f (i+1) a=rowM f i s'.l.length::matF f (i+1) b
        rw [h.1,ih b (i+1) h.2]
  refine key _ _ 0 ?_
  obtain ⟨-,-,-,-,-,h1,h2⟩:=h
  refine List.ext_getElem (by rw [List.length_map,List.length_map];exact h1) fun i k1 k2=>?_
  rw [List.getElem_map,List.getElem_map]
  exact (h2 i (by simpa using k1) (by simpa using k2)).1
end Go.Proofs.YtoegffiapnnkiaaGreat.Abs
