/- Chapter 20: what the table's functions come to, one by one, for every table. No condition but those that each theorem names. -/
import Derived.Test.YtoegffiapnnkiaaGreatTI
import Derived.Test.YtoegffiapnnkiaaGreatTIb
import Derived.Test.YtoegffiapnnkiaaGreatTJ
import Derived.Test.YtoegffiapnnkiaaGreatTQ
import Derived.Test.YtoegffiapnnkiaaGreatMW
import Derived.Test.YtoegffiapnnkiaaGreatWV
import Derived.Test.YtoegffiapnnkiaaGreatAbsK20
namespace Go.Proofs.YtoegffiapnnkiaaGreat.Abs
open Go Go.RowKit
set_option linter.unusedVariables false
set_option linter.unusedSimpArgs false
set_option maxRecDepth 100000
theorem rowR_c {g:Cg} {V:K→Option (List AV)} (hp:Plain g 164=true) (hi:Plain g 189=true) (hh:Plain g 129=true) {t:Table} (ht:t.Ok V) (x:Row) (n:Int) :
    Cl Tryz.prog g V 164 [t.v,x.v,.int .i64 n] [] fun o _=>o=.ret (placeI (RowAt t x n)):=by
  by_cases h1:x.k=1
  · exact rowR_1 hp hi hh ht x n (by by_cases h2:x.o=2;exact .inl ⟨h1,h2⟩;exact .inr ⟨h1,h2⟩)
  · exact rowR_2 hp hi hh ht x n (by omega)
noncomputable def G20:Cg:=⟨107,271,[⟨12,[],.z,.bool true,[],.z,true⟩]⟩
theorem G20_ok:∀m∈G20.ms,MemoS Tryz.prog m:=by
  intro m hm
  have hm:m∈[(⟨12,[],.z,.bool true,[],.z,true⟩:Memo)]:=hm
  rw [List.mem_singleton] at hm
  subst hm
  exact memo_pure ⟨_,Tryz.func12,rfl⟩ (fun _=>rfl) awake20.calls
theorem conc_one {μ:K→Option Loc} {v:AV} {c:Value} (h:concL μ [v]=some [c]):conc μ v=some c:=by
  simp only [concL] at h
  cases e:conc μ v with
  | none=>rw [e] at h;cases h
  | some x=>rw [e] at h;injection h with h;injection h with h;rw [h]
theorem conc_nil {μ:K→Option Loc}:concL μ []=some []:=rfl
theorem conc_cons {μ:K→Option Loc} {v:AV} {c:Value} {l:List AV} {cs:List Value} (h:conc μ v=some c) (k:concL μ l=some cs):concL μ (v::l)=some (c::cs):=by
  simp only [concL,h,k];rfl
variable {V:K→Option (List AV)} {t:Table}
theorem awakeC:Cl Tryz.prog G20 V 12 [] [] fun o _=>o=.ret (.bool true):=Cl.memo rfl rfl rfl rfl rfl
theorem nameC (V:K→Option (List AV)) (hr:t.Room):Cl Tryz.prog G20 V 142 [.str t.name] [] fun o _=>o=.ret (.bool (NameS t.name)) :=
  name_c rfl rfl rfl rfl rfl rfl rfl rfl rfl rfl hr.name.2 (by have:=hr.name.1;omega)
theorem nameRC (V:K→Option (List AV)) (hr:t.Room):Cl Tryz.prog G20 V 125 [.str t.name] [] fun o _=>o=.ret (.bool (NameS t.name)) :=
  nameR_c rfl rfl rfl rfl rfl rfl hr.name.2 (by have:=hr.name.1;omega)
theorem checkC (ht:t.Ok V) (hr:t.Room):Cl Tryz.prog G20 V 59 [t.v] [] fun o _=>o=.ret (.int .i64 ((checkS t).getD 0)) :=
  check_c ⟨rfl,rfl,rfl,rfl,rfl,rfl,rfl,rfl,rfl,rfl,rfl⟩ rfl rfl rfl rfl rfl ht fun V=>nameC V hr
theorem spanRC (ht:t.Ok V) (h3:t.code.l.length≤4096) {f z:Int} (h0:0≤f) (h1:f<z) (h2:z≤t.code.l.length):Cl Tryz.prog G20 V 83 [t.v,.agg [.int .i64 f,.int .i64 z]] [] fun o _=>o=.ret (.int .i64 ((spanS t f z).getD 0)) :=
  spanR_c rfl rfl rfl rfl rfl ht h0 h1 h2 h3
theorem checkRC (ht:t.Ok V) (hr:t.Room):Cl Tryz.prog G20 V 29 [t.v] [] fun o _=>o=.ret (.int .i64 ((checkS t).getD 0)) :=
  checkR_c rfl rfl ht (formedR_c rfl ht (nameRC V hr) fun x n hx=>guardR_c rfl hx (fun r n=>rowR_c rfl rfl rfl ht r n) n) (fun h3 f z h0 h1 h2=>spanRC ht h3 h0 h1 h2)
    (fun h3 x hx=>rowsR_c rfl rfl x fun y hy=>by have:=hx y hy;exact spanRC ht h3 this.1 this.2.1 this.2.2)
theorem far20_c (ht:t.Ok V) (hr:t.Room) {regs:Sl Int} (s:Int):Cl Tryz.prog G20 V 13 [t.v,.agg [.int .i64 s,regs.v]] [] fun o _=>∃v,o=.ret v∧∃b:Bool,v=.bool b∧(b=false→t.regs.l.length≤65536∧regs.l.length≤65536):=by
  have hw:=weigh2_c (g:=G20) (V:=V) rfl ht hr
  refine Cl.enter rfl Tryz.func13 rfl ?_
  repeat first|(with_reducible first|refine za ?_|refine zb ?_|refine zc ?_)|refine ym zr ?_|refine yn 0 zr ?_|refine yn 1 zr ?_|refine yn 2 zr ?_|refine yn 3 zr ?_|(refine yo zr ?_;intro _)|(refine yp zr ?_;intro _)|refine yq zr ?_|refine ys zr ?_|refine yu zr ?_|refine yv zr ?_|(with_reducible first|refine zd ?_|refine ze ?_|refine zf ?_|refine zg ?_|refine zh ?_|refine zi ?_|refine zj ?_|refine zk ?_|refine zl ?_)|refine zz zr ?_|refine zw (by decide +kernel) ?_|refine zx zr zr zr ?_|refine zy zr zr ?_|refine W.condT zr ?_|refine W.condF zr ?_
  refine W.callR (Δ:=[]) (R:=[_,_]) rfl rfl rfl rfl hw (by rintro v Δ' ⟨i,h,-⟩;cases h) ?_
  rintro v_ Δ_ ⟨i_,hv_,hi_⟩
  injection hv_ with hv_;subst hv_
  refine W.perm (([_,_]:Dm)++Δ_) List.perm_append_comm ?_
  repeat' first|(with_reducible first|refine za ?_|refine zb ?_|refine zc ?_)|refine ym zr ?_|refine yn 0 zr ?_|refine yn 1 zr ?_|refine yn 2 zr ?_|refine yn 3 zr ?_|(refine yo zr ?_;intro _)|(refine yp zr ?_;intro _)|refine yq zr ?_|refine ys zr ?_|refine yu zr ?_|refine yv zr ?_|(with_reducible first|refine zd ?_|refine ze ?_|refine zf ?_|refine zg ?_|refine zh ?_|refine zi ?_|refine zj ?_|refine zk ?_|refine zl ?_)|refine zz zr ?_|refine zw (by decide +kernel) ?_|refine zx zr zr zr ?_|refine zy zr zr ?_|(refine W.condP zr ?_ ?_<;>intro _)|refine W.condT zr ?_|refine W.condF zr ?_|(refine W.cond zr ?_ ?_<;>intro _)|(refine W.gs zr zr zr zr ?_ ?_<;>intro _)|(refine W.gsB zr zr zr zr ?_ ?_<;>intro _)|refine W.done zr ?_|refine W.doneN zr ?_
  · exact ⟨_,rfl,true,rfl,fun h=>by cases h⟩
  · refine ⟨_,rfl,_,rfl,fun h=>?_⟩
    have h:=of_decide_eq_false h
    omega
theorem calls20:∀k,CallS Tryz.prog (callA Tryz.prog G20 (exec Tryz.prog G20 k)):=fun k=>callsS _ G20_ok k
end Go.Proofs.YtoegffiapnnkiaaGreat.Abs
