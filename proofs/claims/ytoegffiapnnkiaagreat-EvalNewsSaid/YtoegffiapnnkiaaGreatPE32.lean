/- Parts of one proof. No condition but those that each theorem names. -/
import Derived.Test.YtoegffiapnnkiaaGreatPE19
import Derived.Test.YtoegffiapnnkiaaGreatPE29
import Derived.Test.YtoegffiapnnkiaaGreatPE30
import Derived.Test.YtoegffiapnnkiaaGreatPE31
namespace Go.Proofs.YtoegffiapnnkiaaGreat.Abs
open Go
set_option linter.unusedVariables false
set_option linter.unusedSimpArgs false
set_option maxRecDepth 100000
set_option maxHeartbeats 4000000
structure Ev where
  w:Snap
  s:Int
  regs:List Int
  st:Int
  code:Int
  steps:Int
def evC (T:Table) (jr km:K) (e:Ev):List AV:=[.str T.name,T.regs.v,.int .i64 T.slots,T.consts.v,T.code.v,T.states.v,.int .i64 e.w.bid,.int .i64 e.w.ask,.int .i64 e.w.last,.int .i64 e.w.volume,.int .i64 e.w.now,.int .i64 e.w.open_,.int .i64 e.s,(gS jr e.regs).v,.int .u8 e.st,.int .i64 e.code,.map (some km),.int .i64 e.steps]
def evB (k:K) (T:Table) (jr km:K) (e:Ev):K×Bk:=(k,.cells (evC T jr km e) 174 18 true)
structure EvG (g:Cg):Prop where
  status:Plain g 44=true
  mode:Plain g 46=true
  snap:Plain g 45=true
  steps:Plain g 53=true
  caches:Plain g 54=true
  copied:Plain g 60=true
attribute [local irreducible] W Cl Bd
variable {g:Cg} {V:K→Option (List AV)}
theorem evStatus_c (G:EvG g) {k jr km:K} {T:Table} {e:Ev} (hk:V k=some (evC T jr km e)) :
    Cl Tryz.prog g V 44 [.ptr (some (k,0))] [] fun o _=>o=.ret (.tup [.int .u8 e.st,.int .i64 e.code]):=by
  refine Cl.enter G.status Tryz.func44 rfl ?_
  repeat' first|refine W.ldV tblOk rfl rfl rfl hk rfl ?_|(with_reducible first|refine za ?_|refine zb ?_|refine zc ?_)|refine ym zr ?_|refine yn 0 zr ?_|refine yn 1 zr ?_|refine yn 2 zr ?_|refine yn 3 zr ?_|(refine yo zr ?_;intro _)|(refine yp zr ?_;intro _)|refine yq zr ?_|refine ys zr ?_|refine yu zr ?_|refine yv zr ?_|(with_reducible first|refine zd ?_|refine ze ?_|refine zf ?_|refine zg ?_|refine zh ?_|refine zi ?_|refine zj ?_|refine zk ?_|refine zl ?_)|refine zz zr ?_|refine zw (by decide +kernel) ?_|refine zx zr zr zr ?_|refine zy zr zr ?_|(refine W.condP zr ?_ ?_<;>intro _)|refine W.condT zr ?_|refine W.condF zr ?_|(refine W.cond zr ?_ ?_<;>intro _)|(refine W.gs zr zr zr zr ?_ ?_<;>intro _)|(refine W.gsB zr zr zr zr ?_ ?_<;>intro _)|refine W.done zr ?_|refine W.doneN zr ?_
  rfl
theorem evSteps_c (G:EvG g) {k jr km:K} {T:Table} {e:Ev} (hk:V k=some (evC T jr km e)) :
    Cl Tryz.prog g V 53 [.ptr (some (k,0))] [] fun o _=>o=.ret (.int .i64 e.steps):=by
  refine Cl.enter G.steps Tryz.func53 rfl ?_
  repeat' first|refine W.ldV tblOk rfl rfl rfl hk rfl ?_|(with_reducible first|refine za ?_|refine zb ?_|refine zc ?_)|refine ym zr ?_|refine yn 0 zr ?_|refine yn 1 zr ?_|refine yn 2 zr ?_|refine yn 3 zr ?_|(refine yo zr ?_;intro _)|(refine yp zr ?_;intro _)|refine yq zr ?_|refine ys zr ?_|refine yu zr ?_|refine yv zr ?_|(with_reducible first|refine zd ?_|refine ze ?_|refine zf ?_|refine zg ?_|refine zh ?_|refine zi ?_|refine zj ?_|refine zk ?_|refine zl ?_)|refine zz zr ?_|refine zw (by decide +kernel) ?_|refine zx zr zr zr ?_|refine zy zr zr ?_|(refine W.condP zr ?_ ?_<;>intro _)|refine W.condT zr ?_|refine W.condF zr ?_|(refine W.cond zr ?_ ?_<;>intro _)|(refine W.gs zr zr zr zr ?_ ?_<;>intro _)|(refine W.gsB zr zr zr zr ?_ ?_<;>intro _)|refine W.done zr ?_|refine W.doneN zr ?_
  rfl
theorem evSnap_c (G:EvG g) {k jr km:K} {T:Table} {e:Ev} (hk:V k=some (evC T jr km e)) :
    Cl Tryz.prog g V 45 [.ptr (some (k,0))] [] fun o _=>o=.ret e.w.v:=by
  refine Cl.enter G.snap Tryz.func45 rfl ?_
  repeat' first|refine W.ldV tblOk rfl rfl rfl hk rfl ?_|refine W.doneC tblOk (.cell 0 rfl rfl rfl rfl .nil) ?_|(with_reducible first|refine za ?_|refine zb ?_|refine zc ?_)|refine ym zr ?_|refine yn 0 zr ?_|refine yn 1 zr ?_|refine yn 2 zr ?_|refine yn 3 zr ?_|(refine yo zr ?_;intro _)|(refine yp zr ?_;intro _)|refine yq zr ?_|refine ys zr ?_|refine yu zr ?_|refine yv zr ?_|(with_reducible first|refine zd ?_|refine ze ?_|refine zf ?_|refine zg ?_|refine zh ?_|refine zi ?_|refine zj ?_|refine zk ?_|refine zl ?_)|refine zz zr ?_|refine zw (by decide +kernel) ?_|refine zx zr zr zr ?_|refine zy zr zr ?_|(refine W.condP zr ?_ ?_<;>intro _)|refine W.condT zr ?_|refine W.condF zr ?_|(refine W.cond zr ?_ ?_<;>intro _)|(refine W.gs zr zr zr zr ?_ ?_<;>intro _)|(refine W.gsB zr zr zr zr ?_ ?_<;>intro _)|refine W.done zr ?_|refine W.doneN zr ?_
  rfl
theorem evMode_c (G:EvG g) {k jr km:K} {T:Table} {e:Ev} (hk:V k=some (evC T jr km e)) (hr:(gS jr e.regs).In V false 1 (AV.int .i64)) (hl:e.regs.length≤10000000) :
    Cl Tryz.prog g V 46 [.ptr (some (k,0))] [] fun o Δ=>∃i,o=.ret (.agg [.int .i64 e.s,(gS i e.regs).v])∧∃R,Δ=R++gD iC 2 1 i e.regs:=by
  refine Cl.enter G.mode Tryz.func46 rfl ?_
  have hcp:=(modeCopyP_c (V:=V) G.copied hr (by rw [gS_l];exact hl) e.s).mono (Q':=fun o Δ=>∃i,o=RO.ret (AV.agg [.int .i64 e.s,(gS i e.regs).v])∧∃R,Δ=R++gD iC 2 1 i e.regs) fun o Δ h=>by obtain ⟨i,R,h1,h2⟩:=h;rw [gS_l] at h1 h2;exact ⟨i,h1,R,h2⟩
  repeat' first|refine W.ldV tblOk rfl rfl rfl hk rfl ?_|(refine W.callN (val:=fun i=>.agg [.int .i64 e.s,(gS i e.regs).v]) rfl rfl rfl rfl hcp ?_;rintro jr' _ ⟨R,rfl⟩)|refine W.doneC tblOk (.cell 0 rfl rfl rfl rfl .nil) ?_|(with_reducible first|refine za ?_|refine zb ?_|refine zc ?_)|refine ym zr ?_|refine yn 0 zr ?_|refine yn 1 zr ?_|refine yn 2 zr ?_|refine yn 3 zr ?_|(refine yo zr ?_;intro _)|(refine yp zr ?_;intro _)|refine yq zr ?_|refine ys zr ?_|refine yu zr ?_|refine yv zr ?_|(with_reducible first|refine zd ?_|refine ze ?_|refine zf ?_|refine zg ?_|refine zh ?_|refine zi ?_|refine zj ?_|refine zk ?_|refine zl ?_)|refine zz zr ?_|refine zw (by decide +kernel) ?_|refine zx zr zr zr ?_|refine zy zr zr ?_|(refine W.condP zr ?_ ?_<;>intro _)|refine W.condT zr ?_|refine W.condF zr ?_|(refine W.cond zr ?_ ?_<;>intro _)|(refine W.gs zr zr zr zr ?_ ?_<;>intro _)|(refine W.gsB zr zr zr zr ?_ ?_<;>intro _)|refine W.done zr ?_|refine W.doneN zr ?_
  exact ⟨jr',rfl,[_]++R,by rw [List.append_assoc];rfl⟩
def rowM (f:Int→Int→Option Cch) (i n:Nat):List Cch:=(List.range n).map fun k:Nat=>(f (i:Int) (k:Int)).getD Cch.none
theorem rowM_succ (f:Int→Int→Option Cch) (i n:Nat):rowM f i (n+1)=rowM f i n++[(f (i:Int) (n:Int)).getD Cch.none]:=by
  unfold rowM
  rw [List.range_succ,List.map_append];rfl
abbrev KR:=List (K×List Cch)
def krH (r:K×List Cch):AV:=(gS r.1 r.2).v
def krD (l:KR):Dm:=l.flatMap fun r=>gD Cch.cs 170 3 r.1 r.2
def matF (f:Int→Int→Option Cch):Nat→List (Sl Guard)→List (List Cch)
  | _,[]=>[]
  | i,s::l=>rowM f i s.l.length::matF f (i+1) l
theorem matF_append (f:Int→Int→Option Cch):∀(i:Nat) (a b:List (Sl Guard)),matF f i (a++b)=matF f i a++matF f (i+a.length) b
  | i,[],b=>rfl
  | i,s::a,b=>by
    show _::matF f (i+1) (a++b)=_
    rw [matF_append f (i+1) a b,show i+1+a.length=i+(s::a).length by simp;omega];rfl
theorem matF_len (f:Int→Int→Option Cch):∀(i:Nat) (a:List (Sl Guard)),(matF f i a).length=a.length
  | i,[]=>rfl
  | i,s::a=>by show (matF f (i+1) a).length+1=_;rw [matF_len f (i+1) a];rfl
theorem matF_take (f:Int→Int→Option Cch) {i:Nat} {l:List (Sl Guard)} (h:i<l.length):matF f 0 (l.take (i+1))=matF f 0 (l.take i)++[rowM f i l[i].l.length]:=by
  rw [List.take_succ_eq_append_getElem h,matF_append,List.length_take,Nat.min_eq_left (by omega),Nat.zero_add];rfl
theorem cell_set {xs zs:List AV} {i:Nat} (hi:xs.length=i) (y y':AV):setLs (xs++y::zs) (0+(i:Int).toNat * 1) [y']=some (xs++y'::zs):=by
  have h:=setLs_cat [y'] [y] rfl zs xs
  rw [hi] at h
  rw [show 0+(i:Int).toNat * 1=i by omega]
  exact h
theorem cell_get {t z3:Nat} {td:TD} {z4:Option AV} (ht:ti tbl t=some ⟨td,false,1,z3,z4⟩) {xs zs:List AV} {i:Nat} (hi:xs.length=i) (y:AV):partG tbl t (xs++y::zs) (0+(i:Int).toNat * 1)=some y:=part_leaf ht (by
  rw [show 0+(i:Int).toNat * 1=i by omega,List.getElem?_append_right (by omega),hi,Nat.sub_self];rfl)
theorem repL_one (z:AV):∀n:Nat,repL n [z]=List.replicate n z
  | 0=>rfl
  | n+1=>by show [z]++repL n [z]=_;rw [repL_one z n];rfl
theorem leafC (a:Cch):∀v∈a.cs,v.leaf=true:=by simp [Cch.cs,AV.leaf]
end Go.Proofs.YtoegffiapnnkiaaGreat.Abs
