/- Parts of one proof. No condition but those that each theorem names. -/
import Derived.Test.YtoegffiapnnkiaaGreatPT06
import Derived.Test.YtoegffiapnnkiaaGreatPT08
import Derived.Test.YtoegffiapnnkiaaGreatPT20
import Derived.Test.YtoegffiapnnkiaaGreatPT28
import Derived.Test.YtoegffiapnnkiaaGreatPT29
namespace Go.Proofs.YtoegffiapnnkiaaGreat.Abs
open Go
set_option linter.unusedVariables false
set_option linter.unusedSimpArgs false
set_option maxRecDepth 100000
set_option maxHeartbeats 4000000
attribute [local irreducible] W Cl Bd
variable {g:Cg} {V:K→Option (List AV)}
theorem modeCopyP_c (hp:Plain g 60=true) {regs:Sl Int} (hr:regs.In V false 1 (AV.int .i64)) (hl:regs.l.length≤10000000) (s:Int) :
    Cl Tryz.prog g V 60 [.agg [.int .i64 s,regs.v]] [] fun o Δ=>∃i R,o=.ret (.agg [.int .i64 s,(gS i regs.l).v])∧Δ=R++gD iC 2 1 i regs.l:=by
  refine Cl.enter hp Tryz.func60 rfl ?_
  have hb:(([]:List Int).length+regs.l.length) * 8≤140737488355328:=by simp;omega
  repeat first|(with_reducible first|refine za ?_|refine zb ?_|refine zc ?_)|(refine yo zr ?_;intro _)|(refine yp zr ?_;intro _)
  rename_i ib ia
  have hold:∀(Δ:Dm),(ib,Bk.cells [.int .i64 s,regs.v] 30 2 true)∈Δ→Hold tbl ib 3 0 (.int .i64 s) Δ:=fun Δ h=>⟨_,_,h,rfl,rfl⟩
  refine W.drawL _ (i0:=ib) (q:=0) (v:=.int .i64 s) 1 4 5 (by decide +kernel) tbl tblOk rfl rfl (by simp [sameA]) ?_ ?_ ?_
  · show W _ _ _ _ _ [.o false _ [_]] _ _ _ _
    repeat' first|with_reducible refine zc ?_|refine ym zr ?_|refine W.doneN zr ?_
    exact ⟨rfl,hold _ (.tail _ (.head _))⟩
  · intro m h1 h2
    obtain rfl|rfl:m=4∨m=5:=by omega
    · show W _ _ _ _ _ [.o false _ [_,_,_,_]] _ _ _ _
      repeat' first|with_reducible refine zc ?_|refine ym zr ?_|refine yn 1 zr ?_|refine W.doneN zr ?_
      exact hold _ (.tail _ (.head _))
    · show W _ _ _ _ _ [.o false _ [_,_,_,_,_]] _ _ _ _
      repeat first|refine ym zr ?_|refine yn 1 zr ?_
      refine W.appG (i:=.z) (l:=[]) (m:=regs.l) (enc:=iC) (Δ1:=[_,_]) (Δ0:=[]) tblOk rfl rfl rfl rfl rfl rfl rfl (by decide) hb (fun _=>rfl) (srcI hr) (fun h=>src_none h) (leaf_all _ leafI _) rfl rfl fun n1=>?_
      repeat' first|with_reducible refine zc ?_|refine W.doneN zr ?_
      exact hold _ (.tail _ (.head _))
  repeat first|refine ym zr ?_|refine yn 1 zr ?_
  refine W.appG (i:=.z) (l:=[]) (m:=regs.l) (enc:=iC) (Δ1:=[_,_]) (Δ0:=[]) tblOk rfl rfl rfl rfl rfl rfl rfl (by decide) hb (fun _=>rfl) (srcI hr) (fun h=>src_none h) (leaf_all _ leafI _) rfl rfl fun n1=>?_
  repeat' first|refine W.doneC tblOk (.cell 0 rfl rfl rfl rfl .nil) ?_|with_reducible refine zc ?_|refine ym zr ?_|refine yq zr ?_|with_reducible refine zj ?_
  exact ⟨n1,[_,_],rfl,by rw [List.append_nil];rfl⟩
end Go.Proofs.YtoegffiapnnkiaaGreat.Abs
namespace Go.Proofs.YtoegffiapnnkiaaGreat.Abs
open Go
set_option linter.unusedVariables false
set_option linter.unusedSimpArgs false
set_option maxRecDepth 100000
set_option maxHeartbeats 4000000
attribute [local irreducible] W Cl Bd
variable {g:Cg} {V:K→Option (List AV)}
theorem row_c (B:BodG g) {t:Table} (ht:t.Ok V) (hck:checkS t=none) {kt:K} (hkt:V kt=some [.str t.name,t.regs.v,.int .i64 t.slots,t.consts.v,t.code.v,t.states.v]) {w:Snap} (hw:w.Ok) (k jr ja:K) (b:Bod)
    (hb:BodOk t b) (hst:0≤b.steps∧b.steps≤999000000) (hal:b.acts.length≤1000000) {r:Row} (hr:RowOk t r) :
    Cl Tryz.prog g V 124 [.ptr (some (k,0)),r.v] (bodD k kt w jr ja b) fun o Δ=>o=.ret (.tup [])∧∃ja',Δ=bodD k kt w jr ja' (rowF t w b r):=by
  have hk:=hr.k
  rcases (by omega:r.k=1∨r.k=2∨r.k=3∨r.k=4∨r.k=5∨r.k=6) with h|h|h|h|h|h
  · exact row1_c B ht hck hkt hw k jr ja b hb hst hal hr h
  · exact row2_c B ht hck hkt hw k jr ja b hb hst hal hr h
  · exact row3_c B ht hck hkt hw k jr ja b hb hst hal hr h
  · exact row4_c B ht hck hkt hw k jr ja b hb hst hr h
  · exact row5_c B k jr ja b h
  · exact row6_c B k jr ja b h
theorem body_le {t:Table} (hck:checkS t=none) {r:Row} (hr:RowOk t r):bodyS r≤16384:=by
  rw [hr.body]
  have l1:=lenT_le hck (hr.span (.inl rfl))
  have l2:=lenT_le hck (hr.span (.inr (.inl rfl)))
  have l3:=lenT_le hck (hr.span (.inr (.inr (.inl rfl))))
  have l4:=lenT_le hck (hr.span (.inr (.inr (.inr rfl))))
  omega
def bod0 (s:Int) (regs:List Int):Bod:=⟨s,regs,[],1,0,0⟩
theorem do_c (B:BodG g) {t:Table} (ht:t.Ok V) (hck:checkS t=none) {kt:K} (hkt:V kt=some [.str t.name,t.regs.v,.int .i64 t.slots,t.consts.v,t.code.v,t.states.v]) {w:Snap} (hw:w.Ok) {s:Int} {regs:Sl Int} (hg:regs.In V false 1 (AV.int .i64)) (hb:BodOk t (bod0 s regs.l))
    {rows:Sl Row} (hrow:rows.In V true 11 Row.v) (hro:∀r∈rows.l,RowOk t r) (hrl:rows.l.length≤8) :
    Cl Tryz.prog g V 81 [.ptr (some (kt,0)),rows.v,.agg [.int .i64 s,regs.v],w.v] [] fun o Δ=>∃k jr ja,o=.ret (.ptr (some (k,0)))∧Δ=bodD k kt w jr ja (doF t w rows.l (bod0 s regs.l)):=by
  refine Cl.enter B.do_ Tryz.func81 rfl ?_
  have hcp:=modeCopyP_c (V:=V) B.copied hg (by have:=(check_code hck).2;have:=hb.len;show regs.l.length≤_;simp only [bod0] at this;omega) s
  have hcp:=hcp.mono (Q':=fun o Δ=>∃i,o=RO.ret (AV.agg [.int .i64 s,(gS i regs.l).v])∧∃R,Δ=R++gD iC 2 1 i regs.l) fun o Δ h=>by obtain ⟨i,R,h1,h2⟩:=h;exact ⟨i,h1,R,h2⟩
  repeat first|(with_reducible first|refine za ?_|refine zb ?_|refine zc ?_)|refine ym zr ?_|(refine yo zr ?_;intro _)
  rename_i im iw
  refine W.scope ?_
  repeat first|with_reducible refine za ?_
  refine W.drawL _ (i0:=iw) (q:=0) (v:=w.v) 1 3 4 (by decide +kernel) tbl tblOk rfl rfl (by simp [sameA,sameL,Snap.v]) ?_ ?_ ?_
  · show W _ _ _ _ _ [.o false _ [_]] _ _ _ _
    repeat' first|with_reducible refine zc ?_|refine ym zr ?_|refine W.doneN zr ?_
    exact ⟨rfl,_,_,.head _,rfl,rfl⟩
  · intro j hj1 hj2
    obtain rfl|rfl:j=3∨j=4:=by omega
    · show W _ _ _ _ _ [.o false _ [_,_,_]] _ _ _ _
      repeat' first|with_reducible refine zc ?_|refine ym zr ?_|refine yn 0 zr ?_|refine yn 1 zr ?_|refine W.doneN zr ?_
      exact ⟨_,_,.head _,rfl,rfl⟩
    · show W _ _ _ _ _ [.o false _ [_,_,_,_]] _ _ _ _
      repeat' first|(refine W.callN (val:=fun i=>.agg [.int .i64 s,(gS i regs.l).v]) rfl rfl rfl rfl hcp ?_;rintro jr _ ⟨R,rfl⟩)|with_reducible refine zc ?_|refine ym zr ?_|refine yn 0 zr ?_|refine yn 1 zr ?_|refine W.doneN zr ?_
      exact ⟨_,_,List.mem_append_left _ (.head _),rfl,rfl⟩
  repeat first|(refine W.callN (val:=fun i=>.agg [.int .i64 s,(gS i regs.l).v]) rfl rfl rfl rfl hcp ?_;rintro jr _ ⟨R,rfl⟩)|(with_reducible first|refine za ?_|refine zc ?_)|refine ym zr ?_|refine yn 0 zr ?_|refine yn 1 zr ?_|(refine yo zr ?_;intro _)
  refine W.label ?_
  repeat first|(with_reducible first|refine za ?_|refine zb ?_|refine zc ?_)|refine ym zr ?_|with_reducible refine ze ?_
  rename_i kb
  refine W.loopR (α:={ q:Nat×Bod×K // q.1≤rows.l.length∧BodOk t q.2.1∧0≤q.2.1.steps∧q.2.1.steps≤q.1 * 16384∧q.2.1.acts.length≤q.1∧doF t w rows.l (bod0 s regs.l)=doF t w (rows.l.drop q.1) q.2.1 }) (fun q=>rows.l.length-q.1.1)
    (fun q=>[(9,.ptr (some (kb,0))),(18,rows.v),(19,.int .i64 (rows.l.length:Int)),(20,.int .i64 (q.1.1:Int))])
    (fun q=>bodD kb kt w jr q.1.2.2 q.1.2.1) ⟨(0,bod0 s regs.l,.z),Nat.zero_le _,hb,Int.le_refl _,Int.le_refl _,Nat.le_refl _,rfl⟩ ⟨rfl,rfl,rfl,rfl⟩ (.cons_cons _ (.cons _ (.cons _ (by show List.Sublist (gD iC 2 1 jr regs.l++[]) _;rw [List.append_nil];exact List.sublist_append_right R _)))) ?_
  clear hcp
  rintro ⟨⟨i,b,ja⟩,hi,hbo,hs0,hs1,hal,hinv⟩ ih
  simp only at ih hi hbo hs0 hs1 hal hinv ⊢
  by_cases hlt:i<rows.l.length
  rotate_left
  · clear ih
    rw [List.drop_eq_nil_of_le (by omega)] at hinv
    repeat first|(with_reducible first|refine za ?_|refine zb ?_|refine zc ?_)|refine ym zr ?_
    refine W.condP rfl (fun h=>absurd h (by omega)) (fun _=>?_)
    repeat' first|refine W.uret ?_|(with_reducible first|refine za ?_|refine zb ?_|refine zc ?_)|refine ym zr ?_|(with_reducible first|refine zg ?_|refine zh ?_|refine zi ?_|refine zj ?_)|refine W.done zr ?_
    exact ⟨kb,jr,ja,rfl,by rw [hinv];rfl⟩
  have hi0:(0:Int)≤(i:Int):=by omega
  have hi1:(i:Int)<(rows.l.length:Int):=by omega
  have ewi:IntKind.i64.wrap ((i:Int)+1)=((i+1:Nat):Int):=by rw [w64 (by omega) (by omega)];omega
  obtain ⟨jn,o,cs,ha,hV,hpt⟩:=Sl.In.get hrow hlt
  have hr:=hro _ (List.getElem_mem hlt)
  rw [List.drop_eq_getElem_cons hlt,doF] at hinv
  have hrow1:=row_c (V:=V) B ht hck hkt hw kb jr ja b hbo ⟨hs0,by omega⟩ (by omega) hr
  have k1:=row_ok hck ht.consts.2.2 hw hbo hr
  have k2:=row_steps hck w b hr
  have k3:=row_acts (w:=w) (b:=b) hr
  have k4:=body_le hck hr
  have hnext:=fun b' ja' h1 h2 h3 h4 h5=>ih ⟨(i+1,b',ja'),hlt,h1,h2,h3,h4,h5⟩ (by show rows.l.length-(i+1)<rows.l.length-i;omega)
  simp only at hnext
  clear ih
  generalize rows.l[i]=r at hpt hr hinv hrow1 k1 k2 k3 k4
  generalize rowF t w b r=b' at hinv hrow1 k1 k2 k3
  repeat first|(with_reducible first|refine za ?_|refine zb ?_|refine zc ?_)|refine ym zr ?_
  refine W.condP rfl (fun _=>?_) (fun h=>absurd hi1 h)
  repeat first|refine W.ia tblOk rfl rfl rfl rfl rfl rfl ha hi0 hi1 ?_|refine W.ldV tblOk rfl rfl rfl hV hpt ?_|(with_reducible first|refine za ?_|refine zb ?_|refine zc ?_)|refine ym zr ?_|refine yn 0 zr ?_|(refine yp zr ?_;intro _)|refine yq zr ?_|(with_reducible first|refine zd ?_|refine ze ?_)
  rename_i ir
  refine W.perm (bodD kb kt w jr ja b++[_]) (List.perm_append_comm (l₁:=bodD kb kt w jr ja b) (l₂:=[_])) ?_
  repeat first|(with_reducible first|refine za ?_|refine zb ?_|refine zc ?_)|refine ym zr ?_|refine yn 0 zr ?_|refine yn 1 zr ?_|refine yn 2 zr ?_|refine yn 3 zr ?_|(refine yo zr ?_;intro _)|(refine yp zr ?_;intro _)|refine yq zr ?_|refine ys zr ?_|refine yu zr ?_|refine yv zr ?_|(with_reducible first|refine zd ?_|refine ze ?_|refine zf ?_|refine zg ?_|refine zh ?_|refine zi ?_|refine zj ?_|refine zk ?_|refine zl ?_)|refine zz zr ?_|refine zw (by decide +kernel) ?_|refine zx zr zr zr ?_|refine zy zr zr ?_|refine W.condT zr ?_|refine W.condF zr ?_
  refine W.callR (Δ:=bodD kb kt w jr ja b) (R:=[_]) rfl rfl rfl rfl hrow1 (by rintro v Δ' ⟨h,-⟩;cases h) ?_
  rintro v_ Δ_ ⟨h1_,ja',rfl⟩
  injection h1_ with h1_;subst h1_
  refine W.dropE (bodD kb kt w jr ja' b') (List.sublist_append_left _ _) ?_
  by_cases he:b'.err=0
  · rw [if_pos he] at hinv
    have hnext:=hnext b' ja' k1 (by omega) (by omega) (by rw [k3];split<;>omega) hinv
    repeat first|(with_reducible first|refine za ?_|refine zb ?_|refine zc ?_)|refine ym zr ?_|refine yn 0 zr ?_
    refine W.condP rfl (fun h=>absurd he h) (fun _=>?_)
    repeat first|(with_reducible first|refine zb ?_|refine zc ?_)|refine ym zr ?_|(with_reducible first|refine zd ?_|refine zf ?_)
    exact W.wk hnext ⟨rfl,rfl,rfl,congrArg (fun z=>some (AV.int .i64 z)) ewi⟩ (List.Sublist.refl _)
  · rw [if_neg he] at hinv
    clear hnext
    repeat first|(with_reducible first|refine za ?_|refine zb ?_|refine zc ?_)|refine ym zr ?_|refine yn 0 zr ?_
    refine W.condP rfl (fun _=>?_) (fun h=>absurd he h)
    repeat' first|refine W.uret ?_|(with_reducible first|refine za ?_|refine zb ?_|refine zc ?_)|refine ym zr ?_|(with_reducible first|refine zg ?_|refine zh ?_|refine zi ?_|refine zj ?_)|refine zz zr ?_|refine W.done zr ?_
    exact ⟨kb,jr,ja',rfl,by rw [hinv]⟩
end Go.Proofs.YtoegffiapnnkiaaGreat.Abs
