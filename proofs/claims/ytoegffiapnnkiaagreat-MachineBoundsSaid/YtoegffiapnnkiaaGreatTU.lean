/- How much a table weighs: the given function comes to a number. No condition but those that each theorem names. -/
import Derived.Test.YtoegffiapnnkiaaGreatTF
namespace Go.Proofs.YtoegffiapnnkiaaGreat.Abs
open Go
set_option linter.unusedVariables false
set_option linter.unusedSimpArgs false
set_option maxRecDepth 100000
set_option maxHeartbeats 4000000
attribute [local irreducible] W Cl Bd
variable {g:Cg} {V:K→Option (List AV)}
theorem part_field {cs l:List AV} {o n i:Nat} {v:AV} (h:partB cs o (true,n)=some (.agg l)) (hi:l[i]?=some v):partB cs (o+i) (false,1)=some v:=by
  have h:aggO (subL cs o n)=some (.agg l):=h
  show getL cs (o+i)=some v
  cases hs:subL cs o n with
  | none=>rw [hs] at h;cases h
  | some r =>
    rw [hs] at h
    have h:some (AV.agg r)=some (.agg l):=h
    injection h with h;injection h with h;subst h
    obtain ⟨h1,h2,h3⟩:=subL_eq hs
    have hin:i<r.length:=(List.getElem?_eq_some_iff.1 hi).1
    rw [getL_eq]
    rw [h1,List.getElem?_take,if_pos (by omega),List.getElem?_drop] at hi
    exact hi
theorem weigh_c (hp:Plain g 58=true) {t:Table} (ht:t.Ok V) :
    Cl Tryz.prog g V 58 [t.v] [] fun o _=>∃n:Int,o=.ret (.int .i64 n):=by
  refine Cl.enter hp Tryz.func58 rfl ?_
  have hlen:=ht.states.1
  unfold Len at hlen
  repeat first|(with_reducible first|refine za ?_|refine zb ?_|refine zc ?_)|refine ym zr ?_|refine yn 0 zr ?_|refine yn 1 zr ?_|refine yn 2 zr ?_|refine yn 3 zr ?_|(refine yo zr ?_;intro _)|(refine yp zr ?_;intro _)|refine yq zr ?_|refine ys zr ?_|refine yu zr ?_|refine yv zr ?_|(with_reducible first|refine zd ?_|refine ze ?_|refine zf ?_|refine zg ?_|refine zh ?_|refine zi ?_|refine zj ?_|refine zk ?_|refine zl ?_)|refine zz zr ?_|refine zw (by decide +kernel) ?_|refine zx zr zr zr ?_|refine zy zr zr ?_|refine W.condT zr ?_|refine W.condF zr ?_
  refine W.loopR (α:={ q:Nat×Int // q.1≤t.states.l.length }) (fun q=>t.states.l.length-q.1.1) (fun q=>[(1,_),(3,.int .i64 q.1.2),(4,.int .i64 (q.1.1:Int))]) (fun _=>_) ⟨(0,_),by simp⟩ ⟨rfl,rfl,rfl⟩ (List.Sublist.refl _) ?_
  rintro ⟨⟨i,m⟩,hi⟩ ih
  simp only at ih hi ⊢
  repeat' first|(with_reducible first|refine za ?_|refine zb ?_|refine zc ?_)|refine ym zr ?_|refine yn 0 zr ?_|refine yn 1 zr ?_|refine yn 2 zr ?_|refine yn 3 zr ?_|(refine yo zr ?_;intro _)|(refine yp zr ?_;intro _)|refine yq zr ?_|refine ys zr ?_|refine yu zr ?_|refine yv zr ?_|(with_reducible first|refine zd ?_|refine ze ?_|refine zf ?_|refine zg ?_|refine zh ?_|refine zi ?_|refine zj ?_|refine zk ?_|refine zl ?_)|refine zz zr ?_|refine zw (by decide +kernel) ?_|refine zx zr zr zr ?_|refine zy zr zr ?_|(refine W.condP zr ?_ ?_<;>intro _)|refine W.condT zr ?_|refine W.condF zr ?_|(refine W.cond zr ?_ ?_<;>intro _)|(refine W.gs zr zr zr zr ?_ ?_<;>intro _)|(refine W.gsB zr zr zr zr ?_ ?_<;>intro _)|refine W.done zr ?_|refine W.doneN zr ?_
  all_goals first
    | exact ⟨m,rfl⟩
    | skip
  have hlt:i<t.states.l.length:=by omega
  obtain ⟨jn,o,cs,ha,hV,hpt⟩:=Sl.In.get ht.states.2.1 hlt
  have hl:=ht.states.2.2 _ (List.getElem_mem hlt)
  generalize t.states.l[i]=l at hpt hl
  have hll:=hl.1
  unfold Len at hll
  refine W.loopR (α:={ q:Nat×Int // q.1≤l.l.length }) (fun q=>l.l.length-q.1.1) (fun q=>[(1,_),(3,.int .i64 q.1.2),(4,.int .i64 (i:Int)),(5,.int .i64 (q.1.1:Int))]) (fun _=>_) ⟨(0,_),by simp⟩ ⟨rfl,rfl,rfl,rfl⟩ (List.Sublist.refl _) ?_
  rintro ⟨⟨k,m2⟩,hk⟩ ih2
  simp only at ih2 hk ⊢
  have hnext:=fun m3:Int=>ih ⟨(i+1,m3),by show i+1≤_;omega⟩ (by show t.states.l.length-(i+1)<t.states.l.length-i;omega)
  by_cases hlt2:k<l.l.length
  · obtain ⟨jn2,o2,cs2,ha2,hV2,hpt2⟩:=Sl.In.get hl.2.1 hlt2
    repeat' first|refine W.ia tblOk rfl rfl rfl rfl rfl rfl ha (by omega) (by omega) ?_|refine W.ldV tblOk rfl rfl rfl hV hpt ?_|refine W.ia tblOk rfl rfl rfl rfl rfl rfl ha2 (by omega) (by omega) ?_|refine W.ldV tblOk rfl rfl rfl hV2 (part_field hpt2 (i:=4) rfl) ?_|(with_reducible first|refine za ?_|refine zb ?_|refine zc ?_)|refine ym zr ?_|refine yn 0 zr ?_|refine yn 1 zr ?_|refine yn 2 zr ?_|refine yn 3 zr ?_|(refine yo zr ?_;intro _)|(refine yp zr ?_;intro _)|refine yq zr ?_|refine ys zr ?_|refine yu zr ?_|refine yv zr ?_|(with_reducible first|refine zd ?_|refine ze ?_|refine zf ?_|refine zg ?_|refine zh ?_|refine zi ?_|refine zj ?_|refine zk ?_|refine zl ?_)|refine zz zr ?_|refine zw (by decide +kernel) ?_|refine zx zr zr zr ?_|refine zy zr zr ?_|(refine W.condP zr ?_ ?_<;>intro _)|refine W.condT zr ?_|refine W.condF zr ?_|(refine W.cond zr ?_ ?_<;>intro _)|(refine W.gs zr zr zr zr ?_ ?_<;>intro _)|(refine W.gsB zr zr zr zr ?_ ?_<;>intro _)|refine W.done zr ?_|refine W.doneN zr ?_
    all_goals first
      | (rw [wN (by omega)];refine W.weak _ _ ?_ ?_ (ih2 ⟨(k+1,IntKind.i64.wrap (IntKind.i64.wrap (m2+1)+((l.l[k].rows.l.length:Nat):Int))),by show k+1≤_;omega⟩ (by show l.l.length-(k+1)<l.l.length-k;omega));· exact ⟨rfl,rfl,rfl,rfl⟩
         exact List.Sublist.refl _)
      | (rw [wN (by omega)];refine W.weak _ _ ?_ ?_ (hnext m2);· exact ⟨rfl,rfl,rfl⟩
         exact List.Sublist.refl _)
      | (exfalso;omega)
      | trace_state
  · skip
    repeat' first|refine W.ia tblOk rfl rfl rfl rfl rfl rfl ha (by omega) (by omega) ?_|refine W.ldV tblOk rfl rfl rfl hV hpt ?_|(with_reducible first|refine za ?_|refine zb ?_|refine zc ?_)|refine ym zr ?_|refine yn 0 zr ?_|refine yn 1 zr ?_|refine yn 2 zr ?_|refine yn 3 zr ?_|(refine yo zr ?_;intro _)|(refine yp zr ?_;intro _)|refine yq zr ?_|refine ys zr ?_|refine yu zr ?_|refine yv zr ?_|(with_reducible first|refine zd ?_|refine ze ?_|refine zf ?_|refine zg ?_|refine zh ?_|refine zi ?_|refine zj ?_|refine zk ?_|refine zl ?_)|refine zz zr ?_|refine zw (by decide +kernel) ?_|refine zx zr zr zr ?_|refine zy zr zr ?_|(refine W.condP zr ?_ ?_<;>intro _)|refine W.condT zr ?_|refine W.condF zr ?_|(refine W.cond zr ?_ ?_<;>intro _)|(refine W.gs zr zr zr zr ?_ ?_<;>intro _)|(refine W.gsB zr zr zr zr ?_ ?_<;>intro _)|refine W.done zr ?_|refine W.doneN zr ?_
    all_goals first
      | (rw [wN (by omega)];refine W.weak _ _ ?_ ?_ (hnext m2);· exact ⟨rfl,rfl,rfl⟩
         exact List.Sublist.refl _)
      | (exfalso;omega)
      | trace_state
end Go.Proofs.YtoegffiapnnkiaaGreat.Abs
