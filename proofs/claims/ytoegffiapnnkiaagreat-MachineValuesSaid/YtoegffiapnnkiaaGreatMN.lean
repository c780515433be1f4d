/- What a span of a table comes to: the machine's and the document's. No condition but those that each theorem names. -/
import Derived.Test.YtoegffiapnnkiaaGreatML
import Derived.Test.YtoegffiapnnkiaaGreatMG
import Derived.Test.YtoegffiapnnkiaaGreatMK
namespace Go.Proofs.YtoegffiapnnkiaaGreat.Abs
open Go
set_option linter.unusedVariables false
set_option linter.unusedSimpArgs false
set_option maxRecDepth 100000
set_option maxHeartbeats 4000000
theorem row_no {r:Row} (hr:r.rest) {y:Span} (h:y=r.side∨y=r.qty∨y=r.price∨y=r.value):y.no∨y∈r.spans:=by
  unfold Row.rest at hr
  unfold Row.spans
  split at hr
  · rename_i h1;rw [if_pos h1]
    split at hr
    · rename_i h2;rw [if_pos h2]
      rcases h with h|h|h|h<;>subst h<;>simp [hr]
    · rename_i h2;rw [if_neg h2]
      rcases h with h|h|h|h<;>subst h<;>simp [hr]
  · rename_i h1;rw [if_neg h1]
    split at hr
    · rename_i h2;rw [if_pos h2]
      rcases h with h|h|h|h<;>subst h<;>simp [hr]
    · rename_i h2;rw [if_neg h2]
      split at hr
      · rename_i h3;rw [if_pos h3]
        rcases h with h|h|h|h<;>subst h<;>simp [hr]
      · rcases h with h|h|h|h<;>subst h<;>simp [hr]
theorem rowHas_eq {t:Table} (h:checkS t=none) {s:Sl Guard} (hs:s∈t.states.l) {g:Guard} (hg:g∈s.l) {r:Row} (hr:r∈g.rows.l) (x:Span):rowHasR x r=rowHas x r:=by
  have hrest:=((statesAt_rest _ _ _ (check_formed h).1.2 s hs g hg).2 r hr).2.2.2
  have hrun:=(guard_runs h hs hg).2 r hr
  have key:∀y:Span,(y=r.side∨y=r.qty∨y=r.price∨y=r.value)→spanB y x=true→decide (0<x.t)=!spanB x ⟨0,0⟩:=fun y hy e=>by
    have e1:=spanB_eq.1 e
    rcases row_no hrest hy with h0|h0
    · have h1:=h0.1
      have h2:=h0.2
      have ex:spanB x ⟨0,0⟩=true:=spanB_eq.2 ⟨by show x.f=0;omega,by show x.t=0;omega⟩
      rw [ex,decide_eq_false (by omega)];rfl
    · obtain ⟨h1,h2,-⟩:=hrun y h0
      have ex:spanB x ⟨0,0⟩=false:=by
        cases e2:spanB x ⟨0,0⟩ with
        | false=>rfl
        | true=>have h3:x.t=0:=(spanB_eq.1 e2).2;omega
      rw [ex,decide_eq_true (by omega)];rfl
  have k1:=key r.side (.inl rfl)
  have k2:=key r.qty (.inr (.inl rfl))
  have k3:=key r.price (.inr (.inr (.inl rfl)))
  have k4:=key r.value (.inr (.inr (.inr rfl)))
  unfold rowHasR rowHas
  cases e1:spanB r.side x with
  | true=>rw [k1 e1];simp
  | false=>cases e2:spanB r.qty x with
    | true=>rw [k2 e2];simp
    | false=>cases e3:spanB r.price x with
      | true=>rw [k3 e3];simp
      | false=>cases e4:spanB r.value x with
        | true=>rw [k4 e4];simp
        | false=>simp
theorem any_same {α:Type} {l:List α} {f g:α→Bool} (h:∀x∈l,f x=g x):l.any f=l.any g:=by
  induction l with
  | nil=>rfl
  | cons x l ih=>rw [List.any_cons,List.any_cons,h x (by simp),ih fun y hy=>h y (by simp [hy])]
theorem tabHas_eq {t:Table} (h:checkS t=none) (x:Span):tabHasR x t=tabHas x t:=any_same fun s hs=>any_same fun g hg=>by
  unfold guardHasR guardHas
  rw [any_same fun r hr=>rowHas_eq h hs hg hr x]
noncomputable def valF (t:Table) (x:Span) (s:Int) (regs:List Int) (w:Snap):Int×Int×Int :=
  if askE t s regs.length w=0 then (if tabHas x t=true then (runF t regs w x.t 5000 x.f [] 0).getD (0,0,0) else (0,0,1)) else (0,0,askE t s regs.length w)
theorem askE_0 {t:Table} {s:Int} {n:Nat} {w:Snap} (h:askE t s n w=0):checkS t=none∧ModeOk t s n∧w.Good:=by
  unfold askE at h
  split at h
  · rename_i h1
    split at h
    · rename_i h2
      unfold snapE at h
      split at h
      · exact ⟨checkS_ne h1,h2,‹_›⟩
      · cases h
    · cases h
  · rename_i h1
    exact absurd h h1
attribute [local irreducible] W Cl Bd
variable {g:Cg} {V:K→Option (List AV)}
theorem machValue_c (A:AskG g) (O:OprG g) (K1:StkG g) (hp:Plain g 74=true) {t:Table} (ht:t.Ok V) (hc:Cl Tryz.prog g V 59 [t.v] [] fun o _=>o=.ret (.int .i64 ((checkS t).getD 0)))
    {regs:Sl Int} (hr:regs.In V false 1 (AV.int .i64)) (hrn:∀n∈regs.l,In64 n) {w:Snap} (hw:w.Ok) (x:Span) (s:Int) :
    Cl Tryz.prog g V 21 [t.v,x.v,.agg [.int .i64 s,regs.v],w.v] [] fun o _=>o=.ret (resV (valF t x s regs.l w)):=by
  refine Cl.enter A.value Tryz.func21 rfl ?_
  have hask:=asked_c A hc s regs w
  have h0:=askE_0 (t:=t) (s:=s) (n:=regs.l.length) (w:=w)
  unfold valF
  generalize hE:askE t s regs.l.length w=e at hask h0 ⊢
  by_cases he:e=0
  rotate_left
  · rw [if_neg he]
    clear h0
    repeat first|refine W.callP rfl rfl rfl rfl hask ?_|(with_reducible first|refine za ?_|refine zb ?_|refine zc ?_)|refine ym zr ?_|refine yn 0 zr ?_|refine yn 1 zr ?_|refine yn 2 zr ?_|refine yn 3 zr ?_|(refine yo zr ?_;intro _)|(refine yp zr ?_;intro _)|refine yq zr ?_|refine ys zr ?_|refine yu zr ?_|refine yv zr ?_|(with_reducible first|refine zd ?_|refine ze ?_|refine zf ?_|refine zg ?_|refine zh ?_|refine zi ?_|refine zj ?_|refine zk ?_|refine zl ?_)|refine zz zr ?_|refine zw (by decide +kernel) ?_|refine zx zr zr zr ?_|refine zy zr zr ?_|refine W.condT zr ?_|refine W.condF zr ?_
    refine W.condP rfl (fun _=>?_) (fun h=>absurd he h)
    repeat' first|(with_reducible first|refine za ?_|refine zb ?_|refine zc ?_)|refine ym zr ?_|refine yn 0 zr ?_|refine yn 1 zr ?_|refine yn 2 zr ?_|refine yn 3 zr ?_|(refine yo zr ?_;intro _)|(refine yp zr ?_;intro _)|refine yq zr ?_|refine ys zr ?_|refine yu zr ?_|refine yv zr ?_|(with_reducible first|refine zd ?_|refine ze ?_|refine zf ?_|refine zg ?_|refine zh ?_|refine zi ?_|refine zj ?_|refine zk ?_|refine zl ?_)|refine zz zr ?_|refine zw (by decide +kernel) ?_|refine zx zr zr zr ?_|refine zy zr zr ?_|(refine W.condP zr ?_ ?_<;>intro _)|refine W.condT zr ?_|refine W.condF zr ?_|(refine W.cond zr ?_ ?_<;>intro _)|(refine W.gs zr zr zr zr ?_ ?_<;>intro _)|(refine W.gsB zr zr zr zr ?_ ?_<;>intro _)|refine W.done zr ?_|refine W.doneN zr ?_
    rfl
  obtain ⟨hck,hmo,-⟩:=h0 he
  subst he
  rw [if_pos rfl]
  clear h0 hE
  have hlen:=ht.states.1
  unfold Len at hlen
  have hR1:∀b,tabHas x t=b→b=(false||t.states.l.any fun s=>s.l.any (guardHas x)):=fun b h=>by rw [Bool.false_or];exact h.symm
  generalize hR:tabHas x t=R at hR1 ⊢
  have hRi:=hR1 R rfl
  clear hR1
  repeat first|refine W.callP rfl rfl rfl rfl hask ?_|(with_reducible first|refine za ?_|refine zb ?_|refine zc ?_)|refine ym zr ?_|refine yn 0 zr ?_|refine yn 1 zr ?_|refine yn 2 zr ?_|refine yn 3 zr ?_|(refine yo zr ?_;intro _)|(refine yp zr ?_;intro _)|refine yq zr ?_|refine ys zr ?_|refine yu zr ?_|refine yv zr ?_|(with_reducible first|refine zd ?_|refine ze ?_|refine zf ?_|refine zg ?_|refine zh ?_|refine zi ?_|refine zj ?_|refine zk ?_|refine zl ?_)|refine zz zr ?_|refine zw (by decide +kernel) ?_|refine zx zr zr zr ?_|refine zy zr zr ?_|refine W.condT zr ?_|refine W.condF zr ?_
  rename_i it ix im iw
  refine W.loopR (α:={ q:Nat×Bool // q.1≤t.states.l.length∧R=(q.2||(t.states.l.drop q.1).any fun s=>s.l.any (guardHas x)) }) (fun q=>t.states.l.length-q.1.1) (fun q=>[(4,.ptr (some (it,0))),(5,.ptr (some (ix,0))),(6,.ptr (some (im,0))),(7,.ptr (some (iw,0))),(12,.bool q.1.2),(27,t.states.v),(28,.int .i64 (t.states.l.length:Int)),(29,.int .i64 (q.1.1:Int))])
    (fun _=>(iw,.cells [.int .i64 w.bid,.int .i64 w.ask,.int .i64 w.last,.int .i64 w.volume,.int .i64 w.now,.int .i64 w.open_] 55 6 true)::(im,.cells [.int .i64 s,regs.v] 30 2 true)::(ix,.cells [.int .i64 x.f,.int .i64 x.t] 53 2 true)::(it,.cells [.str t.name,t.regs.v,.int .i64 t.slots,t.consts.v,t.code.v,t.states.v] 26 6 true)::[]) ⟨(0,false),Nat.zero_le _,hRi⟩ ⟨rfl,rfl,rfl,rfl,rfl,rfl,rfl,rfl⟩ (List.Sublist.refl _) ?_
  clear hRi
  rintro ⟨⟨i,b⟩,hi,hinv⟩ ih
  simp only at ih hi hinv ⊢
  by_cases hlt:i<t.states.l.length
  rotate_left
  · clear ih
    rw [any_done (by omega),Bool.or_false] at hinv
    subst hinv
    repeat first|(with_reducible first|refine za ?_|refine zb ?_|refine zc ?_)|refine ym zr ?_|refine yn 0 zr ?_|refine yn 1 zr ?_|refine yn 2 zr ?_|refine yn 3 zr ?_|(refine yo zr ?_;intro _)|(refine yp zr ?_;intro _)|refine yq zr ?_|refine ys zr ?_|refine yu zr ?_|refine yv zr ?_|(with_reducible first|refine zd ?_|refine ze ?_|refine zf ?_|refine zg ?_|refine zh ?_|refine zi ?_|refine zj ?_|refine zk ?_|refine zl ?_)|refine zz zr ?_|refine zw (by decide +kernel) ?_|refine zx zr zr zr ?_|refine zy zr zr ?_|refine W.condT zr ?_|refine W.condF zr ?_
    refine W.condP rfl (fun h=>absurd h (by omega)) (fun _=>?_)
    cases R with
    | false =>
      repeat' first|(with_reducible first|refine za ?_|refine zb ?_|refine zc ?_)|refine ym zr ?_|refine yn 0 zr ?_|refine yn 1 zr ?_|refine yn 2 zr ?_|refine yn 3 zr ?_|(refine yo zr ?_;intro _)|(refine yp zr ?_;intro _)|refine yq zr ?_|refine ys zr ?_|refine yu zr ?_|refine yv zr ?_|(with_reducible first|refine zd ?_|refine ze ?_|refine zf ?_|refine zg ?_|refine zh ?_|refine zi ?_|refine zj ?_|refine zk ?_|refine zl ?_)|refine zz zr ?_|refine zw (by decide +kernel) ?_|refine zx zr zr zr ?_|refine zy zr zr ?_|(refine W.condP zr ?_ ?_<;>intro _)|refine W.condT zr ?_|refine W.condF zr ?_|(refine W.cond zr ?_ ?_<;>intro _)|(refine W.gs zr zr zr zr ?_ ?_<;>intro _)|(refine W.gsB zr zr zr zr ?_ ?_<;>intro _)|refine W.done zr ?_|refine W.doneN zr ?_
      rfl
    | true =>
    obtain ⟨H,q,hs,hq,-⟩:=runs_to hck (has_runs hck hR) regs.l w
    have hsr:=has_runs hck hR
    have hcode:=(check_code hck).1
    rw [if_pos rfl,hq]
    repeat first|(with_reducible first|refine za ?_|refine zb ?_|refine zc ?_)|refine ym zr ?_|refine yn 0 zr ?_|refine yn 1 zr ?_|refine yn 2 zr ?_|refine yn 3 zr ?_|(refine yo zr ?_;intro _)|(refine yp zr ?_;intro _)|refine yq zr ?_|refine ys zr ?_|refine yu zr ?_|refine yv zr ?_|(with_reducible first|refine zd ?_|refine ze ?_|refine zf ?_|refine zg ?_|refine zh ?_|refine zi ?_|refine zj ?_|refine zk ?_|refine zl ?_)|refine zz zr ?_|refine zw (by decide +kernel) ?_|refine zx zr zr zr ?_|refine zy zr zr ?_|refine W.condT zr ?_|refine W.condF zr ?_
    refine W.know fun hva hnd=>?_
    repeat' first|refine W.callLP rfl rfl rfl rfl (run_c O K1 hp (Table.okM (withV_le hva) ht) (kt:=it) (rest:=[]) (withV_at hnd (bk:=.cells [.str t.name,t.regs.v,.int .i64 t.slots,t.consts.v,t.code.v,t.states.v] 26 6 true) (by simp)) (In_mono (withV_le hva) hr) hrn hmo.2.2 hw hsr.1 hsr.2.1 hsr.2.2.1 hcode hs (by have:=hsr.1;have:=hsr.2.2.1;omega) hq) ?_|(with_reducible first|refine za ?_|refine zb ?_|refine zc ?_)|refine ym zr ?_|refine yn 0 zr ?_|refine yn 1 zr ?_|refine yn 2 zr ?_|refine yn 3 zr ?_|(refine yo zr ?_;intro _)|(refine yp zr ?_;intro _)|refine yq zr ?_|refine ys zr ?_|refine yu zr ?_|refine yv zr ?_|(with_reducible first|refine zd ?_|refine ze ?_|refine zf ?_|refine zg ?_|refine zh ?_|refine zi ?_|refine zj ?_|refine zk ?_|refine zl ?_)|refine zz zr ?_|refine zw (by decide +kernel) ?_|refine zx zr zr zr ?_|refine zy zr zr ?_|(refine W.condP zr ?_ ?_<;>intro _)|refine W.condT zr ?_|refine W.condF zr ?_|(refine W.cond zr ?_ ?_<;>intro _)|(refine W.gs zr zr zr zr ?_ ?_<;>intro _)|(refine W.gsB zr zr zr zr ?_ ?_<;>intro _)|refine W.done zr ?_|refine W.doneN zr ?_
    rfl
  have hi0:(0:Int)≤(i:Int):=by omega
  have hi1:(i:Int)<(t.states.l.length:Int):=by omega
  have ewi:IntKind.i64.wrap ((i:Int)+1)=((i+1:Nat):Int):=by rw [w64 (by omega) (by omega)];omega
  obtain ⟨jn,o,cs,ha,hV,hpt⟩:=Sl.In.get ht.states.2.1 hlt
  have hl:=ht.states.2.2 _ (List.getElem_mem hlt)
  rw [any_drop hlt] at hinv
  have hnext:=fun b' h=>ih ⟨(i+1,b'),hlt,h⟩ (by show t.states.l.length-(i+1)<t.states.l.length-i;omega)
  simp only at hnext
  clear ih
  generalize t.states.l[i]=l at hpt hl hinv
  generalize hS:((t.states.l.drop (i+1)).any fun s=>s.l.any (guardHas x))=S at hinv hnext
  have hll:=hl.1
  unfold Len at hll
  repeat first|(with_reducible first|refine za ?_|refine zb ?_|refine zc ?_)|refine ym zr ?_|refine yn 0 zr ?_|refine yn 1 zr ?_|refine yn 2 zr ?_|refine yn 3 zr ?_|(refine yo zr ?_;intro _)|(refine yp zr ?_;intro _)|refine yq zr ?_|refine ys zr ?_|refine yu zr ?_|refine yv zr ?_|(with_reducible first|refine zd ?_|refine ze ?_|refine zf ?_|refine zg ?_|refine zh ?_|refine zi ?_|refine zj ?_|refine zk ?_|refine zl ?_)|refine zz zr ?_|refine zw (by decide +kernel) ?_|refine zx zr zr zr ?_|refine zy zr zr ?_|refine W.condT zr ?_|refine W.condF zr ?_
  refine W.condP rfl (fun _=>?_) (fun h=>absurd hi1 h)
  repeat first|refine W.ia tblOk rfl rfl rfl rfl rfl rfl ha hi0 hi1 ?_|refine W.ldV tblOk rfl rfl rfl hV hpt ?_|(with_reducible first|refine za ?_|refine zb ?_|refine zc ?_)|refine ym zr ?_|refine yn 0 zr ?_|refine yn 1 zr ?_|refine yn 2 zr ?_|refine yn 3 zr ?_|(refine yo zr ?_;intro _)|(refine yp zr ?_;intro _)|refine yq zr ?_|refine ys zr ?_|refine yu zr ?_|refine yv zr ?_|(with_reducible first|refine zd ?_|refine ze ?_|refine zf ?_|refine zg ?_|refine zh ?_|refine zi ?_|refine zj ?_|refine zk ?_|refine zl ?_)|refine zz zr ?_|refine zw (by decide +kernel) ?_|refine zx zr zr zr ?_|refine zy zr zr ?_|refine W.condT zr ?_|refine W.condF zr ?_
  refine W.loopR (α:={ q:Nat×Bool // q.1≤l.l.length∧R=(q.2||((l.l.drop q.1).any (guardHas x)||S)) }) (fun q=>l.l.length-q.1.1) (fun q=>[(4,.ptr (some (it,0))),(5,.ptr (some (ix,0))),(6,.ptr (some (im,0))),(7,.ptr (some (iw,0))),(12,.bool q.1.2),(27,t.states.v),(28,.int .i64 (t.states.l.length:Int)),(29,.int .i64 (i:Int)),(33,l.v),(34,.int .i64 (l.l.length:Int)),(35,.int .i64 (q.1.1:Int))])
    (fun _=>_::_::_::_::[]) ⟨(0,b),Nat.zero_le _,hinv⟩ ⟨rfl,rfl,rfl,rfl,rfl,rfl,rfl,rfl,rfl,rfl,rfl⟩ (List.Sublist.refl _) ?_
  clear hinv
  rintro ⟨⟨k,b⟩,hk,hinv⟩ ih
  simp only at ih hk hinv ⊢
  by_cases hlt2:k<l.l.length
  rotate_left
  · clear ih
    rw [any_done (by omega),Bool.false_or] at hinv
    repeat first|(with_reducible first|refine za ?_|refine zb ?_|refine zc ?_)|refine ym zr ?_|refine yn 0 zr ?_|refine yn 1 zr ?_|refine yn 2 zr ?_|refine yn 3 zr ?_|(refine yo zr ?_;intro _)|(refine yp zr ?_;intro _)|refine yq zr ?_|refine ys zr ?_|refine yu zr ?_|refine yv zr ?_|(with_reducible first|refine zd ?_|refine ze ?_|refine zf ?_|refine zg ?_|refine zh ?_|refine zi ?_|refine zj ?_|refine zk ?_|refine zl ?_)|refine zz zr ?_|refine zw (by decide +kernel) ?_|refine zx zr zr zr ?_|refine zy zr zr ?_|refine W.condT zr ?_|refine W.condF zr ?_
    refine W.condP rfl (fun h=>absurd h (by omega)) (fun _=>?_)
    repeat first|(with_reducible first|refine za ?_|refine zb ?_|refine zc ?_)|refine ym zr ?_|refine yn 0 zr ?_|refine yn 1 zr ?_|refine yn 2 zr ?_|refine yn 3 zr ?_|(refine yo zr ?_;intro _)|(refine yp zr ?_;intro _)|refine yq zr ?_|refine ys zr ?_|refine yu zr ?_|refine yv zr ?_|(with_reducible first|refine zd ?_|refine ze ?_|refine zf ?_|refine zg ?_|refine zh ?_|refine zi ?_|refine zj ?_|refine zk ?_|refine zl ?_)|refine zz zr ?_|refine zw (by decide +kernel) ?_|refine zx zr zr zr ?_|refine zy zr zr ?_|refine W.condT zr ?_|refine W.condF zr ?_
    exact W.wk (hnext b hinv) ⟨rfl,rfl,rfl,rfl,rfl,rfl,rfl,congrArg (fun z=>some (AV.int .i64 z)) ewi⟩ (List.Sublist.refl _)
  clear hnext
  have hk0:(0:Int)≤(k:Int):=by omega
  have hk1:(k:Int)<(l.l.length:Int):=by omega
  have ewk:IntKind.i64.wrap ((k:Int)+1)=((k+1:Nat):Int):=by rw [w64 (by omega) (by omega)];omega
  obtain ⟨jn2,o2,cs2,ha2,hV2,hpt2⟩:=Sl.In.get hl.2.1 hlt2
  have hg:=hl.2.2 _ (List.getElem_mem hlt2)
  rw [any_drop hlt2] at hinv
  have hnext:=fun b' h=>ih ⟨(k+1,b'),hlt2,h⟩ (by show l.l.length-(k+1)<l.l.length-k;omega)
  simp only at hnext
  clear ih
  generalize l.l[k]=y at hpt2 hg hinv
  generalize (l.l.drop (k+1)).any (guardHas x)=S2 at hinv hnext
  unfold guardHas at hinv
  have hrl:=hg.2.2.2.1
  unfold Len at hrl
  repeat first|(with_reducible first|refine za ?_|refine zb ?_|refine zc ?_)|refine ym zr ?_|refine yn 0 zr ?_|refine yn 1 zr ?_|refine yn 2 zr ?_|refine yn 3 zr ?_|(refine yo zr ?_;intro _)|(refine yp zr ?_;intro _)|refine yq zr ?_|refine ys zr ?_|refine yu zr ?_|refine yv zr ?_|(with_reducible first|refine zd ?_|refine ze ?_|refine zf ?_|refine zg ?_|refine zh ?_|refine zi ?_|refine zj ?_|refine zk ?_|refine zl ?_)|refine zz zr ?_|refine zw (by decide +kernel) ?_|refine zx zr zr zr ?_|refine zy zr zr ?_|refine W.condT zr ?_|refine W.condF zr ?_
  refine W.condP rfl (fun _=>?_) (fun h=>absurd hk1 h)
  cases b with
  | true =>
    have hinv:R=(true||(((y.rows.l.any (rowHas x))||S2)||S)):=by rw [hinv];simp only [Bool.or_assoc,Bool.true_or,Bool.false_or]
    repeat first|refine W.ia tblOk rfl rfl rfl rfl rfl rfl ha2 hk0 hk1 ?_|refine W.ldV tblOk rfl rfl rfl hV2 hpt2 ?_|refine W.eqS tblOk rfl rfl rfl rfl rfl (eqSpan _ _ _ _) ?_|(with_reducible first|refine za ?_|refine zb ?_|refine zc ?_)|refine ym zr ?_|refine yn 0 zr ?_|refine yn 1 zr ?_|refine yn 2 zr ?_|refine yn 3 zr ?_|(refine yo zr ?_;intro _)|(refine yp zr ?_;intro _)|refine yq zr ?_|refine ys zr ?_|refine yu zr ?_|refine yv zr ?_|(with_reducible first|refine zd ?_|refine ze ?_|refine zf ?_|refine zg ?_|refine zh ?_|refine zi ?_|refine zj ?_|refine zk ?_|refine zl ?_)|refine zz zr ?_|refine zw (by decide +kernel) ?_|refine zx zr zr zr ?_|refine zy zr zr ?_|refine W.condT zr ?_|refine W.condF zr ?_
    rename_i ig
    refine W.loopR (α:={ q:Nat×Bool // q.1≤y.rows.l.length∧R=(q.2||(((y.rows.l.drop q.1).any (rowHas x)||S2)||S)) }) (fun q=>y.rows.l.length-q.1.1) (fun q=>[(4,.ptr (some (it,0))),(5,.ptr (some (ix,0))),(6,.ptr (some (im,0))),(7,.ptr (some (iw,0))),(12,.bool q.1.2),(27,t.states.v),(28,.int .i64 (t.states.l.length:Int)),(29,.int .i64 (i:Int)),(33,l.v),(34,.int .i64 (l.l.length:Int)),(35,.int .i64 (k:Int)),(47,y.rows.v),(48,.int .i64 (y.rows.l.length:Int)),(49,.int .i64 (q.1.1:Int))])
      (fun _=>_::_::_::_::[]) ⟨(0,true),Nat.zero_le _,hinv⟩ ⟨rfl,rfl,rfl,rfl,rfl,rfl,rfl,rfl,rfl,rfl,rfl,rfl,rfl,rfl⟩ (.cons _ (List.Sublist.refl _)) ?_
    clear hinv
    rintro ⟨⟨j,c⟩,hj,hinv⟩ ih
    simp only at ih hj hinv ⊢
    by_cases hlt3:j<y.rows.l.length
    rotate_left
    · clear ih
      rw [any_done (by omega),Bool.false_or] at hinv
      repeat first|(with_reducible first|refine za ?_|refine zb ?_|refine zc ?_)|refine ym zr ?_|refine yn 0 zr ?_|refine yn 1 zr ?_|refine yn 2 zr ?_|refine yn 3 zr ?_|(refine yo zr ?_;intro _)|(refine yp zr ?_;intro _)|refine yq zr ?_|refine ys zr ?_|refine yu zr ?_|refine yv zr ?_|(with_reducible first|refine zd ?_|refine ze ?_|refine zf ?_|refine zg ?_|refine zh ?_|refine zi ?_|refine zj ?_|refine zk ?_|refine zl ?_)|refine zz zr ?_|refine zw (by decide +kernel) ?_|refine zx zr zr zr ?_|refine zy zr zr ?_|refine W.condT zr ?_|refine W.condF zr ?_
      refine W.condP rfl (fun h=>absurd h (by omega)) (fun _=>?_)
      repeat first|(with_reducible first|refine za ?_|refine zb ?_|refine zc ?_)|refine ym zr ?_|refine yn 0 zr ?_|refine yn 1 zr ?_|refine yn 2 zr ?_|refine yn 3 zr ?_|(refine yo zr ?_;intro _)|(refine yp zr ?_;intro _)|refine yq zr ?_|refine ys zr ?_|refine yu zr ?_|refine yv zr ?_|(with_reducible first|refine zd ?_|refine ze ?_|refine zf ?_|refine zg ?_|refine zh ?_|refine zi ?_|refine zj ?_|refine zk ?_|refine zl ?_)|refine zz zr ?_|refine zw (by decide +kernel) ?_|refine zx zr zr zr ?_|refine zy zr zr ?_|refine W.condT zr ?_|refine W.condF zr ?_
      exact W.wk (hnext c hinv) ⟨rfl,rfl,rfl,rfl,rfl,rfl,rfl,rfl,rfl,rfl,congrArg (fun z=>some (AV.int .i64 z)) ewk⟩ (List.Sublist.refl _)
    clear hnext
    have hj0:(0:Int)≤(j:Int):=by omega
    have hj1:(j:Int)<(y.rows.l.length:Int):=by omega
    have ewj:IntKind.i64.wrap ((j:Int)+1)=((j+1:Nat):Int):=by rw [w64 (by omega) (by omega)];omega
    obtain ⟨jn3,o3,cs3,ha3,hV3,hpt3⟩:=Sl.In.get hg.2.2.2.2.1 hlt3
    rw [any_drop hlt3] at hinv
    have hnext:=fun c' h=>ih ⟨(j+1,c'),hlt3,h⟩ (by show y.rows.l.length-(j+1)<y.rows.l.length-j;omega)
    simp only at hnext
    clear ih
    generalize y.rows.l[j]=r at hpt3 hinv
    generalize (y.rows.l.drop (j+1)).any (rowHas x)=S3 at hinv hnext
    repeat first|(with_reducible first|refine za ?_|refine zb ?_|refine zc ?_)|refine ym zr ?_|refine yn 0 zr ?_|refine yn 1 zr ?_|refine yn 2 zr ?_|refine yn 3 zr ?_|(refine yo zr ?_;intro _)|(refine yp zr ?_;intro _)|refine yq zr ?_|refine ys zr ?_|refine yu zr ?_|refine yv zr ?_|(with_reducible first|refine zd ?_|refine ze ?_|refine zf ?_|refine zg ?_|refine zh ?_|refine zi ?_|refine zj ?_|refine zk ?_|refine zl ?_)|refine zz zr ?_|refine zw (by decide +kernel) ?_|refine zx zr zr zr ?_|refine zy zr zr ?_|refine W.condT zr ?_|refine W.condF zr ?_
    refine W.condP rfl (fun _=>?_) (fun h=>absurd hj1 h)
    unfold rowHas at hinv
    clear ht hl hg hr hrn hmo hck hask hR
    cases c with
    | true =>
      repeat first|refine W.ia tblOk rfl rfl rfl rfl rfl rfl ha3 hj0 hj1 ?_|refine W.ldV tblOk rfl rfl rfl hV3 hpt3 ?_|(with_reducible first|refine za ?_|refine zb ?_|refine zc ?_)|refine ym zr ?_|refine yn 0 zr ?_|refine yn 1 zr ?_|refine yn 2 zr ?_|refine yn 3 zr ?_|(refine yo zr ?_;intro _)|(refine yp zr ?_;intro _)|refine yq zr ?_|refine ys zr ?_|refine yu zr ?_|refine yv zr ?_|(with_reducible first|refine zd ?_|refine ze ?_|refine zf ?_|refine zg ?_|refine zh ?_|refine zi ?_|refine zj ?_|refine zk ?_|refine zl ?_)|refine zz zr ?_|refine zw (by decide +kernel) ?_|refine zx zr zr zr ?_|refine zy zr zr ?_|refine W.condT zr ?_|refine W.condF zr ?_
      exact W.wk (hnext true (by rw [hinv,Bool.true_or,Bool.true_or])) ⟨rfl,rfl,rfl,rfl,rfl,rfl,rfl,rfl,rfl,rfl,rfl,rfl,rfl,congrArg (fun z=>some (AV.int .i64 z)) ewj⟩ (.cons _ (List.Sublist.refl _))
    | false =>
      repeat' first|refine W.ia tblOk rfl rfl rfl rfl rfl rfl ha3 hj0 hj1 ?_|refine W.ldV tblOk rfl rfl rfl hV3 hpt3 ?_|refine W.eqS tblOk rfl rfl rfl rfl rfl (eqSpan _ _ _ _) ?_|(with_reducible first|refine za ?_|refine zb ?_|refine zc ?_)|refine ym zr ?_|refine yn 0 zr ?_|refine yn 1 zr ?_|refine yn 2 zr ?_|refine yn 3 zr ?_|(refine yo zr ?_;intro _)|(refine yp zr ?_;intro _)|refine yq zr ?_|refine ys zr ?_|refine yu zr ?_|refine yv zr ?_|(with_reducible first|refine zd ?_|refine ze ?_|refine zf ?_|refine zg ?_|refine zh ?_|refine zi ?_|refine zj ?_|refine zk ?_|refine zl ?_)|refine zz zr ?_|refine zw (by decide +kernel) ?_|refine zx zr zr zr ?_|refine zy zr zr ?_|(refine W.condP zr ?_ ?_<;>intro _)|refine W.condT zr ?_|refine W.condF zr ?_|(refine W.cond zr ?_ ?_<;>intro _)|(refine W.gs zr zr zr zr ?_ ?_<;>intro _)|(refine W.gsB zr zr zr zr ?_ ?_<;>intro _)|refine W.done zr ?_|refine W.doneN zr ?_
      all_goals (refine W.wk (hnext _ ?_) ⟨rfl,rfl,rfl,rfl,rfl,rfl,rfl,rfl,rfl,rfl,rfl,rfl,rfl,congrArg (fun z=>some (AV.int .i64 z)) ewj⟩ (.cons _ (List.Sublist.refl _));clear hnext;simp only [spanB] at hinv;rw [hinv];simp only [*,decide_true,decide_false,Bool.true_and,Bool.false_and,Bool.or_false,Bool.false_or,Bool.or_true,Bool.true_or,Bool.or_assoc])
  | false =>
    have hinv:R=((spanB y.when x)||(((y.rows.l.any (rowHas x))||S2)||S)):=by rw [hinv];simp only [Bool.or_assoc,Bool.true_or,Bool.false_or]
    repeat first|refine W.ia tblOk rfl rfl rfl rfl rfl rfl ha2 hk0 hk1 ?_|refine W.ldV tblOk rfl rfl rfl hV2 hpt2 ?_|refine W.eqS tblOk rfl rfl rfl rfl rfl (eqSpan _ _ _ _) ?_|(with_reducible first|refine za ?_|refine zb ?_|refine zc ?_)|refine ym zr ?_|refine yn 0 zr ?_|refine yn 1 zr ?_|refine yn 2 zr ?_|refine yn 3 zr ?_|(refine yo zr ?_;intro _)|(refine yp zr ?_;intro _)|refine yq zr ?_|refine ys zr ?_|refine yu zr ?_|refine yv zr ?_|(with_reducible first|refine zd ?_|refine ze ?_|refine zf ?_|refine zg ?_|refine zh ?_|refine zi ?_|refine zj ?_|refine zk ?_|refine zl ?_)|refine zz zr ?_|refine zw (by decide +kernel) ?_|refine zx zr zr zr ?_|refine zy zr zr ?_|refine W.condT zr ?_|refine W.condF zr ?_
    rename_i ig
    refine W.loopR (α:={ q:Nat×Bool // q.1≤y.rows.l.length∧R=(q.2||(((y.rows.l.drop q.1).any (rowHas x)||S2)||S)) }) (fun q=>y.rows.l.length-q.1.1) (fun q=>[(4,.ptr (some (it,0))),(5,.ptr (some (ix,0))),(6,.ptr (some (im,0))),(7,.ptr (some (iw,0))),(12,.bool q.1.2),(27,t.states.v),(28,.int .i64 (t.states.l.length:Int)),(29,.int .i64 (i:Int)),(33,l.v),(34,.int .i64 (l.l.length:Int)),(35,.int .i64 (k:Int)),(47,y.rows.v),(48,.int .i64 (y.rows.l.length:Int)),(49,.int .i64 (q.1.1:Int))])
      (fun _=>_::_::_::_::[]) ⟨(0,(spanB y.when x)),Nat.zero_le _,hinv⟩ ⟨rfl,rfl,rfl,rfl,rfl,rfl,rfl,rfl,rfl,rfl,rfl,rfl,rfl,rfl⟩ (.cons _ (List.Sublist.refl _)) ?_
    clear hinv
    rintro ⟨⟨j,c⟩,hj,hinv⟩ ih
    simp only at ih hj hinv ⊢
    by_cases hlt3:j<y.rows.l.length
    rotate_left
    · clear ih
      rw [any_done (by omega),Bool.false_or] at hinv
      repeat first|(with_reducible first|refine za ?_|refine zb ?_|refine zc ?_)|refine ym zr ?_|refine yn 0 zr ?_|refine yn 1 zr ?_|refine yn 2 zr ?_|refine yn 3 zr ?_|(refine yo zr ?_;intro _)|(refine yp zr ?_;intro _)|refine yq zr ?_|refine ys zr ?_|refine yu zr ?_|refine yv zr ?_|(with_reducible first|refine zd ?_|refine ze ?_|refine zf ?_|refine zg ?_|refine zh ?_|refine zi ?_|refine zj ?_|refine zk ?_|refine zl ?_)|refine zz zr ?_|refine zw (by decide +kernel) ?_|refine zx zr zr zr ?_|refine zy zr zr ?_|refine W.condT zr ?_|refine W.condF zr ?_
      refine W.condP rfl (fun h=>absurd h (by omega)) (fun _=>?_)
      repeat first|(with_reducible first|refine za ?_|refine zb ?_|refine zc ?_)|refine ym zr ?_|refine yn 0 zr ?_|refine yn 1 zr ?_|refine yn 2 zr ?_|refine yn 3 zr ?_|(refine yo zr ?_;intro _)|(refine yp zr ?_;intro _)|refine yq zr ?_|refine ys zr ?_|refine yu zr ?_|refine yv zr ?_|(with_reducible first|refine zd ?_|refine ze ?_|refine zf ?_|refine zg ?_|refine zh ?_|refine zi ?_|refine zj ?_|refine zk ?_|refine zl ?_)|refine zz zr ?_|refine zw (by decide +kernel) ?_|refine zx zr zr zr ?_|refine zy zr zr ?_|refine W.condT zr ?_|refine W.condF zr ?_
      exact W.wk (hnext c hinv) ⟨rfl,rfl,rfl,rfl,rfl,rfl,rfl,rfl,rfl,rfl,congrArg (fun z=>some (AV.int .i64 z)) ewk⟩ (List.Sublist.refl _)
    clear hnext
    have hj0:(0:Int)≤(j:Int):=by omega
    have hj1:(j:Int)<(y.rows.l.length:Int):=by omega
    have ewj:IntKind.i64.wrap ((j:Int)+1)=((j+1:Nat):Int):=by rw [w64 (by omega) (by omega)];omega
    obtain ⟨jn3,o3,cs3,ha3,hV3,hpt3⟩:=Sl.In.get hg.2.2.2.2.1 hlt3
    rw [any_drop hlt3] at hinv
    have hnext:=fun c' h=>ih ⟨(j+1,c'),hlt3,h⟩ (by show y.rows.l.length-(j+1)<y.rows.l.length-j;omega)
    simp only at hnext
    clear ih
    generalize y.rows.l[j]=r at hpt3 hinv
    generalize (y.rows.l.drop (j+1)).any (rowHas x)=S3 at hinv hnext
    repeat first|(with_reducible first|refine za ?_|refine zb ?_|refine zc ?_)|refine ym zr ?_|refine yn 0 zr ?_|refine yn 1 zr ?_|refine yn 2 zr ?_|refine yn 3 zr ?_|(refine yo zr ?_;intro _)|(refine yp zr ?_;intro _)|refine yq zr ?_|refine ys zr ?_|refine yu zr ?_|refine yv zr ?_|(with_reducible first|refine zd ?_|refine ze ?_|refine zf ?_|refine zg ?_|refine zh ?_|refine zi ?_|refine zj ?_|refine zk ?_|refine zl ?_)|refine zz zr ?_|refine zw (by decide +kernel) ?_|refine zx zr zr zr ?_|refine zy zr zr ?_|refine W.condT zr ?_|refine W.condF zr ?_
    refine W.condP rfl (fun _=>?_) (fun h=>absurd hj1 h)
    unfold rowHas at hinv
    clear ht hl hg hr hrn hmo hck hask hR
    cases c with
    | true =>
      repeat first|refine W.ia tblOk rfl rfl rfl rfl rfl rfl ha3 hj0 hj1 ?_|refine W.ldV tblOk rfl rfl rfl hV3 hpt3 ?_|(with_reducible first|refine za ?_|refine zb ?_|refine zc ?_)|refine ym zr ?_|refine yn 0 zr ?_|refine yn 1 zr ?_|refine yn 2 zr ?_|refine yn 3 zr ?_|(refine yo zr ?_;intro _)|(refine yp zr ?_;intro _)|refine yq zr ?_|refine ys zr ?_|refine yu zr ?_|refine yv zr ?_|(with_reducible first|refine zd ?_|refine ze ?_|refine zf ?_|refine zg ?_|refine zh ?_|refine zi ?_|refine zj ?_|refine zk ?_|refine zl ?_)|refine zz zr ?_|refine zw (by decide +kernel) ?_|refine zx zr zr zr ?_|refine zy zr zr ?_|refine W.condT zr ?_|refine W.condF zr ?_
      exact W.wk (hnext true (by rw [hinv,Bool.true_or,Bool.true_or])) ⟨rfl,rfl,rfl,rfl,rfl,rfl,rfl,rfl,rfl,rfl,rfl,rfl,rfl,congrArg (fun z=>some (AV.int .i64 z)) ewj⟩ (.cons _ (List.Sublist.refl _))
    | false =>
      repeat' first|refine W.ia tblOk rfl rfl rfl rfl rfl rfl ha3 hj0 hj1 ?_|refine W.ldV tblOk rfl rfl rfl hV3 hpt3 ?_|refine W.eqS tblOk rfl rfl rfl rfl rfl (eqSpan _ _ _ _) ?_|(with_reducible first|refine za ?_|refine zb ?_|refine zc ?_)|refine ym zr ?_|refine yn 0 zr ?_|refine yn 1 zr ?_|refine yn 2 zr ?_|refine yn 3 zr ?_|(refine yo zr ?_;intro _)|(refine yp zr ?_;intro _)|refine yq zr ?_|refine ys zr ?_|refine yu zr ?_|refine yv zr ?_|(with_reducible first|refine zd ?_|refine ze ?_|refine zf ?_|refine zg ?_|refine zh ?_|refine zi ?_|refine zj ?_|refine zk ?_|refine zl ?_)|refine zz zr ?_|refine zw (by decide +kernel) ?_|refine zx zr zr zr ?_|refine zy zr zr ?_|(refine W.condP zr ?_ ?_<;>intro _)|refine W.condT zr ?_|refine W.condF zr ?_|(refine W.cond zr ?_ ?_<;>intro _)|(refine W.gs zr zr zr zr ?_ ?_<;>intro _)|(refine W.gsB zr zr zr zr ?_ ?_<;>intro _)|refine W.done zr ?_|refine W.doneN zr ?_
      all_goals (refine W.wk (hnext _ ?_) ⟨rfl,rfl,rfl,rfl,rfl,rfl,rfl,rfl,rfl,rfl,rfl,rfl,rfl,congrArg (fun z=>some (AV.int .i64 z)) ewj⟩ (.cons _ (List.Sublist.refl _));clear hnext;simp only [spanB] at hinv;rw [hinv];simp only [*,decide_true,decide_false,Bool.true_and,Bool.false_and,Bool.or_false,Bool.false_or,Bool.or_true,Bool.true_or,Bool.or_assoc])
theorem docValue_c (A:AskG g) (O:OprG g) (G:RunG g) (hC:∀k,CallS Tryz.prog (callA Tryz.prog g (exec Tryz.prog g k))) {t:Table} (ht:t.Ok V) (hc:Cl Tryz.prog g V 29 [t.v] [] fun o _=>o=.ret (.int .i64 ((checkS t).getD 0)))
    {regs:Sl Int} (hr:regs.In V false 1 (AV.int .i64)) (hrn:∀n∈regs.l,In64 n) {w:Snap} (hw:w.Ok) (x:Span) (s:Int) :
    Cl Tryz.prog g V 22 [t.v,x.v,.agg [.int .i64 s,regs.v],w.v] [] fun o _=>o=.ret (resV (valF t x s regs.l w)):=by
  refine Cl.enter A.valueR Tryz.func22 rfl ?_
  have hask:=askedR_c A hc s regs w
  have h0:=askE_0 (t:=t) (s:=s) (n:=regs.l.length) (w:=w)
  unfold valF
  generalize hE:askE t s regs.l.length w=e at hask h0 ⊢
  by_cases he:e=0
  rotate_left
  · rw [if_neg he]
    clear h0
    repeat first|refine W.callP rfl rfl rfl rfl hask ?_|(with_reducible first|refine za ?_|refine zb ?_|refine zc ?_)|refine ym zr ?_|refine yn 0 zr ?_|refine yn 1 zr ?_|refine yn 2 zr ?_|refine yn 3 zr ?_|(refine yo zr ?_;intro _)|(refine yp zr ?_;intro _)|refine yq zr ?_|refine ys zr ?_|refine yu zr ?_|refine yv zr ?_|(with_reducible first|refine zd ?_|refine ze ?_|refine zf ?_|refine zg ?_|refine zh ?_|refine zi ?_|refine zj ?_|refine zk ?_|refine zl ?_)|refine zz zr ?_|refine zw (by decide +kernel) ?_|refine zx zr zr zr ?_|refine zy zr zr ?_|refine W.condT zr ?_|refine W.condF zr ?_
    refine W.condP rfl (fun _=>?_) (fun h=>absurd he h)
    repeat' first|(with_reducible first|refine za ?_|refine zb ?_|refine zc ?_)|refine ym zr ?_|refine yn 0 zr ?_|refine yn 1 zr ?_|refine yn 2 zr ?_|refine yn 3 zr ?_|(refine yo zr ?_;intro _)|(refine yp zr ?_;intro _)|refine yq zr ?_|refine ys zr ?_|refine yu zr ?_|refine yv zr ?_|(with_reducible first|refine zd ?_|refine ze ?_|refine zf ?_|refine zg ?_|refine zh ?_|refine zi ?_|refine zj ?_|refine zk ?_|refine zl ?_)|refine zz zr ?_|refine zw (by decide +kernel) ?_|refine zx zr zr zr ?_|refine zy zr zr ?_|(refine W.condP zr ?_ ?_<;>intro _)|refine W.condT zr ?_|refine W.condF zr ?_|(refine W.cond zr ?_ ?_<;>intro _)|(refine W.gs zr zr zr zr ?_ ?_<;>intro _)|(refine W.gsB zr zr zr zr ?_ ?_<;>intro _)|refine W.done zr ?_|refine W.doneN zr ?_
    rfl
  obtain ⟨hck,hmo,-⟩:=h0 he
  subst he
  rw [if_pos rfl]
  clear h0 hE
  have hin:=inR_c A ht x
  rw [tabHas_eq hck] at hin
  cases hR:tabHas x t with
  | false =>
    rw [hR] at hin
    repeat' first|refine W.callP rfl rfl rfl rfl hask ?_|refine W.callP rfl rfl rfl rfl hin ?_|(with_reducible first|refine za ?_|refine zb ?_|refine zc ?_)|refine ym zr ?_|refine yn 0 zr ?_|refine yn 1 zr ?_|refine yn 2 zr ?_|refine yn 3 zr ?_|(refine yo zr ?_;intro _)|(refine yp zr ?_;intro _)|refine yq zr ?_|refine ys zr ?_|refine yu zr ?_|refine yv zr ?_|(with_reducible first|refine zd ?_|refine ze ?_|refine zf ?_|refine zg ?_|refine zh ?_|refine zi ?_|refine zj ?_|refine zk ?_|refine zl ?_)|refine zz zr ?_|refine zw (by decide +kernel) ?_|refine zx zr zr zr ?_|refine zy zr zr ?_|(refine W.condP zr ?_ ?_<;>intro _)|refine W.condT zr ?_|refine W.condF zr ?_|(refine W.cond zr ?_ ?_<;>intro _)|(refine W.gs zr zr zr zr ?_ ?_<;>intro _)|(refine W.gsB zr zr zr zr ?_ ?_<;>intro _)|refine W.done zr ?_|refine W.doneN zr ?_
    · exact absurd rfl ‹¬(0:Int)=0›
    rfl
  | true =>
  rw [hR] at hin
  obtain ⟨H,q,hs,hq,-⟩:=runs_to hck (has_runs hck hR) regs.l w
  have hsr:=has_runs hck hR
  have hcode:=(check_code hck).1
  rw [if_pos rfl,hq]
  have hspan:=spanRun_c O G hC ht hr hrn hmo.2.2 hw hsr.1 hsr.2.1 hsr.2.2.1 hcode hs (by have:=hsr.1;have:=hsr.2.2.1;omega) hq
  repeat' first|refine W.callP rfl rfl rfl rfl hask ?_|refine W.callP rfl rfl rfl rfl hin ?_|refine W.callP rfl rfl rfl rfl hspan ?_|(with_reducible first|refine za ?_|refine zb ?_|refine zc ?_)|refine ym zr ?_|refine yn 0 zr ?_|refine yn 1 zr ?_|refine yn 2 zr ?_|refine yn 3 zr ?_|(refine yo zr ?_;intro _)|(refine yp zr ?_;intro _)|refine yq zr ?_|refine ys zr ?_|refine yu zr ?_|refine yv zr ?_|(with_reducible first|refine zd ?_|refine ze ?_|refine zf ?_|refine zg ?_|refine zh ?_|refine zi ?_|refine zj ?_|refine zk ?_|refine zl ?_)|refine zz zr ?_|refine zw (by decide +kernel) ?_|refine zx zr zr zr ?_|refine zy zr zr ?_|(refine W.condP zr ?_ ?_<;>intro _)|refine W.condT zr ?_|refine W.condF zr ?_|(refine W.cond zr ?_ ?_<;>intro _)|(refine W.gs zr zr zr zr ?_ ?_<;>intro _)|(refine W.gsB zr zr zr zr ?_ ?_<;>intro _)|refine W.done zr ?_|refine W.doneN zr ?_
  · exact absurd rfl ‹¬(0:Int)=0›
  rfl
end Go.Proofs.YtoegffiapnnkiaaGreat.Abs
