/- Every span of every table comes to what the document says: in the abstract machine. No condition but those that each theorem names. -/
import Derived.Test.YtoegffiapnnkiaaGreatMU
import Derived.Test.YtoegffiapnnkiaaGreatMN
import Derived.Test.YtoegffiapnnkiaaGreatMO
import Derived.Test.YtoegffiapnnkiaaGreatMQ
import Derived.Test.YtoegffiapnnkiaaGreatTT
import Derived.Test.YtoegffiapnnkiaaGreatTY
namespace Go.Proofs.YtoegffiapnnkiaaGreat.Abs
open Go
set_option linter.unusedVariables false
set_option linter.unusedSimpArgs false
set_option maxRecDepth 100000
set_option maxHeartbeats 4000000
theorem tabHas_er (x:Span) (t:Table):tabHas x t.er=tabHas x t:=by
  unfold tabHas
  show (t.states.l.map erG).any _=_
  rw [List.any_map]
  refine any_same fun s _=>?_
  show (s.l.map Guard.er).any _=_
  rw [List.any_map]
  exact any_same fun g _=>rfl
theorem insF_er (t:Table) (regs:List Int) (w:Snap) (a:Int) (S:List Int):insF t.er regs w a S=insF t regs w a S:=rfl
theorem runF_er (t:Table) (regs:List Int) (w:Snap) (z:Int):∀(m:Nat) (a:Int) (S:List Int) (n:Int),runF t.er regs w z m a S n=runF t regs w z m a S n
  | 0,_,_,_=>rfl
  | m+1,a,S,n=>by
    simp only [runF,insF_er]
    split
    · rfl
    · split<;>first|rfl|exact runF_er t regs w z m _ _ _
theorem askE_er (t:Table) (s:Int) (n:Nat) (w:Snap):askE t.er s n w=askE t s n w:=by
  have hm:ModeOk t.er s n↔ModeOk t s n:=by
    unfold ModeOk
    show (0≤s∧s<((t.states.l.map erG).length:Int)∧n=t.regs.l.length)↔_
    rw [List.length_map]
  unfold askE
  rw [checkS_er]
  by_cases h:ModeOk t s n
  · rw [if_pos h,if_pos (hm.2 h)]
  · rw [if_neg h,if_neg (fun k=>h (hm.1 k))]
theorem valF_er (t:Table) (x:Span) (s:Int) (regs:List Int) (w:Snap):valF t.er x s regs w=valF t x s regs w:=by
  unfold valF
  rw [askE_er,tabHas_er,runF_er]
theorem SameT.val {x y:Table} (h:SameT x y) (z:Span) (s:Int) (regs:List Int) (w:Snap):valF x z s regs w=valF y z s regs w:=by
  rw [←valF_er x,←valF_er y,h.er]
theorem ask20:AskG G20:=⟨rfl,rfl,rfl,rfl,rfl,rfl,rfl,rfl,rfl⟩
theorem stk20:StkG G20:=⟨rfl,rfl,rfl⟩
theorem run20:RunG G20:=⟨rfl,rfl,rfl,rfl,rfl,rfl,rfl⟩
theorem num20:NumG G20:=⟨rfl,rfl,rfl,rfl,rfl,rfl,rfl,rfl,rfl,rfl,rfl,rfl,rfl,rfl,rfl,rfl,rfl,rfl,rfl⟩
theorem opr20:OprG G20:=⟨num20,rfl,rfl,rfl,rfl,rfl,rfl,rfl,rfl,rfl,rfl,rfl,rfl⟩
attribute [local irreducible] W Cl Bd
variable {V:K→Option (List AV)} {t:Table}
theorem machineValues_c (ht:t.Ok V) (hr:t.Room) (x:Span) (s:Int) {regs:Sl Int} (hg:regs.In V false 1 (AV.int .i64)) (hgn:∀n∈regs.l,In64 n) {w:Snap} (hw:w.Ok) :
    Cl Tryz.prog G20 V 4 [t.v,x.v,.agg [.int .i64 s,regs.v],w.v] [] fun o _=>o=.ret (.bool true):=by
  refine Cl.enter rfl Tryz.func4 rfl ?_
  repeat first|refine W.callP rfl rfl rfl rfl awakeC ?_|(refine W.callV rfl rfl rfl rfl (far20_c ht hr s) ?_;rintro _ ⟨b_,rfl,hb_⟩)|(with_reducible first|refine za ?_|refine zb ?_|refine zc ?_)|refine ym zr ?_|refine yn 0 zr ?_|refine yn 1 zr ?_|refine yn 2 zr ?_|refine yn 3 zr ?_|(refine yo zr ?_;intro _)|(refine yp zr ?_;intro _)|refine yq zr ?_|refine ys zr ?_|refine yu zr ?_|refine yv zr ?_|(with_reducible first|refine zd ?_|refine ze ?_|refine zf ?_|refine zg ?_|refine zh ?_|refine zi ?_|refine zj ?_|refine zk ?_|refine zl ?_)|refine zz zr ?_|refine zw (by decide +kernel) ?_|refine zx zr zr zr ?_|refine zy zr zr ?_|refine W.condT zr ?_|refine W.condF zr ?_
  cases b_ with
  | true =>
    repeat' first|(with_reducible first|refine za ?_|refine zb ?_|refine zc ?_)|refine ym zr ?_|refine yn 0 zr ?_|refine yn 1 zr ?_|refine yn 2 zr ?_|refine yn 3 zr ?_|(refine yo zr ?_;intro _)|(refine yp zr ?_;intro _)|refine yq zr ?_|refine ys zr ?_|refine yu zr ?_|refine yv zr ?_|(with_reducible first|refine zd ?_|refine ze ?_|refine zf ?_|refine zg ?_|refine zh ?_|refine zi ?_|refine zj ?_|refine zk ?_|refine zl ?_)|refine zz zr ?_|refine zw (by decide +kernel) ?_|refine zx zr zr zr ?_|refine zy zr zr ?_|(refine W.condP zr ?_ ?_<;>intro _)|refine W.condT zr ?_|refine W.condF zr ?_|(refine W.cond zr ?_ ?_<;>intro _)|(refine W.gs zr zr zr zr ?_ ?_<;>intro _)|(refine W.gsB zr zr zr zr ?_ ?_<;>intro _)|refine W.done zr ?_|refine W.doneN zr ?_
    rfl
  | false =>
  have hlen:=(hb_ rfl).2
  repeat first|(refine W.callN rfl rfl rfl rfl (copyR_c rfl ht hr) ?_;intro c Δ' hcp)|(refine W.callN (val:=fun i=>lentV i regs.l.length) rfl rfl rfl rfl (lentLongs_c rfl hg (by omega)) ?_;rintro i _ ⟨R,rfl⟩)|(with_reducible first|refine za ?_|refine zb ?_|refine zc ?_)|refine ym zr ?_|refine yn 0 zr ?_|refine yn 1 zr ?_|refine yn 2 zr ?_|refine yn 3 zr ?_|(refine yo zr ?_;intro _)|(refine yp zr ?_;intro _)|refine yq zr ?_|refine ys zr ?_|refine yu zr ?_|refine yv zr ?_|(with_reducible first|refine zd ?_|refine ze ?_|refine zf ?_|refine zg ?_|refine zh ?_|refine zi ?_|refine zj ?_|refine zk ?_|refine zl ?_)|refine zz zr ?_|refine zw (by decide +kernel) ?_|refine zx zr zr zr ?_|refine zy zr zr ?_|refine W.condT zr ?_|refine W.condF zr ?_
  obtain ⟨hcp,-⟩:=hcp
  refine W.know fun hva hnd=>?_
  have hx:=CpT.ok (CpT.mono hcp fun z hz=>List.mem_append_left _ (.tail _ (List.mem_append_right _ hz))) ht hnd
  have ht':=Table.okM (withV_le hva) ht
  have hg':=In_mono (withV_le hva) hg
  have hVi:=withV_at (V:=V) hnd (List.mem_append_right _ (.head _):lentB i regs.l∈_)
  have hin:=lent_in hVi
  have h1:=machValue_c (g:=G20) ask20 opr20 stk20 rfl hx (checkC hx (hcp.room hr)) hin hgn hw x s
  rw [hcp.same.val] at h1
  have h2:=docValue_c (V:=V) (g:=G20) ask20 opr20 run20 calls20 ht (checkRC ht hr) hg hgn hw x s
  have h3:=sameT_c (g:=G20) rfl rfl hx ht' hcp.same
  have h4:=wholeLongs_c (g:=G20) rfl rfl hVi hg' (by omega)
  have hq:∀(q:Int×Int×Int),resV q=.tup [.int .i64 q.1,.int .i64 q.2.1,.int .i64 q.2.2]:=fun _=>rfl
  generalize valF t x s regs.l w=q at h1 h2
  have h1:Cl Tryz.prog G20 _ 21 [c.v,x.v,.agg [.int .i64 s,lentV i regs.l.length],w.v] [] fun o _=>o=.ret (resV q):=h1
  clear hcp hx ht' hg' hin hVi hva hnd ht hg
  repeat' first|refine W.callLP rfl rfl rfl rfl h1 ?_|refine W.callP rfl rfl rfl rfl h2 ?_|refine W.callLP rfl rfl rfl rfl h3 ?_|refine W.callLP rfl rfl rfl rfl h4 ?_|(refine W.gs rfl rfl rfl rfl ?_ (fun h=>absurd rfl h);intro _)|refine yn 4 zr ?_|(with_reducible first|refine za ?_|refine zb ?_|refine zc ?_)|refine ym zr ?_|refine yn 0 zr ?_|refine yn 1 zr ?_|refine yn 2 zr ?_|refine yn 3 zr ?_|(refine yo zr ?_;intro _)|(refine yp zr ?_;intro _)|refine yq zr ?_|refine ys zr ?_|refine yu zr ?_|refine yv zr ?_|(with_reducible first|refine zd ?_|refine ze ?_|refine zf ?_|refine zg ?_|refine zh ?_|refine zi ?_|refine zj ?_|refine zk ?_|refine zl ?_)|refine zz zr ?_|refine zw (by decide +kernel) ?_|refine zx zr zr zr ?_|refine zy zr zr ?_|(refine W.condP zr ?_ ?_<;>intro _)|refine W.condT zr ?_|refine W.condF zr ?_|(refine W.cond zr ?_ ?_<;>intro _)|(refine W.gs zr zr zr zr ?_ ?_<;>intro _)|(refine W.gsB zr zr zr zr ?_ ?_<;>intro _)|refine W.done zr ?_|refine W.doneN zr ?_
  rfl
end Go.Proofs.YtoegffiapnnkiaaGreat.Abs
