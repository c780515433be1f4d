/- Parts of one proof. No condition but those that each theorem names. -/
import Derived.Test.YtoegffiapnnkiaaGreatPE01
import Derived.Test.YtoegffiapnnkiaaGreatProg
import Derived.Defers
import Derived.Recover
import Derived.WalkSmall
import Derived.Deep.Heap
import Derived.Tactics
set_option linter.unusedVariables false
set_option linter.unusedSimpArgs false
namespace Go.Proofs.YtoegffiapnnkiaaGreat.Abs
open Go Go.RowKit
def pnA (c:Int):List PanicEntry:=[{ v:=.iface 271 (.agg #[.int .i64 c]),recovered:=false }]
theorem blk_lt {w:World} {g:Nat} {o:Obj} (h:w.heap[g]?=some o):g<w.heap.size:=(Array.getElem?_eq_some_iff.1 h).1
theorem blk_alloc {w:World} {g:Nat} {o:Obj} (h:w.heap[g]?=some o) (o':Obj):(w.alloc o').heap[g]?=some o:=(push_old (w1:=w.alloc o') rfl (blk_lt h)).trans h
theorem blk_new (w:World) (o:Obj):(w.alloc o).heap[w.heap.size]?=some o:=push_new rfl
theorem blk_set {w:World} {g:Nat} {t:TypeId} {cs:Array Value} (h:w.heap[g]?=some (.cells cs t (0,0))) (i:Nat) (u:Value):(w.setCell ⟨g,i,none⟩ u).heap[g]?=some (.cells (cs.setIfInBounds i u) t (0,0)):=by
  simp only [World.setCell,Array.getElem?_modify,if_true,h,Option.map_some,Option.isSome_none,Bool.false_eq_true,if_false]
theorem blk_cell {w:World} {g:Nat} {t:TypeId} {cs:Array Value} (h:w.heap[g]?=some (.cells cs t (0,0))) (i:Nat):w.cell? ⟨g,i,none⟩=cs[i]?:=heap_cell h rfl
theorem blk_frozen {w:World} {g:Nat} {t:TypeId} {cs:Array Value} (h:w.heap[g]?=some (.cells cs t (0,0))) (i:Nat):w.frozen? ⟨g,i,none⟩=false:=by simp [World.frozen?,h]
structure Grew (w w':World) (g:Nat):Prop where
  block:∀k,k<w.heap.size→k≠g→w'.heap[k]?=w.heap[k]?
  size:w.heap.size≤w'.heap.size
  os:w'.os=w.os
  tape:w'.tape=w.tape
  output:w'.output=w.output
theorem size_set (w:World) (a:Addr) (v:Value):(w.setCell a v).heap.size=w.heap.size:=by simp [World.setCell]
theorem size_alloc (w:World) (o:Obj):(w.alloc o).heap.size=w.heap.size+1:=Array.size_push _
theorem grew_sa (w:World) (g:Nat) (v:Value) (o:Obj):Grew w ((w.setCell ⟨g,0,none⟩ v).alloc o) g :=
  ⟨fun k hk hn=>(push_old (w:=w.setCell ⟨g,0,none⟩ v) (w1:=(w.setCell ⟨g,0,none⟩ v).alloc o) rfl (by rw [size_set];exact hk)).trans (Below.heap_setCell w ⟨g,0,none⟩ v k hn),by rw [size_alloc,size_set];omega,rfl,rfl,rfl⟩
theorem grew_as (w:World) (g:Nat) (v:Value) (o:Obj):Grew w ((w.alloc o).setCell ⟨g,0,none⟩ v) g :=
  ⟨fun k hk hn=>(Below.heap_setCell (w.alloc o) ⟨g,0,none⟩ v k hn).trans (push_old (w1:=w.alloc o) rfl hk),by rw [size_set,size_alloc];omega,rfl,rfl,rfl⟩
theorem assert_wrong (c:Int) (w:World):(Instr.typeAssert (.iface 271 (.agg #[.int .i64 c])) 20 271 true).run Tryz.prog w=.ok (.tuple #[.agg #[.int .i64 c],.bool true]) w:=by kernel_rfl
theorem assert_nil (w:World):(Instr.typeAssert .nilIface 20 271 true).run Tryz.prog w=.ok (.tuple #[.agg #[.int .i64 0],.bool false]) w:=by kernel_rfl
set_option maxRecDepth 100000 in
theorem caught1.panicking (g:Nat) (x c:Int) (w:World) (hg:w.heap[g]?=some (.cells #[.int .i64 x] 32 (0,0))) :
    CallsD Tryz.prog 141 #[.pointer (some ⟨g,0,none⟩)] (.panicking (pnA c)) w fun e u' w' =>
      e=.returned (.tuple #[])∧u'=.panicking [{ v:=.iface 271 (.agg #[.int .i64 c]),recovered:=true }]∧w'=(w.alloc (.cells #[.int .i64 c] 271)).setCell ⟨g,0,none⟩ (.int .i64 c):=by
  have h1:=assert_wrong c
  have hgx:=blk_alloc hg (.cells #[.int .i64 c] 271)
  have hbx:=blk_new w (.cells #[.int .i64 c] 271)
  have hc:=(blk_cell hgx 0).trans (show _=some (.int .i64 x) from rfl)
  have hz:=blk_frozen hgx 0
  have hn:=(blk_cell hbx 0).trans (show _=some (.int .i64 c) from rfl)
  refine callsD_of_wpS Tryz.func141 rfl fun c₀ cs hu=>?_
  apply wpS_seq
  apply wpS_region
  simp [wpOpsS,go_sem,recoverD,hu,pnA,Tryz.ntmps141,Exit.thenS,h1]
  generalize w.alloc (.cells #[.int .i64 c] 271)=W at *
  apply wpS_seq
  apply wpS_region
  simp [wpOpsS,go_sem,Exit.thenS]
  refine wpS_cond (t:=true) (by simp [Act.eval,Array.replicate]) ?_
  simp only [if_true]
  apply wpS_region
  simp [wpOpsS,go_sem,hc,hz,hn,bodyPostS,results,Tryz.results141]
set_option maxRecDepth 100000 in
theorem caught1.idle (p:Addr) (w:World) :
    CallsD Tryz.prog 141 #[.pointer (some p)] .returning w fun e u' w'=>e=.returned (.tuple #[])∧u'=.returning∧w'=w.alloc (.cells #[.int .i64 0] 271):=by
  have h1:=assert_nil
  refine callsD_of_wpS Tryz.func141 rfl fun c₀ cs hu=>?_
  apply wpS_seq
  apply wpS_region
  simp [wpOpsS,go_sem,recoverD,hu,Tryz.ntmps141,Exit.thenS,h1]
  apply wpS_seq
  apply wpS_region
  simp [wpOpsS,go_sem,Exit.thenS]
  refine wpS_cond (t:=false) (by simp [Act.eval,Array.replicate]) ?_
  simp only [Bool.false_eq_true,if_false]
  refine wpS_of_wp (wp_skip ?_)
  cases c₀
  simp_all [bodyPostS,results,Tryz.results141]
theorem caught.calls (G:FuncId) (cap:Array Value) (o:Option Int) (R:World→Prop) (w:World) (hG:∀w:World,(callFunc G cap).run Tryz.prog w=.ok (.enter G cap) w)
    (hlook:Calls Tryz.prog G cap (w.alloc (.cells #[.int .i64 0] 32)) fun e w'=>e=endO 271 o∧w'.heap[w.heap.size]?=some (.cells #[.int .i64 0] 32 (0,0))∧R w')
    : Calls Tryz.prog 107 #[.func (.func G) #[] cap] w fun e w'=>e=.returned (.int .i64 (o.getD 0))∧∃w2,R w2∧Grew w2 w' w.heap.size:=by
  have hmf:∀(fn:Fn) (first cap:Array Value) (w:World),(Instr.makeFunc fn first cap).run Tryz.prog w=.ok (.func fn first cap) w:=fun _ _ _ _=>rfl
  go_enter_defers Tryz.func107,Tryz.ntmps107
  go_wp2
  refine hlook.mono ?_
  rintro e w2 ⟨he,hblk,hR⟩
  cases o with
  | none =>
    have he:e=.returned (.tuple #[]):=he
    subst he
    have hc:=(blk_cell hblk 0).trans (show _=some (.int .i64 0) from rfl)
    have hz:=blk_frozen hblk 0
    go_wp2
    refine leaves_cons (f:=141) (args:=#[.pointer (some ⟨w.heap.size,0,none⟩)]) (by simp) (by simp [go_sem]) ?_
    refine (caught1.idle ⟨w.heap.size,0,none⟩ _).mono ?_
    rintro e u' w'' ⟨rfl,rfl,rfl⟩
    have hb3:=blk_alloc (blk_set hblk 0 (.int .i64 0)) (.cells #[.int .i64 0] 271)
    have hc3:=(blk_cell hb3 0).trans (show _=some (.int .i64 0) from rfl)
    have hg3:Grew w2 ((w2.setCell ⟨w.heap.size,0,none⟩ (.int .i64 0)).alloc (.cells #[.int .i64 0] 271)) w.heap.size:=grew_sa _ _ _ _
    generalize (w2.setCell ⟨w.heap.size,0,none⟩ (.int .i64 0)).alloc (.cells #[.int .i64 0] 271)=w3 at *
    simp [Leaves,settle,results,Tryz.results107,go_sem,hc3]
    exact ⟨w2,hR,hg3⟩
  | some c =>
    have he:e=.panicked (pnA c):=he
    subst he
    go_wp2
    refine leaves_cons (f:=141) (args:=#[.pointer (some ⟨w.heap.size,0,none⟩)]) (by simp) (by simp [go_sem]) ?_
    refine (caught1.panicking w.heap.size 0 c _ hblk).mono ?_
    rintro e u' w'' ⟨rfl,rfl,rfl⟩
    have hb3:=blk_set (blk_alloc hblk (.cells #[.int .i64 c] 271)) 0 (.int .i64 c)
    have hc3:=(blk_cell hb3 0).trans (show _=some (.int .i64 c) from rfl)
    have hg3:Grew w2 ((w2.alloc (.cells #[.int .i64 c] 271)).setCell ⟨w.heap.size,0,none⟩ (.int .i64 c)) w.heap.size:=grew_as _ _ _ _
    generalize (w2.alloc (.cells #[.int .i64 c] 271)).setCell ⟨w.heap.size,0,none⟩ (.int .i64 c)=w3 at *
    simp [Leaves,settle,results,Tryz.results107,go_sem,hc3]
    exact ⟨w2,hR,hg3⟩
theorem nng:NoNG Tryz.prog:=by
  have h:(Tryz.prog.funcs.toList.all fun fn=>!(fn.name == "runtime.NumGoroutine"))=true:=by decide +kernel
  intro f fn hf e
  have:=List.all_eq_true.1 h fn (List.mem_of_getElem? (by rw [Array.getElem?_toList];exact hf))
  rw [e] at this
  simp at this
theorem mixed:Tryz.prog.follows .mixedOrders=true:=by kernel_rfl
theorem cgS (ms:List Memo):CgS Tryz.prog ⟨107,271,ms⟩ where
  fn:=⟨_,Tryz.func107,rfl⟩
  ok:=⟨32,fun G cap o R w hfn hlook=>(caught.calls G cap o R w (fun w=>by
      obtain ⟨fn,h1,h2⟩:=hfn
      have hn:=nng G fn h1
      obtain ⟨c,hc⟩:=Option.isSome_iff_exists.1 h2
      simp [callFunc,h1,hn,hc]) hlook).mono fun e w' hh=>by
    obtain ⟨h1,w2,h2,h3⟩:=hh
    exact ⟨h1,w2,h2,h3.block,h3.size,h3.os,h3.tape,h3.output⟩⟩
theorem callsS (ms:List Memo) (hM:∀m∈ms,MemoS Tryz.prog m) (k:Nat):CallS Tryz.prog (callA Tryz.prog ⟨107,271,ms⟩ (exec Tryz.prog ⟨107,271,ms⟩ k)) :=
  calls_ok (cgS ms) hM (snd nng mixed (cgS ms) hM k)
def isTrue_:CR→Bool
  | .ret (.bool true) _=>true
  | _=>false
theorem true_call {ms:List Memo} (hM:∀m∈ms,MemoS Tryz.prog m) {k f:Nat} (h:isTrue_ (acall Tryz.prog ⟨107,271,ms⟩ k f [] ⟨.e,.z⟩)=true) (w:World):Calls Tryz.prog f #[] w fun e w'=>e=.returned (.bool true)∧Below w.heap.size w w':=by
  unfold isTrue_ at h
  split at h
  · rename_i s hs
    exact closed_call (callsS ms hM k) hs (cargs:=[]) (fun _=>rfl) (fun _=>rfl) w
  · cases h
end Go.Proofs.YtoegffiapnnkiaaGreat.Abs
