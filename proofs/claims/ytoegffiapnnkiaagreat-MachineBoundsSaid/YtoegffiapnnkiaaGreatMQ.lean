/- A mode and a snapshot that came in. No condition but those that each theorem names. -/
import Derived.Test.YtoegffiapnnkiaaGreatMB
namespace Go.Proofs.YtoegffiapnnkiaaGreat.Abs
open Go
set_option linter.unusedVariables false
set_option linter.unusedSimpArgs false
set_option maxRecDepth 100000
structure Mode where
  s:Int
  regs:Sl Int
def Mode.v (m:Mode):AV:=.agg [.int .i64 m.s,m.regs.v]
theorem op_mode:Op Tryz.prog (fun m:Mode=>[.int .i64 m.s,m.regs.v]) 2 (fun V m=>In64 m.s∧m.regs.In V false 1 (AV.int .i64)∧∀n∈m.regs.l,In64 n) 30 :=
  (op_struct tblOk (t:=30) rfl (opF_cons (t:=3) (op_int tblOk (k:=.i64) rfl) (opF_one (t:=22) (op_slice tblOk (ag:=false) (one:=AV.int .i64) rfl (e:=2) rfl (by decide) (fun _=>rfl) (op_int tblOk (k:=.i64) rfl))) rfl)).map (fun p=>⟨p.1,p.2⟩) (fun _ _ _ h k=>⟨k.1,In_mono h k.2.1,k.2.2⟩) (fun _=>rfl)
    (fun _ p h=>⟨h.1,h.2.2.1,h.2.2.2⟩)
theorem op_snap:Op Tryz.prog (fun w:Snap=>[.int .i64 w.bid,.int .i64 w.ask,.int .i64 w.last,.int .i64 w.volume,.int .i64 w.now,.int .i64 w.open_]) 6 (fun _ w=>w.Ok) 55 :=
  (op_struct tblOk (t:=55) rfl (opF_cons (t:=2) (op_int tblOk (k:=.i64) rfl) (opF_cons (t:=2) (op_int tblOk (k:=.i64) rfl) (opF_cons (t:=2) (op_int tblOk (k:=.i64) rfl) (opF_cons (t:=2) (op_int tblOk (k:=.i64) rfl) (opF_cons (t:=2) (op_int tblOk (k:=.i64) rfl) (opF_one (t:=2) (op_int tblOk (k:=.i64) rfl)) rfl) rfl) rfl) rfl) rfl)).map (fun p=>⟨p.1,p.2.1,p.2.2.1,p.2.2.2.1,p.2.2.2.2.1,p.2.2.2.2.2⟩) (fun _ _ _ _ h=>h) (fun _=>rfl)
    (fun _ p h=>⟨h.1,h.2.1,h.2.2.1,h.2.2.2.1,h.2.2.2.2.1,h.2.2.2.2.2⟩)
end Go.Proofs.YtoegffiapnnkiaaGreat.Abs
