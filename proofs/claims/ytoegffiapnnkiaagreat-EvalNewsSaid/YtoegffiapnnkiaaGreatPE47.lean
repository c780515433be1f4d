/- Parts of one proof. No condition but those that each theorem names. -/
import Derived.Test.YtoegffiapnnkiaaGreatPE30
import Derived.Test.YtoegffiapnnkiaaGreatPE31
import Derived.Test.YtoegffiapnnkiaaGreatPE34
import Derived.Test.YtoegffiapnnkiaaGreatPE42
namespace Go.Proofs.YtoegffiapnnkiaaGreat.Abs
open Go
set_option linter.unusedVariables false
set_option linter.unusedSimpArgs false
set_option maxRecDepth 100000
set_option maxHeartbeats 4000000
structure Tn where
  g:Int
  dry:Bool
  acts:List Act
  st:Int
  err:Int
  steps:Int
  s:Int
  regs:List Int
attribute [local irreducible] W Cl Bd
variable {g:Cg} {V:K→Option (List AV)}
end Go.Proofs.YtoegffiapnnkiaaGreat.Abs
namespace Go.Proofs.YtoegffiapnnkiaaGreat.Abs
open Go
set_option linter.unusedVariables false
set_option linter.unusedSimpArgs false
set_option maxRecDepth 100000
set_option maxHeartbeats 4000000
theorem eqAct (a b c d e f a' b' c' d' e' f':Int):eqStr Tryz.prog 127 (.agg [.int .u8 a,.int .u8 b,.int .u8 c,.int .i64 d,.int .i64 e,.int .i64 f]) (.agg [.int .u8 a',.int .u8 b',.int .u8 c',.int .i64 d',.int .i64 e',.int .i64 f'])=some (ieqb a a'&&(ieqb b b'&&(ieqb c c'&&(ieqb d d'&&(ieqb e e'&&(ieqb f f'&&true)))))):=by kernel_rfl
theorem eqAct_self (a b c d e f:Int):eqStr Tryz.prog 127 (.agg [.int .u8 a,.int .u8 b,.int .u8 c,.int .i64 d,.int .i64 e,.int .i64 f]) (.agg [.int .u8 a,.int .u8 b,.int .u8 c,.int .i64 d,.int .i64 e,.int .i64 f])=some true:=by
  rw [eqAct,ieqb_self,ieqb_self,ieqb_self,ieqb_self,ieqb_self,ieqb_self];rfl
attribute [local irreducible] W Cl Bd
variable {g:Cg} {V:K→Option (List AV)}
end Go.Proofs.YtoegffiapnnkiaaGreat.Abs
namespace Go.Proofs.YtoegffiapnnkiaaGreat.Abs
open Go
set_option linter.unusedVariables false
set_option linter.unusedSimpArgs false
set_option maxRecDepth 100000
theorem op_snap:Op Tryz.prog (fun w:Snap=>[.int .i64 w.bid,.int .i64 w.ask,.int .i64 w.last,.int .i64 w.volume,.int .i64 w.now,.int .i64 w.open_]) 6 (fun _ w=>w.Ok) 55 :=
  (op_struct tblOk (t:=55) rfl (opF_cons (t:=2) (op_int tblOk (k:=.i64) rfl) (opF_cons (t:=2) (op_int tblOk (k:=.i64) rfl) (opF_cons (t:=2) (op_int tblOk (k:=.i64) rfl) (opF_cons (t:=2) (op_int tblOk (k:=.i64) rfl) (opF_cons (t:=2) (op_int tblOk (k:=.i64) rfl) (opF_one (t:=2) (op_int tblOk (k:=.i64) rfl)) rfl) rfl) rfl) rfl) rfl)).map (fun p=>⟨p.1,p.2.1,p.2.2.1,p.2.2.2.1,p.2.2.2.2.1,p.2.2.2.2.2⟩) (fun _ _ _ _ h=>h) (fun _=>rfl)
    (fun _ p h=>⟨h.1,h.2.1,h.2.2.1,h.2.2.2.1,h.2.2.2.2.1,h.2.2.2.2.2⟩)
end Go.Proofs.YtoegffiapnnkiaaGreat.Abs
