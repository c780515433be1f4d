/- Each number, text and frame is read, or refused, by the program just as by the reference, from any bytes at any place. No condition. -/
import Derived.Test.YtcninjadeagenaaHWirex3
import Derived.Test.YtcninjadeagenaaWireB
namespace Go.Proofs.Ytcninjadeagenaa.Pure
open Go.RowKit Go.Proofs.Ytcninjadeagenaa.HWire Go.Proofs.YtcninjadeagenaaW.PrintWords Go.Proofs.YtcninjadeagenaaW.PrintLast Go.Proofs.Ytcninjadeagenaa.WS

theorem WireReads : tripwirelaw03_WireReads.Pure := by
  intro s at_ _ _
  refine ⟨65602, ?_⟩
  rw [tripwirelaw03_WireReads.f, works_f 65602 (by omega)]
  simp only [Option.bind_some]
  by_cases h : (s.size : Int) > 33554431
  · rw [if_pos h]
  · rw [if_neg h, Take_f _ s at_ (by omega) (by omega), refTake_f _ s at_ (by omega) (by omega)]
    simp only [Option.bind_some, if_true, beq_self_eq_true]
    rw [show (65602 : Nat) = 65601 + 1 from rfl]
    simp only [tripwirelaw03_WireReads.j0]
    rw [TakeText_f _ s at_ (by omega) (by omega), refTakeText_f _ s at_ (by omega) (by omega), Unframe_f _ s at_ (by omega) (by omega), refUnframe_f _ s at_ (by omega) (by omega)]
    simp

end Go.Proofs.Ytcninjadeagenaa.Pure
