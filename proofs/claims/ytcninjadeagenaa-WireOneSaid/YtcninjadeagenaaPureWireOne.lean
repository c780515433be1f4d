/- Whatever number, text or frame is read is written again byte by byte. No condition. -/
import Derived.Test.YtcninjadeagenaaHWirex5
import Derived.Test.YtcninjadeagenaaWireD
namespace Go.Proofs.Ytcninjadeagenaa.Pure
open Go.RowKit Go.Proofs.Ytcninjadeagenaa.HWire Go.Proofs.YtcninjadeagenaaW.PrintWords Go.Proofs.YtcninjadeagenaaW.PrintLast Go.Proofs.Ytcninjadeagenaa.WS

theorem one_j4 (k : Nat) (s : ByteArray) (at_ : Int) (_hs : s.size ≤ 33554431) (hk : 65601 < k) (h : (UF s at_).2.2 = 0) : tripwirelaw03_WireOne.j4 k s at_ true (UF s at_).2.1 (UF s at_).1 false = some true := by
  obtain ⟨k, rfl⟩ : ∃ q, k = q + 1 := ⟨k - 1, by omega⟩
  obtain ⟨h0, h1, h2, h3⟩ := UF_ok h
  obtain ⟨b1, b2, b3, b4⟩ := TT_bounds h0
  obtain ⟨f1, f2⟩ := fl_of_UF h
  have e1 : (UF s at_).1 = (TT s at_).1 := by rw [h3]
  have e2 : (UF s at_).2.1 = (TT s at_).2.1 + 4 := by rw [h3]
  simp only [tripwirelaw03_WireOne.j4]
  rw [if_neg (by simp), Frame_f _ _ (by rw [e1]; omega) (by omega)]
  simp only [Option.bind_some]
  rw [if_pos trivial, if_pos (by omega), if_pos (by omega), if_pos (by omega), if_pos ?_]
  rw [toList_eq_iff]
  exact (cut_eq f2 (by omega)).symm
theorem one_j3 (k : Nat) (s : ByteArray) (at_ : Int) (hs : s.size ≤ 33554431) (hk : 65602 < k) : tripwirelaw03_WireOne.j3 k s at_ true = some true := by
  obtain ⟨k, rfl⟩ : ∃ q, k = q + 1 := ⟨k - 1, by omega⟩
  simp only [tripwirelaw03_WireOne.j3]
  rw [Unframe_f _ s at_ (by omega) (by omega)]
  simp only [Option.bind_some]
  by_cases h : (UF s at_).2.2 = 0
  · obtain ⟨h0, h1, h2, h3⟩ := UF_ok h
    obtain ⟨b1, b2, b3, b4⟩ := TT_bounds h0
    have e2 : (UF s at_).2.1 = (TT s at_).2.1 + 4 := by rw [h3]
    rw [if_pos h, if_neg (by omega), if_neg (by omega), show decide ((UF s at_).2.1 > (s.size : Int)) = false from decide_eq_false (by omega)]
    exact one_j4 k s at_ hs (by omega) h
  · rw [if_neg h]
theorem one_j1 (k : Nat) (s : ByteArray) (at_ : Int) (hs : s.size ≤ 33554431) (hk : 65605 < k) : tripwirelaw03_WireOne.j1 k s at_ true = some true := by
  obtain ⟨k, rfl⟩ : ∃ q, k = q + 2 := ⟨k - 2, by omega⟩
  rw [tripwirelaw03_WireOne.j1, TakeText_f _ s at_ (by omega) (by omega)]
  simp only [Option.bind_some]
  by_cases h : (TT s at_).2.2 = 0
  · obtain ⟨b1, b2, b3, b4⟩ := TT_bounds h
    obtain ⟨t1, t2⟩ := tl_of_TT h
    rw [if_pos h, if_neg (by omega), if_neg (by omega), show decide ((TT s at_).2.1 > (s.size : Int)) = false from decide_eq_false (by omega)]
    simp only [tripwirelaw03_WireOne.j2]
    rw [if_neg (by simp), PutText_f _ _ _ (by omega) (by simp [ByteArray.size]) (by omega), empty_append]
    simp only [Option.bind_some]
    rw [if_pos (by omega), if_pos (by omega), if_pos (by omega), if_pos ?_]
    · exact one_j3 k s at_ hs (by omega)
    · rw [toList_eq_iff]
      exact (cut_eq t2 (by omega)).symm
  · rw [if_neg h]
    exact one_j3 _ s at_ hs (by omega)

theorem WireOne : tripwirelaw03_WireOne.Pure := by
  intro s at_ _ _
  refine ⟨65700 + 2, ?_⟩
  rw [tripwirelaw03_WireOne.f, works_f _ (by omega)]
  simp only [Option.bind_some]
  by_cases h : (s.size : Int) > 33554431
  · rw [if_pos h]
  · rw [if_neg h, Take_f _ s at_ (by omega) (by omega)]
    simp only [Option.bind_some]
    by_cases h0 : (TK s at_).2.2 = 0
    · obtain ⟨a, b, c, d, e, f, g⟩ := TK_ok h0
      obtain ⟨v1, v2⟩ := vi_of_TK h0
      have hv := vi_len10 (n := (TK s at_).1.toNat) (by omega)
      rw [if_pos h0, if_neg (by omega), if_neg (by omega), show decide ((TK s at_).2.1 > (s.size : Int)) = false from decide_eq_false (by omega)]
      simp only [tripwirelaw03_WireOne.j0]
      rw [if_neg (by simp), Put_f _ _ _ (isU_one c d) (by simp) (by simp) (by simp [ByteArray.size]), empty_append, flat_one, Size_f _ c d]
      simp only [Option.bind_some]
      rw [if_pos (by omega), if_pos (by omega), if_pos (by omega), if_pos ?_, if_pos (by rw [wrap64_id (by omega) (by omega)]; omega)]
      · exact one_j1 _ s at_ (by omega) (by omega)
      · rw [toList_eq_iff]
        exact (cut_eq v2 (by omega)).symm
    · rw [if_neg h0]
      exact one_j1 _ s at_ (by omega) (by omega)

end Go.Proofs.Ytcninjadeagenaa.Pure
