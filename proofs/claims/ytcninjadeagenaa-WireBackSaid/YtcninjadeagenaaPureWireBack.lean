/- Whatever number, text or frame is written is read back, whatever stands ahead of it and behind it. No condition. -/
import Derived.Test.YtcninjadeagenaaHWirex4
import Derived.Test.YtcninjadeagenaaWireD
namespace Go.Proofs.Ytcninjadeagenaa.Pure
open Go.RowKit Go.Proofs.Ytcninjadeagenaa.HWire Go.Proofs.YtcninjadeagenaaW.PrintWords Go.Proofs.YtcninjadeagenaaW.PrintLast Go.Proofs.Ytcninjadeagenaa.WS

theorem bytes_front (b : ByteArray) (l : List Int) (t : ByteArray) (hl : isB l) : (bytesOf (b ++ strOfNums l ++ t)).drop ((b.size : Nat) : Int).toNat = l ++ bytesOf t := by
  rw [bytesOf_append, bytesOf_append, bytesOf_S l hl, List.append_assoc, show ((b.size : Nat) : Int).toNat = (bytesOf b).length from by rw [bytesOf_length]; omega, List.drop_left]
theorem size_front (b : ByteArray) (l : List Int) : (b ++ strOfNums l).size = b.size + l.length := by rw [ByteArray.size_append, S_size]

theorem back_j0 (k : Nat) (hk : 65601 < k) (b s t : ByteArray) (h : (b.size : Int) + s.size + t.size ≤ 33554431) : tripwirelaw03_WireBack.j0 (k + 1) b s t true true = some true := by
  simp only [tripwirelaw03_WireBack.j0]
  by_cases hl : (s.size : Int) > 65536
  · rw [if_pos hl, Frame_long _ s (by omega)]
    simp only [Option.bind_some]
    rw [if_pos trivial, if_pos trivial, if_pos (by simp)]
    rfl
  · rw [if_neg hl, PutText_f _ b s (by omega) (by omega) (by omega)]
    simp only [Option.bind_some]
    have htl : (tl s).length ≤ s.size + 10 := by have := vi_len10 (n := s.size) (by omega); rw [tl, List.length_append, bytesOf_length]; omega
    have hfl : (fl s).length ≤ s.size + 14 := by rw [fl, List.length_append]; simp [ckl]; omega
    have hfB : isB (fl s) := by
      intro x hx
      rcases List.mem_append.1 hx with hx | hx
      · exact tl_isB s x hx
      · exact ckl_isB s x hx
    rw [if_pos (by rw [size_front]; omega), TakeText_f _ _ _ (by rw [ByteArray.size_append, size_front]; omega) (by omega), TT_of_tl (t := s) (by omega) (by omega) (bytes_front b _ t (tl_isB s))]
    simp only [Option.bind_some]
    rw [if_pos trivial, if_pos (by rw [size_front]; omega), Frame_f _ s (by omega) (by omega)]
    simp only [Option.bind_some, S_size]
    rw [if_pos (by omega), if_pos (by rw [size_front]; omega), Unframe_f _ _ _ (by rw [ByteArray.size_append, size_front]; omega) (by omega), UF_of_fl (t := s) (by omega) (by omega) (bytes_front b _ t hfB)]
    simp only [Option.bind_some, if_true]
    rw [if_pos (by rw [wrap64_id (by omega) (by omega)])]
    rfl
theorem back (k : Nat) (hk : 65602 < k) (b : ByteArray) (n : Int) (s : ByteArray) (m : Int) (t : ByteArray) (hb : b.size ≤ 140737488351232) (hn0 : 0 ≤ n) (hn1 : n < 18446744073709551616) (hs : s.size ≤ 140737488351232) (hm0 : -9223372036854775808 ≤ m) (hm1 : m ≤ 9223372036854775807) (ht : t.size ≤ 140737488351232) :
    tripwirelaw03_WireBack.f (k + 1) b n s m t = some true := by
  rw [tripwirelaw03_WireBack.f, works_f _ (by omega)]
  rw [Option.bind_some]
  have hw : wrap64 (wrap64 ((b.size : Int) + s.size) + t.size) = b.size + s.size + t.size := by rw [wrap64_id (x := (b.size : Int) + s.size) (by omega) (by omega), wrap64_id (by omega) (by omega)]
  rw [hw]
  by_cases h : (b.size : Int) + s.size + t.size > 33554431
  · rw [if_pos h]
  · have hv := vi_len10 (n := n.toNat) (by omega)
    have hz := zig_range hm0 hm1
    have hza := zag_range hn0 hn1
    have h1 : [n].length = 1 := rfl
    rw [if_neg h, Put_f _ b [n] (isU_one hn0 hn1) (by omega) (by omega) (by omega), flat_one, Option.bind_some]
    rw [if_pos (by rw [size_front]; omega), Take_f _ _ _ (by rw [ByteArray.size_append, size_front]; omega) (by omega), TK_of_vi (by omega) hn0 hn1 (bytes_front b _ t (vi_isB _)), Option.bind_some, Zig_f m hm0 hm1, Option.bind_some]
    rw [Zag_f _ hz.1 hz.2, Option.bind_some, Zag_f n hn0 hn1, Option.bind_some, Zig_f _ hza.1 hza.2, Option.bind_some, zag_zig, zig_zag n hn0]
    rw [if_pos rfl, if_pos (by rw [size_front]; dsimp only; omega), if_pos rfl, if_pos rfl, show (n == n) = true from beq_self_eq_true n]
    exact back_j0 k (by omega) b s t (by omega)
theorem WireBack : tripwirelaw03_WireBack.Pure := by
  intro b n s m t hb hn hs hm ht
  simp only [Lit.wf, IntKind.min, IntKind.max, IntKind.signed, IntKind.bits, Bool.and_eq_true, decide_eq_true_eq] at hn hm
  have hn0 : 0 ≤ n := by simpa using hn.1
  have hn1 : n < 18446744073709551616 := by have := hn.2; simp at this; omega
  have hm0 : -9223372036854775808 ≤ m := by simpa using hm.1
  have hm1 : m ≤ 9223372036854775807 := by have := hm.2; simp at this; omega
  exact ⟨65603 + 1, back 65603 (by omega) b n s m t hb hn0 hn1 hs hm0 hm1 ht⟩

end Go.Proofs.Ytcninjadeagenaa.Pure
