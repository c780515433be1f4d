/- Signed numbers turned and turned back, and how many bytes a number has. No condition but those that each lemma names. -/
import Derived.Test.YtcninjadeagenaaWireC
import Derived.Test.YtcninjadeagenaaHWirex4
namespace Go.Proofs.Ytcninjadeagenaa.WS
open Go.RowKit Go.Proofs.Ytcninjadeagenaa.HWire Go.Proofs.YtcninjadeagenaaW.PrintWords Go.Proofs.YtcninjadeagenaaW.PrintLast Go.Proofs.YtcninjadeagenaaW.PrintMore
set_option linter.unusedVariables false
set_option linter.unusedSimpArgs false

theorem xor_ones_i64 (x : Int) (h0 : -9223372036854775808 ≤ x) (h1 : x ≤ 9223372036854775807) : Go.bits .xor .i64 x (-1) = -1 - x := by
  have e : BitVec.ofInt 64 (-1) = BitVec.allOnes 64 := by decide
  show IntKind.i64.wrap ((BitVec.ofInt 64 x ^^^ BitVec.ofInt 64 (-1)).toNat : Int) = _
  rw [e, BitVec.xor_allOnes, BitVec.toNat_not, BitVec.toNat_ofInt, IntKind.wrap_i64]
  omega
theorem xor_zero_i64 (x : Int) (h0 : -9223372036854775808 ≤ x) (h1 : x ≤ 9223372036854775807) : Go.bits .xor .i64 x 0 = x := by
  have e : BitVec.ofInt 64 0 = 0#64 := by decide
  show IntKind.i64.wrap ((BitVec.ofInt 64 x ^^^ BitVec.ofInt 64 0).toNat : Int) = _
  rw [e, BitVec.xor_zero, BitVec.toNat_ofInt, IntKind.wrap_i64]
  omega
theorem xor_ones_u64 (x : Int) (h0 : 0 ≤ x) (h1 : x < 18446744073709551616) : Go.bits .xor .u64 x 18446744073709551615 = 18446744073709551615 - x := by
  have e : BitVec.ofInt 64 18446744073709551615 = BitVec.allOnes 64 := by decide
  show IntKind.u64.wrap ((BitVec.ofInt 64 x ^^^ BitVec.ofInt 64 18446744073709551615).toNat : Int) = _
  rw [e, BitVec.xor_allOnes, BitVec.toNat_not, BitVec.toNat_ofInt, u64_eq]
  omega
theorem xor_zero_u64 (x : Int) (h0 : 0 ≤ x) (h1 : x < 18446744073709551616) : Go.bits .xor .u64 x 0 = x := by
  have e : BitVec.ofInt 64 0 = 0#64 := by decide
  show IntKind.u64.wrap ((BitVec.ofInt 64 x ^^^ BitVec.ofInt 64 0).toNat : Int) = _
  rw [e, BitVec.xor_zero, BitVec.toNat_ofInt, u64_eq]
  omega
theorem and1_u64 (x : Int) (h0 : 0 ≤ x) (h1 : x < 18446744073709551616) : Go.bits .and .u64 x 1 = x % 2 := by
  have := bits_mask .u64 64 (by decide) wraps_u64 1 (by decide) x h0 (by omega)
  simpa using this

def zig (n : Int) : Int := if 0 ≤ n then 2 * n else -2 * n - 1
def zag (u : Int) : Int := if u % 2 = 0 then u / 2 else -(u / 2) - 1
theorem Zig_f (n : Int) (h0 : -9223372036854775808 ≤ n) (h1 : n ≤ 9223372036854775807) : wire_Zig.f n = some (zig n) := by
  rw [wire_Zig.f, zig]
  congr 1
  by_cases h : 0 ≤ n
  · rw [if_pos h, u64_id h (by omega), u64_id (by omega) (by omega), show n / 9223372036854775808 = 0 from by omega, show IntKind.u64.wrap 0 = 0 from by rw [u64_eq]; rfl, xor_zero_u64 _ (by omega) (by omega)]
    omega
  · rw [if_neg h, show n / 9223372036854775808 = -1 from by omega, show IntKind.u64.wrap (-1) = 18446744073709551615 from by rw [u64_eq]; rfl, xor_ones_u64 _ (by rw [u64_eq]; omega) (by rw [u64_eq]; omega), u64_eq n, u64_eq]
    omega
theorem Zag_f (u : Int) (h0 : 0 ≤ u) (h1 : u < 18446744073709551616) : wire_Zag.f u = some (zag u) := by
  rw [wire_Zag.f, zag, and1_u64 u h0 h1, wrap64_id (x := u / 2) (by omega) (by omega), wrap64_id (x := u % 2) (by omega) (by omega), wrap64_id (by omega) (by omega)]
  congr 1
  by_cases h : u % 2 = 0
  · rw [if_pos h, h, show (-0 : Int) = 0 from rfl, xor_zero_i64 _ (by omega) (by omega)]
  · rw [if_neg h, show u % 2 = 1 from by omega, xor_ones_i64 _ (by omega) (by omega)]
    omega
theorem zig_range {n : Int} (h0 : -9223372036854775808 ≤ n) (h1 : n ≤ 9223372036854775807) : 0 ≤ zig n ∧ zig n < 18446744073709551616 := by unfold zig; split <;> omega
theorem zag_range {u : Int} (h0 : 0 ≤ u) (h1 : u < 18446744073709551616) : -9223372036854775808 ≤ zag u ∧ zag u ≤ 9223372036854775807 := by unfold zag; split <;> omega
theorem zag_zig (n : Int) : zag (zig n) = n := by unfold zag zig; split <;> split <;> omega
theorem zig_zag (u : Int) (h0 : 0 ≤ u) : zig (zag u) = u := by unfold zag zig; split <;> split <;> omega

theorem or1_u64 (n : Int) (h0 : 0 ≤ n) (h1 : n < 18446744073709551616) : Go.bits .or .u64 n 1 = ((n.toNat ||| 1 : Nat) : Int) := by
  have := (bits_nat .u64 64 (by decide) wraps_u64 n.toNat 1 (by omega) (by decide)).2
  rwa [show ((n.toNat : Nat) : Int) = n from by omega] at this
theorem Size_f (n : Int) (h0 : 0 ≤ n) (h1 : n < 18446744073709551616) : wire_Size.f n = some ((vi n.toNat).length : Int) := by
  have hor : n.toNat ||| 1 < 18446744073709551616 := by rw [or1_nat]; omega
  have hl : Lib.bitLen (n.toNat ||| 1) ≤ 64 := Lib.bitLen_le _ 64 (by omega) (by omega)
  have hs := size_vi n.toNat (by omega)
  rw [wire_Size.f, or1_u64 n h0 h1, bits_Len64.f, if_pos (by omega), if_pos (by omega)]
  simp only [Option.bind_some, Int.toNat_natCast]
  rw [wrap64_id (x := (Lib.bitLen (n.toNat ||| 1) : Int) + 6) (by omega) (by omega), Int.tdiv_eq_ediv_of_nonneg (by omega), wrap64_id (by omega) (by omega), ← hs]
  congr 1
end Go.Proofs.Ytcninjadeagenaa.WS
