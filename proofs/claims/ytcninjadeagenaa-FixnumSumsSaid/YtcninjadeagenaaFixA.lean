/- Sums, differences, products, quotients, rests and turned numbers of 64 bits: what the program and the reference come to is the exact number, or that it leaves 64 bits. No condition but those that each lemma names. -/
import Derived.Test.YtcninjadeagenaaHFixnumx1
import Derived.Test.YtcninjadeagenaaHFixnumx2
import Derived.Test.YtcninjadeagenaaHFixnumx3
import Derived.Test.YtcninjadeagenaaHFixnumx4
namespace Go.Proofs.Ytcninjadeagenaa.FX
open Go.RowKit Go.Proofs.Ytcninjadeagenaa.HFixnum Go.Proofs.YtcninjadeagenaaW.PrintWords Go.Proofs.YtcninjadeagenaaW.PrintLast Go.Proofs.YtcninjadeagenaaW.PrintMore
set_option linter.unusedVariables false
set_option linter.unusedSimpArgs false

theorem wrap64_id {x : Int} (h0 : -9223372036854775808 ≤ x) (h1 : x ≤ 9223372036854775807) : wrap64 x = x := by unfold wrap64; omega
theorem u64_eq (n : Int) : IntKind.u64.wrap n = n % 18446744073709551616 := by simp [IntKind.wrap, IntKind.bits, IntKind.signed]
theorem u64_id {x : Int} (h0 : 0 ≤ x) (h1 : x < 18446744073709551616) : IntKind.u64.wrap x = x := by rw [u64_eq]; omega
theorem wraps_u64 (n : Int) (h₀ : 0 ≤ n) (h₁ : n < 2 ^ 64) : IntKind.u64.wrap n = n := u64_id h₀ (by omega)

def inR (x : Int) : Prop := -9223372036854775808 ≤ x ∧ x ≤ 9223372036854775807
instance (x : Int) : Decidable (inR x) := inferInstanceAs (Decidable (_ ∧ _))
/-- A number, if it is one of 64 bits. -/
def tell (x : Int) : Int × Bool := if inR x then (x, true) else (0, false)
theorem tell_in {x : Int} (h : inR x) : tell x = (x, true) := if_pos h
theorem tell_out {x : Int} (h : ¬ inR x) : tell x = (0, false) := if_neg h
theorem told_f (n : Int) (b : Bool) : fixnum_told.f n b = some (if b = true then (n, true) else (0, false)) := by unfold fixnum_told.f; split <;> rfl

theorem Add_f {a b : Int} (ha : inR a) (hb : inR b) : fixnum_Add.f a b = some (tell (a + b)) := by
  unfold inR at ha hb
  rw [fixnum_Add.f, told_f]
  simp only [Option.bind_some]
  by_cases h : inR (a + b)
  · rw [tell_in h]
    unfold inR at h
    rw [wrap64_id h.1 h.2]
    have e : (decide (a + b > a) == decide (b > 0)) = true := by
      by_cases hb0 : b > 0 <;> simp [hb0] <;> omega
    rw [e]
    rfl
  · rw [tell_out h]
    unfold inR at h
    have e : (decide (wrap64 (a + b) > a) == decide (b > 0)) = false := by
      by_cases hb0 : b > 0
      · have : ¬ wrap64 (a + b) > a := by unfold wrap64; omega
        simp only [decide_eq_true hb0, decide_eq_false this]
        rfl
      · have : wrap64 (a + b) > a := by unfold wrap64; omega
        simp only [decide_eq_false hb0, decide_eq_true this]
        rfl
    rw [e]
    rfl
theorem Sub_f {a b : Int} (ha : inR a) (hb : inR b) : fixnum_Sub.f a b = some (tell (a - b)) := by
  unfold inR at ha hb
  rw [fixnum_Sub.f, told_f]
  simp only [Option.bind_some]
  by_cases h : inR (a - b)
  · rw [tell_in h]
    unfold inR at h
    rw [wrap64_id h.1 h.2]
    have e : (decide (a - b < a) == decide (b > 0)) = true := by
      by_cases hb0 : b > 0 <;> simp [hb0] <;> omega
    rw [e]
    rfl
  · rw [tell_out h]
    unfold inR at h
    have e : (decide (wrap64 (a - b) < a) == decide (b > 0)) = false := by
      by_cases hb0 : b > 0
      · have : ¬ wrap64 (a - b) < a := by unfold wrap64; omega
        simp only [decide_eq_true hb0, decide_eq_false this]
        rfl
      · have : wrap64 (a - b) < a := by unfold wrap64; omega
        simp only [decide_eq_false hb0, decide_eq_true this]
        rfl
    rw [e]
    rfl
theorem refAdd_f {a b : Int} (ha : inR a) (hb : inR b) : tripwireref01_Add.f a b = some (tell (a + b)) := by
  unfold inR at ha hb
  unfold tripwireref01_Add.f
  by_cases h : inR (a + b)
  · rw [tell_in h]
    unfold inR at h
    rw [wrap64_id h.1 h.2]
    by_cases h1 : b > 0
    · rw [if_pos h1, wrap64_id (by omega) (by omega), if_neg (by omega), if_neg (by omega)]
    · rw [if_neg h1]
      by_cases h2 : b < 0
      · rw [if_pos h2, wrap64_id (by omega) (by omega), if_neg (by omega)]
      · rw [if_neg h2]
  · rw [tell_out h]
    unfold inR at h
    by_cases h1 : b > 0
    · rw [if_pos h1, wrap64_id (by omega) (by omega), if_pos (by omega)]
    · rw [if_neg h1, if_pos (by omega), wrap64_id (by omega) (by omega), if_pos (by omega)]
theorem refSub_f {a b : Int} (ha : inR a) (hb : inR b) : tripwireref01_Sub.f a b = some (tell (a - b)) := by
  unfold inR at ha hb
  unfold tripwireref01_Sub.f
  by_cases h : inR (a - b)
  · rw [tell_in h]
    unfold inR at h
    rw [wrap64_id h.1 h.2]
    by_cases h1 : b < 0
    · rw [if_pos h1, wrap64_id (by omega) (by omega), if_neg (by omega), if_neg (by omega)]
    · rw [if_neg h1]
      by_cases h2 : b > 0
      · rw [if_pos h2, wrap64_id (by omega) (by omega), if_neg (by omega)]
      · rw [if_neg h2]
  · rw [tell_out h]
    unfold inR at h
    by_cases h1 : b < 0
    · rw [if_pos h1, wrap64_id (by omega) (by omega), if_pos (by omega)]
    · rw [if_neg h1, if_pos (by omega), wrap64_id (by omega) (by omega), if_pos (by omega)]
theorem Neg_f {a : Int} (ha : inR a) : fixnum_Neg.f a = some (tell (-a)) := by
  unfold inR at ha
  rw [fixnum_Neg.f, told_f]
  simp only [Option.bind_some]
  by_cases h : a = -9223372036854775808
  · subst h
    rw [tell_out (by unfold inR; omega)]
    rfl
  · rw [tell_in (by unfold inR; omega), wrap64_id (by omega) (by omega), show (a != -9223372036854775808) = true from bne_iff_ne.mpr h]
    rfl
theorem refNeg_f {a : Int} (ha : inR a) : tripwireref01_Neg.f a = some (tell (-a)) := by
  unfold inR at ha
  unfold tripwireref01_Neg.f
  by_cases h : a = -9223372036854775808
  · rw [if_pos h, tell_out (by unfold inR; omega)]
  · rw [if_neg h, tell_in (by unfold inR; omega), wrap64_id (by omega) (by omega)]

/-! ### sizes and signs -/
def ab (a : Int) : Int := if a < 0 then -a else a
theorem ab_range {a : Int} (ha : inR a) : 0 ≤ ab a ∧ ab a ≤ 9223372036854775808 := by unfold inR at ha; unfold ab; split <;> omega
theorem size_f {a : Int} (ha : inR a) : fixnum_size.f a = some (ab a) := by
  unfold inR at ha
  unfold fixnum_size.f ab
  by_cases h : a < 0
  · rw [if_pos h, if_pos h, u64_eq, u64_eq]
    congr 1
    omega
  · rw [if_neg h, if_neg h, u64_id (by omega) (by omega)]
theorem refsize_f {a : Int} (ha : inR a) : tripwireref01_size.f a = some (ab a) := by
  unfold inR at ha
  unfold tripwireref01_size.f ab
  by_cases h0 : a = -9223372036854775808
  · subst h0
    rfl
  · rw [if_neg h0]
    by_cases h : a < 0
    · rw [if_pos h, if_pos h, wrap64_id (by omega) (by omega), u64_id (by omega) (by omega)]
    · rw [if_neg h, if_neg h, u64_id (by omega) (by omega)]
/-- A size with its sign. -/
def sg (n : Int) (m : Bool) : Int := if m = true then -n else n
theorem signed_f {n : Int} (h0 : 0 ≤ n) (h1 : n < 18446744073709551616) (m : Bool) : fixnum_signed.f n m = some (tell (sg n m)) := by
  unfold fixnum_signed.f sg
  cases m with
  | true =>
    rw [if_pos rfl, if_pos rfl, told_f]
    simp only [Option.bind_some]
    by_cases h : n ≤ 9223372036854775808
    · rw [tell_in (by unfold inR; omega), decide_eq_true h]
      have e : wrap64 (-wrap64 n) = -n := by unfold wrap64; omega
      rw [e]
      rfl
    · rw [tell_out (by unfold inR; omega), decide_eq_false h]
      rfl
  | false =>
    rw [if_neg (by simp), if_neg (by simp), told_f]
    simp only [Option.bind_some]
    by_cases h : n ≤ 9223372036854775807
    · rw [tell_in (by unfold inR; omega), decide_eq_true h, wrap64_id (by omega) (by omega)]
      rfl
    · rw [tell_out (by unfold inR; omega), decide_eq_false h]
      rfl
theorem refsigned_f (k : Nat) {n : Int} (h0 : 0 ≤ n) (h1 : n < 18446744073709551616) (m : Bool) : tripwireref01_signed.f (k + 1) n m = some (tell (sg n m)) := by
  unfold tripwireref01_signed.f sg
  cases m with
  | true =>
    rw [if_pos rfl, if_pos rfl]
    simp only [tripwireref01_signed.j0]
    by_cases he : n = 9223372036854775808
    · subst he
      rw [if_pos (by decide), tell_in (by unfold inR; omega)]
    · rw [if_neg (by simpa using he)]
      by_cases h : n > 9223372036854775807
      · rw [if_pos h, tell_out (by unfold inR; omega)]
      · rw [if_neg h, if_pos trivial, tell_in (by unfold inR; omega), wrap64_id (x := n) (by omega) (by omega), wrap64_id (by omega) (by omega)]
  | false =>
    rw [if_neg (by simp), if_neg (by simp)]
    simp only [tripwireref01_signed.j0]
    rw [if_neg (by simp)]
    by_cases h : n > 9223372036854775807
    · rw [if_pos h, tell_out (by unfold inR; omega)]
    · rw [if_neg h, if_neg (by simp), tell_in (by unfold inR; omega), wrap64_id (by omega) (by omega)]

/-! ### products of sizes -/
theorem prod4 (a b c d B : Int) : (a * B + b) * (c * B + d) = a * c * (B * B) + (a * d + b * c) * B + b * d := by
  simp only [Int.add_mul, Int.mul_add]
  ac_rfl
theorem and32 (x : Int) (h0 : 0 ≤ x) (h1 : x < 18446744073709551616) : Go.bits .and .u64 x 4294967295 = x % 4294967296 := by
  have := bits_mask .u64 64 (by decide) wraps_u64 32 (by decide) x h0 (by omega)
  simpa using this
theorem halves (x : Int) (h0 : 0 ≤ x) (h1 : x < 18446744073709551616) : x = x / 4294967296 * 4294967296 + x % 4294967296 ∧ 0 ≤ x / 4294967296 ∧ x / 4294967296 ≤ 4294967295 ∧ 0 ≤ x % 4294967296 ∧ x % 4294967296 ≤ 4294967295 := by omega
theorem prod_le {a b A B : Int} (ha0 : 0 ≤ a) (ha : a ≤ A) (hb0 : 0 ≤ b) (hb : b ≤ B) : 0 ≤ a * b ∧ a * b ≤ A * B :=
  ⟨Int.mul_nonneg ha0 hb0, Int.le_trans (Int.mul_le_mul_of_nonneg_right ha hb0) (Int.mul_le_mul_of_nonneg_left hb (by omega))⟩
theorem Mul64_f {x y : Int} (hx0 : 0 ≤ x) (hx : x < 18446744073709551616) (hy0 : 0 ≤ y) (hy : y < 18446744073709551616) : bits_Mul64.f x y = some (x * y / 18446744073709551616, x * y % 18446744073709551616) := by
  obtain ⟨ex, x1, x2, x3, x4⟩ := halves x hx0 hx
  obtain ⟨ey, y1, y2, y3, y4⟩ := halves y hy0 hy
  have e := prod4 (x / 4294967296) (x % 4294967296) (y / 4294967296) (y % 4294967296) 4294967296
  rw [← ex, ← ey, Int.add_mul] at e
  unfold bits_Mul64.f
  rw [and32 x hx0 hx, and32 y hy0 hy, u64_eq (x * y)]
  have p11 := prod_le x1 x2 y1 y2
  have p10 := prod_le x1 x2 y3 y4
  have p01 := prod_le x3 x4 y1 y2
  have p00 := prod_le x3 x4 y3 y4
  generalize x / 4294967296 * (y / 4294967296) = q11 at e p11 ⊢
  generalize x / 4294967296 * (y % 4294967296) = q10 at e p10 ⊢
  generalize x % 4294967296 * (y / 4294967296) = q01 at e p01 ⊢
  generalize x % 4294967296 * (y % 4294967296) = q00 at e p00 ⊢
  generalize x * y = P at e ⊢
  clear ex ey x1 x2 x3 x4 y1 y2 y3 y4 hx0 hx hy0 hy
  rw [u64_id (x := q00) (by omega) (by omega), u64_id (x := q10) (by omega) (by omega), u64_id (x := q01) (by omega) (by omega), u64_id (x := q11) (by omega) (by omega)]
  rw [u64_id (x := q10 + q00 / 4294967296) (by omega) (by omega), and32 _ (by omega) (by omega)]
  rw [u64_id (x := (q10 + q00 / 4294967296) % 4294967296 + q01) (by omega) (by omega), u64_id (x := q11 + (q10 + q00 / 4294967296) / 4294967296) (by omega) (by omega), u64_id (by omega) (by omega)]
  congr 2
  omega
theorem tm {x y : Int} (h : 0 ≤ x) : Int.tmod x y = x % y := Int.tmod_eq_emod_of_nonneg h
theorem td {x y : Int} (h : 0 ≤ x) : Int.tdiv x y = x / y := Int.tdiv_eq_ediv_of_nonneg h
theorem wide_f {x y : Int} (hx0 : 0 ≤ x) (hx : x < 18446744073709551616) (hy0 : 0 ≤ y) (hy : y < 18446744073709551616) : tripwireref01_wide.f x y = some (x * y / 18446744073709551616, x * y % 18446744073709551616) := by
  obtain ⟨ex, x1, x2, x3, x4⟩ := halves x hx0 hx
  obtain ⟨ey, y1, y2, y3, y4⟩ := halves y hy0 hy
  have e := prod4 (x / 4294967296) (x % 4294967296) (y / 4294967296) (y % 4294967296) 4294967296
  rw [← ex, ← ey, Int.add_mul] at e
  unfold tripwireref01_wide.f
  rw [td hx0, td hy0, tm hx0, tm hy0, u64_id (x := x / 4294967296) (by omega) (by omega), u64_id (x := y / 4294967296) (by omega) (by omega)]
  have p11 := prod_le x1 x2 y1 y2
  have p10 := prod_le x1 x2 y3 y4
  have p01 := prod_le x3 x4 y1 y2
  have p00 := prod_le x3 x4 y3 y4
  generalize x / 4294967296 * (y / 4294967296) = q11 at e p11 ⊢
  generalize x / 4294967296 * (y % 4294967296) = q10 at e p10 ⊢
  generalize x % 4294967296 * (y / 4294967296) = q01 at e p01 ⊢
  generalize x % 4294967296 * (y % 4294967296) = q00 at e p00 ⊢
  generalize x * y = P at e ⊢
  clear ex ey x1 x2 x3 x4 y1 y2 y3 y4 hx0 hx hy0 hy
  rw [u64_id (x := q00) (by omega) (by omega), u64_id (x := q10) (by omega) (by omega), u64_id (x := q01) (by omega) (by omega), u64_id (x := q11) (by omega) (by omega)]
  rw [td (x := q00) (by omega), td (x := q10) (by omega), td (x := q01) (by omega), tm (x := q00) (by omega), tm (x := q10) (by omega), tm (x := q01) (by omega)]
  rw [u64_id (x := q00 / 4294967296) (by omega) (by omega), u64_id (x := q10 / 4294967296) (by omega) (by omega), u64_id (x := q01 / 4294967296) (by omega) (by omega)]
  rw [u64_id (x := q00 / 4294967296 + q10 % 4294967296) (by omega) (by omega), u64_id (x := q00 / 4294967296 + q10 % 4294967296 + q01 % 4294967296) (by omega) (by omega)]
  rw [td (x := q00 / 4294967296 + q10 % 4294967296 + q01 % 4294967296) (by omega), tm (x := q00 / 4294967296 + q10 % 4294967296 + q01 % 4294967296) (by omega)]
  rw [u64_id (x := (q00 / 4294967296 + q10 % 4294967296 + q01 % 4294967296) / 4294967296) (by omega) (by omega), u64_id (x := q11 + q10 / 4294967296) (by omega) (by omega), u64_id (x := q11 + q10 / 4294967296 + q01 / 4294967296) (by omega) (by omega), u64_id (x := q11 + q10 / 4294967296 + q01 / 4294967296 + (q00 / 4294967296 + q10 % 4294967296 + q01 % 4294967296) / 4294967296) (by omega) (by omega)]
  rw [u64_id (x := (q00 / 4294967296 + q10 % 4294967296 + q01 % 4294967296) % 4294967296 * 4294967296) (by omega) (by omega), u64_id (by omega) (by omega)]
  congr 2 <;> omega

/-- The sign of a product, of a quotient. -/
theorem sg_ab (a b : Int) : sg (ab a * ab b) (decide (a < 0) != decide (b < 0)) = a * b := by
  unfold sg ab
  by_cases h1 : a < 0 <;> by_cases h2 : b < 0 <;> simp [h1, h2, Int.neg_mul, Int.mul_neg]
theorem Mul_f {a b : Int} (ha : inR a) (hb : inR b) : fixnum_Mul.f a b = some (tell (a * b)) := by
  have A := ab_range ha
  have B := ab_range hb
  rw [fixnum_Mul.f, size_f ha, size_f hb]
  simp only [Option.bind_some]
  rw [Mul64_f A.1 (by omega) B.1 (by omega)]
  simp only [Option.bind_some]
  have hp := prod_le A.1 A.2 B.1 B.2
  have hs := sg_ab a b
  by_cases h : ab a * ab b / 18446744073709551616 = 0
  · rw [if_pos h, signed_f (by omega) (by omega), show ab a * ab b % 18446744073709551616 = ab a * ab b from by omega, hs]
    rfl
  · rw [if_neg h, tell_out ?_]
    rw [← hs]
    unfold sg inR
    split <;> omega
theorem refMul_f (k : Nat) {a b : Int} (ha : inR a) (hb : inR b) : tripwireref01_Mul.f (k + 1) a b = some (tell (a * b)) := by
  have A := ab_range ha
  have B := ab_range hb
  rw [tripwireref01_Mul.f, refsize_f ha, refsize_f hb]
  simp only [Option.bind_some]
  rw [wide_f A.1 (by omega) B.1 (by omega)]
  simp only [Option.bind_some]
  have hp := prod_le A.1 A.2 B.1 B.2
  have hs := sg_ab a b
  by_cases h : ab a * ab b / 18446744073709551616 > 0
  · rw [if_pos h, tell_out ?_]
    rw [← hs]
    unfold sg inR
    split <;> omega
  · rw [if_neg h, refsigned_f k (by omega) (by omega), show ab a * ab b % 18446744073709551616 = ab a * ab b from by omega, hs]
    rfl

/-! ### quotients and rests -/
theorem tdiv_ab (a b : Int) : Int.tdiv a b = sg (ab a / ab b) (decide (a < 0) != decide (b < 0)) := by
  unfold sg ab
  by_cases h1 : a < 0 <;> by_cases h2 : b < 0
  · simp only [h1, h2, if_pos]
    rw [if_neg (by simp), ← Int.tdiv_eq_ediv_of_nonneg (by omega), Int.neg_tdiv, Int.tdiv_neg, Int.neg_neg]
  · simp only [h1, h2, if_pos, if_neg, not_false_eq_true]
    rw [if_pos (by simp), ← Int.tdiv_eq_ediv_of_nonneg (by omega), Int.neg_tdiv, Int.neg_neg]
  · simp only [h1, h2, if_pos, if_neg, not_false_eq_true]
    rw [if_pos (by simp), ← Int.tdiv_eq_ediv_of_nonneg (by omega), Int.tdiv_neg, Int.neg_neg]
  · simp only [h1, h2, if_neg, not_false_eq_true]
    rw [if_neg (by simp), ← Int.tdiv_eq_ediv_of_nonneg (by omega)]
theorem tmod_ab (a b : Int) : Int.tmod a b = sg (ab a % ab b) (decide (a < 0)) := by
  unfold sg ab
  by_cases h1 : a < 0 <;> by_cases h2 : b < 0
  · simp only [h1, h2, if_pos, decide_true]
    rw [← Int.tmod_eq_emod_of_nonneg (by omega), Int.neg_tmod, Int.tmod_neg, Int.neg_neg]
  · simp only [h1, h2, if_pos, if_neg, not_false_eq_true, decide_true]
    rw [← Int.tmod_eq_emod_of_nonneg (by omega), Int.neg_tmod, Int.neg_neg]
  · simp only [h1, h2, if_pos, if_neg, not_false_eq_true, decide_false]
    rw [if_neg (by simp), ← Int.tmod_eq_emod_of_nonneg (by omega), Int.tmod_neg]
  · simp only [h1, h2, if_neg, not_false_eq_true, decide_false]
    rw [if_neg (by simp), ← Int.tmod_eq_emod_of_nonneg (by omega)]
theorem ab_pos {b : Int} (h : b ≠ 0) : 0 < ab b := by unfold ab; split <;> omega
theorem ediv_le {n d : Int} (h0 : 0 ≤ n) (hd : 0 < d) : 0 ≤ n / d ∧ n / d ≤ n := ⟨Int.ediv_nonneg h0 (by omega), Int.ediv_le_self d h0⟩
theorem tdiv_bounds {a b : Int} (ha : inR a) (hb : b ≠ 0) : -9223372036854775808 ≤ Int.tdiv a b ∧ Int.tdiv a b ≤ 9223372036854775808 := by
  have A := ab_range ha
  have q := ediv_le A.1 (ab_pos hb)
  rw [tdiv_ab]
  unfold sg
  split <;> omega
/-- What a quotient comes to: 0 and false at nought. -/
def dv (a b : Int) : Int × Bool := if b = 0 then (0, false) else tell (Int.tdiv a b)
def md (a b : Int) : Int × Bool := if b = 0 then (0, false) else (Int.tmod a b, true)
theorem Div_f {a b : Int} (ha : inR a) (hb : inR b) : fixnum_Div.f a b = some (dv a b) := by
  unfold fixnum_Div.f dv
  by_cases h : b = 0
  · rw [if_pos h, if_pos h]
  · rw [if_neg h, if_neg h]
    have hq := tdiv_bounds ha h
    have key : Int.tdiv a b ≤ 9223372036854775807 → some (wrap64 (Int.tdiv a b), true) = some (tell (Int.tdiv a b)) := by
      intro hle
      rw [tell_in (by unfold inR; omega), wrap64_id (by omega) hle]
    by_cases h1 : a = -9223372036854775808
    · rw [if_pos h1]
      by_cases h2 : b = -1
      · subst h1 h2
        rfl
      · rw [if_neg h2]
        refine key ?_
        have hb2 := hb
        unfold inR at hb2
        rw [tdiv_ab, h1]
        have hab : ab b = 1 ∨ 2 ≤ ab b := by unfold ab; split <;> omega
        have e : ab (-9223372036854775808) = 9223372036854775808 := by decide
        rw [e]
        rcases hab with hab | hab
        · rw [hab]
          have hb1 : b = 1 := by unfold ab at hab; split at hab <;> omega
          subst hb1
          decide
        · have hle : (9223372036854775808 : Int) / ab b ≤ 9223372036854775808 / 2 := by
            have h3 : (9223372036854775808 : Int) / ab b * ab b ≤ 9223372036854775808 := Int.ediv_mul_le _ (by omega)
            have h4 : 0 ≤ (9223372036854775808 : Int) / ab b := Int.ediv_nonneg (by omega) (by omega)
            have h5 : (9223372036854775808 : Int) / ab b * 2 ≤ 9223372036854775808 / ab b * ab b := Int.mul_le_mul_of_nonneg_left hab h4
            omega
          have h4 : 0 ≤ (9223372036854775808 : Int) / ab b := Int.ediv_nonneg (by omega) (by omega)
          unfold sg
          split <;> omega
    · rw [if_neg h1]
      refine key ?_
      rw [tdiv_ab]
      have A : ab a ≤ 9223372036854775807 := by unfold inR at ha; unfold ab; split <;> omega
      have q := ediv_le (ab_range ha).1 (ab_pos h)
      unfold sg
      split <;> omega
theorem Mod_f {a b : Int} : fixnum_Mod.f a b = some (md a b) := by
  unfold fixnum_Mod.f md
  split <;> rfl
theorem refDiv_f (k : Nat) {a b : Int} (ha : inR a) (hb : inR b) : tripwireref01_Div.f (k + 1) a b = some (dv a b) := by
  unfold tripwireref01_Div.f dv
  by_cases h : b = 0
  · rw [if_pos h, if_pos h]
  · have A := ab_range ha
    have q := ediv_le A.1 (ab_pos h)
    have hp := ab_pos h
    rw [if_neg h, if_neg h, refsize_f ha, refsize_f hb]
    simp only [Option.bind_some]
    rw [if_neg (by omega), td A.1, u64_id (by omega) (by omega), refsigned_f k (by omega) (by omega), ← tdiv_ab]
    rfl
theorem refMod_f (k : Nat) {a b : Int} (ha : inR a) (hb : inR b) : tripwireref01_Mod.f (k + 1) a b = some (md a b) := by
  unfold tripwireref01_Mod.f md
  by_cases h : b = 0
  · rw [if_pos h, if_pos h]
  · have A := ab_range ha
    have B := ab_range hb
    have hp := ab_pos h
    have m0 := Int.emod_nonneg (ab a) (show ab b ≠ 0 by omega)
    have m1 := Int.emod_lt_of_pos (ab a) hp
    rw [if_neg h, if_neg h, refsize_f ha, refsize_f hb]
    simp only [Option.bind_some]
    rw [if_neg (by omega), tm A.1, refsigned_f k (by omega) (by omega), ← tmod_ab]
    simp only [Option.bind_some]
    rw [tell_in ?_]
    rw [tmod_ab]
    unfold inR sg
    split <;> omega

/-! ### comparison -/
def cm (a b : Int) : Int := if a < b then -1 else if a > b then 1 else 0
theorem Cmp_f (a b : Int) : fixnum_Cmp.f a b = some (cm a b) := by
  simp only [fixnum_Cmp.f, cmp_Compare_int64.f, cmp_isNaN_int64.f, Option.bind_some, bne_self_eq_false, cm]
  rw [if_neg (by simp), if_neg (by simp)]
  split
  · rfl
  · split <;> rfl
theorem refCmp_f (a b : Int) : tripwireref01_Cmp.f a b = some (cm a b) := by
  unfold tripwireref01_Cmp.f cm
  split
  · rfl
  · split <;> rfl
end Go.Proofs.Ytcninjadeagenaa.FX
