/- A number of two words divided by one of one word, as the library does it: the quotient is the exact one. No condition but those that each lemma names. -/
import Derived.Test.YtcninjadeagenaaFixA
namespace Go.Proofs.Ytcninjadeagenaa.FX
open Go.RowKit Go.Proofs.Ytcninjadeagenaa.HFixnum Go.Proofs.YtcninjadeagenaaW.PrintWords Go.Proofs.YtcninjadeagenaaW.PrintLast Go.Proofs.YtcninjadeagenaaW.PrintMore
set_option linter.unusedVariables false
set_option linter.unusedSimpArgs false

/-! ### one digit of the quotient -/
theorem quot_unique {q A Y : Int} (hY : 0 < Y) (h1 : q * Y ≤ A) (h2 : A < (q + 1) * Y) : A / Y = q := by
  have a : q ≤ A / Y := Int.le_ediv_of_mul_le hY h1
  have b : A / Y < q + 1 := Int.ediv_lt_of_lt_mul hY h2
  omega
theorem digit_prod (q a b B : Int) : q * (a * B + b) = q * a * B + q * b := by
  rw [Int.mul_add, Int.mul_assoc]

/-- What the loop over a digit keeps: q is not too small, and rhat is what q leaves. -/
structure Dg (Y y1 y0 u A : Int) (q r : Int) : Prop where
  left : q * y1 + r = u
  r0 : 0 ≤ r
  r1 : r < 4294967296
  q0 : 0 ≤ q
  up : A < (q + 1) * Y
/-- The division at hand. -/
structure Dv (Y y1 y0 u v A : Int) : Prop where
  hY : Y = y1 * 4294967296 + y0
  a1 : 2147483648 ≤ y1
  a2 : y1 ≤ 4294967295
  b1 : 0 ≤ y0
  b2 : y0 ≤ 4294967295
  hA : A = u * 4294967296 + v
  v0 : 0 ≤ v
  v1 : v ≤ 4294967295
  u0 : 0 ≤ u
  u1 : u < Y

section
variable {Y y1 y0 u v A q r : Int}
theorem Dv.pos (h : Dv Y y1 y0 u v A) : 0 < Y := by have := h.hY; have := h.a1; have := h.b1; omega
theorem Dg.start (h : Dv Y y1 y0 u v A) : Dg Y y1 y0 u A (u / y1) (u - u / y1 * y1) := by
  have p1 : 0 < y1 := by have := h.a1; omega
  have m := Int.emod_nonneg u (show y1 ≠ 0 by omega)
  have m2 := Int.emod_lt_of_pos u p1
  have e := Int.emod_def u y1
  rw [Int.mul_comm] at e
  have q0 := Int.ediv_nonneg h.u0 (show 0 ≤ y1 by omega)
  refine ⟨by omega, by omega, by have := h.a2; omega, q0, ?_⟩
  have d := digit_prod (u / y1 + 1) y1 y0 4294967296
  rw [← h.hY, Int.add_mul (u / y1) 1 y1] at d
  have hp : 0 ≤ (u / y1 + 1) * y0 := Int.mul_nonneg (by omega) h.b1
  rw [d, h.hA]
  have := h.v1
  omega
theorem Dg.small (h : Dv Y y1 y0 u v A) : u / y1 ≤ 4294967297 := by
  have p1 : 0 < y1 := by have := h.a1; omega
  refine Int.le_of_lt_add_one (Int.ediv_lt_of_lt_mul p1 ?_)
  have := h.hY; have := h.a1; have := h.b2; have := h.u1
  omega
/-- q times the divisor, told by what q leaves. -/
theorem Dg.prod (h : Dv Y y1 y0 u v A) (g : Dg Y y1 y0 u A q r) : q * Y = (u - r) * 4294967296 + q * y0 := by
  rw [h.hY, digit_prod, show q * y1 = u - r from by have := g.left; omega]
theorem Dg.fin (h : Dv Y y1 y0 u v A) (g : Dg Y y1 y0 u A q r) (ht : q * y0 ≤ 4294967296 * r + v) : q = A / Y := by
  refine (quot_unique h.pos ?_ g.up).symm
  rw [g.prod h, h.hA]
  omega
theorem Dg.less (h : Dv Y y1 y0 u v A) (g : Dg Y y1 y0 u A q r) (ht : 4294967296 ≤ q ∨ 4294967296 * r + v < q * y0) : 1 ≤ q ∧ A < (q - 1 + 1) * Y ∧ (q - 1) * y1 + (r + y1) = u := by
  have hq : 1 ≤ q := by
    rcases ht with ht | ht
    · omega
    · rcases Int.lt_or_le q 1 with hq | hq
      · have : q = 0 := by have := g.q0; omega
        subst this
        have := g.r0; have := h.v0
        omega
      · exact hq
  refine ⟨hq, ?_, ?_⟩
  · rw [show q - 1 + 1 = q from by omega]
    rcases ht with ht | ht
    · have : 4294967296 * Y ≤ q * Y := Int.mul_le_mul_of_nonneg_right ht (Int.le_of_lt h.pos)
      have := h.hA; have := h.u1; have := h.v1
      omega
    · rw [g.prod h, h.hA]
      omega
  · rw [Int.sub_mul]
    have := g.left
    omega
theorem Dg.next (h : Dv Y y1 y0 u v A) (g : Dg Y y1 y0 u A q r) (ht : 4294967296 ≤ q ∨ 4294967296 * r + v < q * y0) (hr : r + y1 < 4294967296) : Dg Y y1 y0 u A (q - 1) (r + y1) := by
  obtain ⟨a, b, c⟩ := g.less h ht
  exact ⟨c, by have := g.r0; have := h.a1; omega, hr, by omega, b⟩
theorem Dg.stop (h : Dv Y y1 y0 u v A) (g : Dg Y y1 y0 u A q r) (hq : q ≤ 4294967297) (ht : 4294967296 ≤ q ∨ 4294967296 * r + v < q * y0) (hr : 4294967296 ≤ r + y1) : q - 1 = A / Y := by
  obtain ⟨a, b, c⟩ := g.less h ht
  refine (quot_unique h.pos ?_ b).symm
  have p := digit_prod (q - 1) y1 y0 4294967296
  rw [← h.hY, show (q - 1) * y1 = u - (r + y1) from by omega] at p
  have hp : (q - 1) * y0 ≤ 4294967296 * y0 := Int.mul_le_mul_of_nonneg_right (by omega) h.b1
  rw [p, h.hA]
  have := h.b2; have := h.v0
  omega
theorem Dv.top (h : Dv Y y1 y0 u v A) : 0 ≤ A / Y ∧ A / Y < 4294967296 := by
  have hA0 : 0 ≤ A := by have := h.hA; have := h.u0; have := h.v0; omega
  refine ⟨Int.ediv_nonneg hA0 (Int.le_of_lt h.pos), Int.ediv_lt_of_lt_mul h.pos ?_⟩
  have := h.hA; have := h.u1; have := h.v1
  rw [Int.mul_comm]
  omega
end

/-- The first digit's loop. -/
theorem div_l0 {Y y1 y0 u v A : Int} (h : Dv Y y1 y0 u v A) (s un0 : Int) (m : Nat) : ∀ (k : Nat) (q r : Int), Dg Y y1 y0 u A q r → q ≤ 4294967297 → 4294967296 - r ≤ m * 2147483648 → 2 * m + 2 ≤ k →
    ∃ k', k ≤ k' + 2 * m ∧ bits_Div64.l0 k Y s y1 y0 u v un0 q r = bits_Div64.j2 k' Y s y1 y0 u v un0 (A / Y) := by
  induction m with
  | zero => intro k q r g hq hm hk; have := g.r1; omega
  | succ m ih =>
    intro k q r g hq hm hk
    obtain ⟨k, rfl⟩ : ∃ n, k = n + 2 := ⟨k - 2, by omega⟩
    have hr0 := g.r0
    have hr1 := g.r1
    have hq0 := g.q0
    have ha1 := h.a1
    have ha2 := h.a2
    have key : ∀ x : Bool, (x = true ↔ (4294967296 ≤ q ∨ 4294967296 * r + v < q * y0)) → ∃ k', k + 2 ≤ k' + 2 * (m + 1) ∧ bits_Div64.j1 (k + 1) Y s y1 y0 u v un0 q r x = bits_Div64.j2 k' Y s y1 y0 u v un0 (A / Y) := by
      intro x hx
      simp only [bits_Div64.j1]
      by_cases ht : 4294967296 ≤ q ∨ 4294967296 * r + v < q * y0
      · rw [if_pos (hx.2 ht), u64_id (x := r + y1) (by omega) (by omega)]
        obtain ⟨q1, _, _⟩ := g.less h ht
        rw [u64_id (x := q - 1) (by omega) (by omega)]
        by_cases hr : 4294967296 ≤ r + y1
        · rw [if_pos hr, g.stop h hq ht hr]
          exact ⟨k, by omega, rfl⟩
        · rw [if_neg hr]
          obtain ⟨k', e1, e2⟩ := ih k (q - 1) (r + y1) (g.next h ht (by omega)) (by omega) (by omega) (by omega)
          exact ⟨k', by omega, e2⟩
      · rw [if_neg (fun hc => ht (hx.1 hc)), g.fin h (by omega)]
        exact ⟨k, by omega, rfl⟩
    simp only [bits_Div64.l0]
    by_cases hb : 4294967296 ≤ q
    · rw [if_pos hb]
      exact key true ⟨fun _ => .inl hb, fun _ => rfl⟩
    · rw [if_neg hb]
      have hp := prod_le hq0 (show q ≤ 4294967295 by omega) h.b1 h.b2
      have hv0 := h.v0
      have hv1 := h.v1
      rw [u64_id (x := q * y0) (by omega) (by omega), u64_id (x := 4294967296 * r) (by omega) (by omega), u64_id (x := 4294967296 * r + v) (by omega) (by omega)]
      refine key _ ?_
      rw [decide_eq_true_iff]
      constructor
      · intro hc; exact .inr hc
      · rintro (hc | hc)
        · exact absurd hc hb
        · exact hc
/-- The second digit's loop; what it leaves is not told. -/
theorem div_l1 {Y y1 y0 u v A : Int} (h : Dv Y y1 y0 u v A) (s Q : Int) (hs : 0 ≤ s) (hQ0 : 0 ≤ Q) (hQ1 : Q < 4294967296) (m : Nat) : ∀ (k : Nat) (q r : Int), Dg Y y1 y0 u A q r → q ≤ 4294967297 → 4294967296 - r ≤ m * 2147483648 → 2 * m + 2 ≤ k →
    ∃ z, bits_Div64.l1 k Y s y1 y0 v Q r u q = some (Q * 4294967296 + A / Y, z) := by
  have htop := h.top
  induction m with
  | zero => intro k q r g hq hm hk; have := g.r1; omega
  | succ m ih =>
    intro k q r g hq hm hk
    obtain ⟨k, rfl⟩ : ∃ n, k = n + 2 := ⟨k - 2, by omega⟩
    have hr0 := g.r0
    have hr1 := g.r1
    have hq0 := g.q0
    have ha1 := h.a1
    have ha2 := h.a2
    have key : ∀ x : Bool, (x = true ↔ (4294967296 ≤ q ∨ 4294967296 * r + v < q * y0)) → ∃ z, bits_Div64.j4 (k + 1) Y s y1 y0 v Q r u q x = some (Q * 4294967296 + A / Y, z) := by
      intro x hx
      simp only [bits_Div64.j4]
      by_cases ht : 4294967296 ≤ q ∨ 4294967296 * r + v < q * y0
      · rw [if_pos (hx.2 ht), u64_id (x := r + y1) (by omega) (by omega)]
        obtain ⟨q1, _, _⟩ := g.less h ht
        rw [u64_id (x := q - 1) (by omega) (by omega)]
        by_cases hr : 4294967296 ≤ r + y1
        · rw [if_pos hr, if_pos hs, g.stop h hq ht hr, u64_id (x := Q * 4294967296) (by omega) (by omega), u64_id (x := Q * 4294967296 + A / Y) (by omega) (by omega)]
          exact ⟨_, rfl⟩
        · rw [if_neg hr]
          exact ih k (q - 1) (r + y1) (g.next h ht (by omega)) (by omega) (by omega) (by omega)
      · rw [if_neg (fun hc => ht (hx.1 hc)), if_pos hs, g.fin h (by omega), u64_id (x := Q * 4294967296) (by omega) (by omega), u64_id (x := Q * 4294967296 + A / Y) (by omega) (by omega)]
        exact ⟨_, rfl⟩
    simp only [bits_Div64.l1]
    by_cases hb : 4294967296 ≤ q
    · rw [if_pos hb]
      exact key true ⟨fun _ => .inl hb, fun _ => rfl⟩
    · rw [if_neg hb]
      have hp := prod_le hq0 (show q ≤ 4294967295 by omega) h.b1 h.b2
      have hv0 := h.v0
      have hv1 := h.v1
      rw [u64_id (x := q * y0) (by omega) (by omega), u64_id (x := 4294967296 * r) (by omega) (by omega), u64_id (x := 4294967296 * r + v) (by omega) (by omega)]
      refine key _ ?_
      rw [decide_eq_true_iff]
      constructor
      · intro hc; exact .inr hc
      · rintro (hc | hc)
        · exact absurd hc hb
        · exact hc

/-- Both digits. -/
theorem div_both {Y y1 y0 u v w A : Int} (h : Dv Y y1 y0 u v A) (hY : Y < 18446744073709551616) (s : Int) (hs : 0 ≤ s) (hw0 : 0 ≤ w) (hw1 : w ≤ 4294967295) (k : Nat) (hk : 20 ≤ k) :
    ∃ z, bits_Div64.l0 k Y s y1 y0 u v w (u / y1) (u - u / y1 * y1) = some ((u * 18446744073709551616 + v * 4294967296 + w) / Y, z) := by
  have g := Dg.start h
  have hyp := h.pos
  obtain ⟨k', hk', e⟩ := div_l0 h s w 2 k _ _ g (Dg.small h) (by have := g.r0; omega) (by omega)
  rw [e]
  obtain ⟨k', rfl⟩ : ∃ n, k' = n + 1 := ⟨k' - 1, by omega⟩
  have ha1 := h.a1
  have htop := h.top
  have m0 := Int.emod_nonneg A (show Y ≠ 0 by omega)
  have m1 := Int.emod_lt_of_pos A hyp
  have md := Int.emod_def A Y
  rw [Int.mul_comm] at md
  have hA := h.hA
  have hv0 := h.v0
  have hv1 := h.v1
  have hu0 := h.u0
  have hu1 := h.u1
  have h2 : Dv Y y1 y0 (A % Y) w (A % Y * 4294967296 + w) := ⟨h.hY, h.a1, h.a2, h.b1, h.b2, rfl, hw0, hw1, m0, m1⟩
  simp only [bits_Div64.j2]
  rw [if_neg (by omega)]
  have e21 : IntKind.u64.wrap (IntKind.u64.wrap (IntKind.u64.wrap (u * 4294967296) + v) - IntKind.u64.wrap (A / Y * Y)) = A % Y := by
    rw [u64_eq, u64_eq, u64_eq, u64_eq]
    generalize A / Y * Y = P at md ⊢
    omega
  rw [e21, td m0]
  have g2 := Dg.start h2
  have b2 := Dg.small h2
  have hq := prod_le (a := A % Y / y1) (A := 4294967297) (b := y1) (B := 4294967295) g2.q0 b2 (by omega) h.a2
  have hl := g2.left
  have hr := g2.r0
  rw [u64_id (x := A % Y / y1) (by have := g2.q0; omega) (by omega), u64_id (x := A % Y / y1 * y1) (by omega) (by omega), u64_id (x := A % Y - A % Y / y1 * y1) (by omega) (by omega)]
  obtain ⟨z, e3⟩ := div_l1 h2 s (A / Y) hs htop.1 htop.2 2 k' _ _ g2 b2 (by omega) (by omega)
  rw [e3]
  refine ⟨z, ?_⟩
  congr 2
  have hN : u * 18446744073709551616 + v * 4294967296 + w = (A % Y * 4294967296 + w) + Y * (A / Y * 4294967296) := by
    have : Y * (A / Y * 4294967296) = A / Y * Y * 4294967296 := by rw [← Int.mul_assoc, Int.mul_comm Y]
    rw [this, md]
    generalize A / Y * Y = P
    omega
  rw [hN, Int.add_mul_ediv_left _ _ (by omega)]
  omega

/-! ### the shift that makes the divisor great -/
theorem bitLen_pos (n : Nat) (h0 : 0 < n) (h : n < 18446744073709551616) : 1 ≤ Lib.bitLen n := by
  rw [Lib.bitLen_half n (by omega) (by omega)]
  omega
theorem bitLen_hi (n : Nat) (h : n < 18446744073709551616) : n < 2 ^ Lib.bitLen n := by
  rcases Nat.lt_or_ge n (2 ^ Lib.bitLen n) with h1 | h1
  · exact h1
  · have e := Lib.bitLen_shift (Lib.bitLen n) n h1 (by omega)
    have hp : 0 < n / 2 ^ Lib.bitLen n := Nat.div_pos h1 (Nat.two_pow_pos _)
    have := bitLen_pos (n / 2 ^ Lib.bitLen n) hp (Nat.lt_of_le_of_lt (Nat.div_le_self _ _) h)
    omega
theorem bitLen_lo (n : Nat) (h0 : 0 < n) (h : n < 18446744073709551616) : 2 ^ (Lib.bitLen n - 1) ≤ n := by
  rcases Nat.lt_or_ge n (2 ^ (Lib.bitLen n - 1)) with h1 | h1
  · have hl := Lib.bitLen_le n 64 (by omega) (by omega)
    have := Lib.bitLen_le n (Lib.bitLen n - 1) (by omega) h1
    have := bitLen_pos n h0 h
    omega
  · exact h1
theorem Lead_f {y : Int} (h0 : 0 < y) (h1 : y < 18446744073709551616) : ∃ s : Nat, s ≤ 63 ∧ bits_LeadingZeros64.f y = some (s : Int) ∧ 9223372036854775808 ≤ y * 2 ^ s ∧ y * 2 ^ s < 18446744073709551616 := by
  have hp := bitLen_pos y.toNat (by omega) (by omega)
  have hl := Lib.bitLen_le y.toNat 64 (by omega) (by omega)
  have a := bitLen_hi y.toNat (by omega)
  have b := bitLen_lo y.toNat (by omega) (by omega)
  refine ⟨64 - Lib.bitLen y.toNat, by omega, ?_, ?_, ?_⟩
  · rw [bits_LeadingZeros64.f, bits_Len64.f, if_pos (by omega), if_pos (by omega), Option.bind_some, wrap64_id (by omega) (by omega)]
    congr 1
    omega
  · have e : 2 ^ (Lib.bitLen y.toNat - 1) * 2 ^ (64 - Lib.bitLen y.toNat) = 2 ^ 63 := by rw [← Nat.pow_add]; congr 1; omega
    have := Nat.mul_le_mul_right (2 ^ (64 - Lib.bitLen y.toNat)) b
    rw [e] at this
    have h3 : ((2 ^ 63 : Nat) : Int) ≤ ((y.toNat * 2 ^ (64 - Lib.bitLen y.toNat) : Nat) : Int) := by exact_mod_cast this
    rw [Int.natCast_mul, show ((y.toNat : Nat) : Int) = y from by omega] at h3
    simpa using h3
  · have e : 2 ^ Lib.bitLen y.toNat * 2 ^ (64 - Lib.bitLen y.toNat) = 2 ^ 64 := by rw [← Nat.pow_add]; congr 1; omega
    have := Nat.mul_lt_mul_of_pos_right a (Nat.two_pow_pos (64 - Lib.bitLen y.toNat))
    rw [e] at this
    have h3 : ((y.toNat * 2 ^ (64 - Lib.bitLen y.toNat) : Nat) : Int) < ((2 ^ 64 : Nat) : Int) := by exact_mod_cast this
    rw [Int.natCast_mul, show ((y.toNat : Nat) : Int) = y from by omega] at h3
    simpa using h3
theorem shl_eq (x : Int) (s : Nat) (hs : s ≤ 64) : shl .u64 x (s : Int) = x * 2 ^ s % 18446744073709551616 := by
  unfold shl
  rw [u64_eq]
  have : min ((s : Nat) : Int).toNat IntKind.u64.bits = s := by
    rw [Int.toNat_natCast]
    simp only [IntKind.bits]
    omega
  rw [this]
theorem shr_eq (x : Int) (s : Nat) (hs : s ≤ 64) : shr .u64 x (s : Int) = x / 2 ^ s := by
  unfold shr
  have : min ((s : Nat) : Int).toNat IntKind.u64.bits = s := by
    rw [Int.toNat_natCast]
    simp only [IntKind.bits]
    omega
  rw [this]
theorem or_low (x y : Int) (i : Nat) (hi : i ≤ 63) (hx0 : 0 ≤ x) (hx : x * 2 ^ i < 18446744073709551616) (hy0 : 0 ≤ y) (hy : y < 2 ^ i) : Go.bits .or .u64 (x * 2 ^ i) y = x * 2 ^ i + y := by
  obtain ⟨a, rfl⟩ := Int.eq_ofNat_of_zero_le hx0
  obtain ⟨b, rfl⟩ := Int.eq_ofNat_of_zero_le hy0
  have hm : (a : Int) * 2 ^ i = ((2 ^ i * a : Nat) : Int) := by rw [Nat.mul_comm]; simp
  have hb : b < 2 ^ i := by exact_mod_cast hy
  have h1 : b < 2 ^ 64 := Nat.lt_of_lt_of_le hb (Nat.pow_le_pow_right (by decide) (by omega))
  rw [hm] at hx ⊢
  have h2 : 2 ^ i * a < 2 ^ 64 := by omega
  rw [(bits_nat .u64 64 (by decide) wraps_u64 (2 ^ i * a) b h2 h1).2, ← Nat.two_pow_add_eq_or_of_lt hb a]
  simp

/-- bits.Div64: the quotient; what it leaves is not told. -/
theorem Div64_f (k : Nat) (hk : 20 ≤ k) {hi lo y : Int} (hh0 : 0 ≤ hi) (hl0 : 0 ≤ lo) (hl1 : lo < 18446744073709551616) (hy : hi < y) (hy1 : y < 18446744073709551616) : ∃ z, bits_Div64.f k hi lo y = some ((hi * 18446744073709551616 + lo) / y, z) := by
  rw [bits_Div64.f, if_neg (by omega), if_neg (by omega)]
  by_cases h : hi = 0
  · have q := ediv_le hl0 (show 0 < y by omega)
    rw [if_pos h, td hl0, u64_id (by omega) (by omega), h]
    refine ⟨Int.tmod lo y, ?_⟩
    rw [show (0 : Int) * 18446744073709551616 + lo = lo from by omega]
  · rw [if_neg h]
    obtain ⟨s, hs, es, hY0, hY1⟩ := Lead_f (y := y) (by omega) hy1
    have hp0 : (0 : Int) < 2 ^ s := Int.pow_pos (by decide)
    have hr0 : (0 : Int) < 2 ^ (64 - s) := Int.pow_pos (by decide)
    have hpr : (2 : Int) ^ s * 2 ^ (64 - s) = 18446744073709551616 := by rw [← Int.pow_add, show s + (64 - s) = 64 from by omega]; rfl
    have hhi : hi * 2 ^ s < y * 2 ^ s := Int.mul_lt_mul_of_pos_right hy hp0
    have hhi0 : 0 ≤ hi * 2 ^ s := Int.mul_nonneg hh0 (Int.le_of_lt hp0)
    have hld := Int.mul_ediv_add_emod lo ((2 : Int) ^ (64 - s))
    have hlm0 := Int.emod_nonneg lo (show (2 : Int) ^ (64 - s) ≠ 0 by omega)
    have hlm1 := Int.emod_lt_of_pos lo hr0
    have hlq0 := Int.ediv_nonneg hl0 (Int.le_of_lt hr0)
    have hlq1 : lo / 2 ^ (64 - s) < 2 ^ s := Int.ediv_lt_of_lt_mul hr0 (by rw [hpr]; exact hl1)
    have hlow : lo * 2 ^ s = lo / 2 ^ (64 - s) * 18446744073709551616 + lo % 2 ^ (64 - s) * 2 ^ s := by
      conv => lhs; rw [← hld]
      rw [Int.add_mul, Int.mul_comm ((2 : Int) ^ (64 - s)), Int.mul_assoc, Int.mul_comm ((2 : Int) ^ (64 - s)), hpr]
    have hm0 : 0 ≤ lo % 2 ^ (64 - s) * 2 ^ s := Int.mul_nonneg hlm0 (Int.le_of_lt hp0)
    have hm1 : lo % 2 ^ (64 - s) * 2 ^ s < 18446744073709551616 := by
      have := Int.mul_lt_mul_of_pos_right hlm1 hp0
      rw [Int.mul_comm ((2 : Int) ^ (64 - s)), hpr] at this
      exact this
    rw [es, Option.bind_some]
    have w1 : IntKind.u64.wrap (s : Int) = s := u64_id (by omega) (by omega)
    have w2 : IntKind.u64.wrap (64 - (s : Int)) = ((64 - s : Nat) : Int) := by rw [u64_id (by omega) (by omega)]; omega
    rw [w1, w2, if_pos (by omega), if_pos (by omega), shl_eq y s (by omega), shl_eq hi s (by omega), shl_eq lo s (by omega), shr_eq lo (64 - s) (by omega)]
    rw [show y * 2 ^ s % 18446744073709551616 = y * 2 ^ s from by omega, show hi * 2 ^ s % 18446744073709551616 = hi * 2 ^ s from by omega]
    rw [or_low hi _ s hs hh0 (by omega) hlq0 hlq1]
    have e10 : lo * 2 ^ s % 18446744073709551616 = lo % 2 ^ (64 - s) * 2 ^ s := by omega
    rw [e10]
    have hN : (hi * 18446744073709551616 + lo) * 2 ^ s = (hi * 2 ^ s + lo / 2 ^ (64 - s)) * 18446744073709551616 + lo % 2 ^ (64 - s) * 2 ^ s := by
      rw [Int.add_mul, hlow, Int.mul_assoc, Int.mul_comm 18446744073709551616, ← Int.mul_assoc]
      omega
    have hu : hi * 2 ^ s + lo / 2 ^ (64 - s) < y * 2 ^ s := by
      have h1 : (hi + 1) * 2 ^ s ≤ y * 2 ^ s := Int.mul_le_mul_of_nonneg_right (by omega) (Int.le_of_lt hp0)
      rw [Int.add_mul] at h1
      omega
    have hq : (hi * 18446744073709551616 + lo) / y = ((hi * 2 ^ s + lo / 2 ^ (64 - s)) * 18446744073709551616 + lo % 2 ^ (64 - s) * 2 ^ s) / (y * 2 ^ s) := by
      rw [← hN, Int.mul_ediv_mul_of_pos_left _ _ hp0]
    rw [hq]
    have hU0 : 0 ≤ hi * 2 ^ s + lo / 2 ^ (64 - s) := by omega
    generalize hi * 2 ^ s + lo / 2 ^ (64 - s) = U at hu hU0 ⊢
    generalize lo % 2 ^ (64 - s) * 2 ^ s = V at hm0 hm1 ⊢
    generalize y * 2 ^ s = Y at hY0 hY1 hu ⊢
    have hd : Dv Y (Y / 4294967296) (Y % 4294967296) U (V / 4294967296) (U * 4294967296 + V / 4294967296) := ⟨by omega, by omega, by omega, by omega, by omega, rfl, by omega, by omega, hU0, hu⟩
    have g := Dg.start hd
    have b2 := Dg.small hd
    have hm := prod_le (a := U / (Y / 4294967296)) (A := 4294967297) (b := Y / 4294967296) (B := 4294967295) g.q0 b2 (by omega) (by omega)
    have hl := g.left
    have hr := g.r0
    rw [if_neg (by omega), and32 Y (by omega) (by omega), and32 V hm0 hm1, td hU0, u64_id (x := U / (Y / 4294967296)) (by have := g.q0; omega) (by omega), u64_id (x := U / (Y / 4294967296) * (Y / 4294967296)) (by omega) (by omega), u64_id (x := U - U / (Y / 4294967296) * (Y / 4294967296)) (by omega) (by omega)]
    obtain ⟨z, e⟩ := div_both hd hY1 s (by omega) (w := V % 4294967296) (by omega) (by omega) k hk
    rw [e]
    refine ⟨z, ?_⟩
    congr 3
    omega
end Go.Proofs.Ytcninjadeagenaa.FX
