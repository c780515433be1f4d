/- Numbers and texts as bytes: plain. No condition but those that each theorem names. -/
import Derived.Test.YthkkphkeonnnfaaWV
namespace Go.Proofs.Ythkkphkeonnnfaa.Abs
open Go
set_option linter.unusedVariables false
set_option linter.unusedSimpArgs false
set_option maxRecDepth 100000
/-! ### wraps -/
theorem wrapU64 (n : Int) : IntKind.u64.wrap n = n % 18446744073709551616 := by
  simp only [IntKind.wrap, IntKind.bits, IntKind.signed, Bool.false_and, Int.reducePow, Bool.false_eq_true, if_false]
theorem wrapU32 (n : Int) : IntKind.u32.wrap n = n % 4294967296 := by
  simp only [IntKind.wrap, IntKind.bits, IntKind.signed, Bool.false_and, Int.reducePow, Bool.false_eq_true, if_false]
theorem wrapU16 (n : Int) : IntKind.u16.wrap n = n % 65536 := by
  simp only [IntKind.wrap, IntKind.bits, IntKind.signed, Bool.false_and, Int.reducePow, Bool.false_eq_true, if_false]
theorem wrapU8 (n : Int) : IntKind.u8.wrap n = n % 256 := by
  simp only [IntKind.wrap, IntKind.bits, IntKind.signed, Bool.false_and, Int.reducePow, Bool.false_eq_true, if_false]
/-! ### a number -/
def putS (n : Nat) : List Nat := if n < 128 then [n] else (n % 128 + 128) :: putS (n / 128)
termination_by n
decreasing_by omega
theorem putS_lt {n : Nat} (h : n < 128) : putS n = [n] := by rw [putS, if_pos h]
theorem putS_ge {n : Nat} (h : ¬ n < 128) : putS n = (n % 128 + 128) :: putS (n / 128) := by rw [putS, if_neg h]
theorem putS_byte (n : Nat) : ∀ c ∈ putS n, c < 256 := by
  induction n using Nat.strongRecOn with
  | _ n ih =>
    intro c hc
    by_cases h : n < 128
    · rw [putS_lt h] at hc; simp at hc; omega
    · rw [putS_ge h] at hc
      rcases List.mem_cons.1 hc with rfl | hc
      · omega
      · exact ih (n / 128) (by omega) c hc
theorem putS_len : ∀ (k n : Nat), n < 128 ^ (k + 1) → (putS n).length ≤ k + 1
  | 0, n, h => by
    rw [putS_lt (by simpa using h)]; simp
  | k + 1, n, h => by
    by_cases h1 : n < 128
    · rw [putS_lt h1]; simp
    · rw [putS_ge h1]
      have := putS_len k (n / 128) (Nat.div_lt_of_lt_mul (by rw [Nat.pow_succ] at h; omega))
      simp; omega
theorem putS_len10 {n : Nat} (h : n < 18446744073709551616) : (putS n).length ≤ 10 := putS_len 9 n (Nat.lt_of_lt_of_le h (by decide))
theorem putS_pos (n : Nat) : 1 ≤ (putS n).length := by
  by_cases h : n < 128
  · rw [putS_lt h]; simp
  · rw [putS_ge h]; simp
def putsS (l : List Int) : List Nat := l.flatMap fun x => putS x.toNat
theorem putsS_cons (x : Int) (l : List Int) : putsS (x :: l) = putS x.toNat ++ putsS l := by simp [putsS]
theorem putsS_byte (l : List Int) : ∀ c ∈ putsS l, c < 256 := fun c hc => by
  obtain ⟨x, -, hx⟩ := List.mem_flatMap.1 hc
  exact putS_byte _ c hx
theorem putsS_len : ∀ (l : List Int), (∀ x ∈ l, x.toNat < 18446744073709551616) → (putsS l).length ≤ 10 * l.length
  | [], _ => by simp [putsS]
  | x :: l, h => by
    rw [putsS_cons, List.length_append, List.length_cons]
    have := putS_len10 (h x (by simp))
    have := putsS_len l fun y hy => h y (by simp [hy])
    omega
/-- With a sign. -/
def zigS (n : Int) : Int := if 0 ≤ n then 2 * n else -2 * n - 1
/-! ### a check -/
def stepS (c x : Nat) : Nat := (c ^^^ x) * 16777619 % 4294967296
theorem stepS_lt (c x : Nat) : stepS c x < 4294967296 := by unfold stepS; omega
def sumS (l : List Nat) (c : Nat) : Nat := l.foldl stepS c
theorem sumS_nil (c : Nat) : sumS [] c = c := List.foldl_nil
theorem sumS_cons (x : Nat) (l : List Nat) (c : Nat) : sumS (x :: l) c = sumS l (stepS c x) := List.foldl_cons ..
theorem sumS_lt (l : List Nat) : ∀ c : Nat, c < 4294967296 → sumS l c < 4294967296 := by
  induction l with
  | nil => intro c h; rw [sumS_nil]; exact h
  | cons x l ih => intro c _; rw [sumS_cons]; exact ih _ (stepS_lt _ _)
def tailS (c : Nat) : List Nat := [c % 256, c / 256 % 256, c / 65536 % 256, c / 16777216]
def checkB (b : List Nat) : List Nat := tailS (sumS b 2166136261)
def frameS (b : List Nat) : List Nat := putS b.length ++ b ++ checkB b
/-! ### bits -/
theorem or128 : ∀ c : Fin 256, bitI .or .u8 (c.val : Int) 128 = ((c.val % 128 + 128 : Nat) : Int) := by decide +kernel
theorem bits_u {k : IntKind} (hk : k.signed = false) {a b : Nat} (ha : a < 2 ^ k.bits) (hb : b < 2 ^ k.bits) : bitI .xor k (a : Int) (b : Int) = ((a ^^^ b : Nat) : Int) := by
  show k.wrap ((BitVec.ofInt k.bits a ^^^ BitVec.ofInt k.bits b).toNat : Int) = _
  rw [BitVec.toNat_xor]
  have e : ∀ c : Nat, c < 2 ^ k.bits → (BitVec.ofInt k.bits (c : Int)).toNat = c := fun c hc => by
    rw [BitVec.ofInt_natCast, BitVec.toNat_ofNat, Nat.mod_eq_of_lt hc]
  rw [e a ha, e b hb]
  have hx := Nat.xor_lt_two_pow ha hb
  simp only [IntKind.wrap, hk, Bool.false_and, Bool.false_eq_true, if_false]
  rw [show (2 : Int) ^ k.bits = ((2 ^ k.bits : Nat) : Int) by simp, ← Int.natCast_emod, Nat.mod_eq_of_lt hx]
theorem xor_all {a : Nat} (ha : a < 18446744073709551616) : a ^^^ 18446744073709551615 = 18446744073709551615 - a := by
  have h := BitVec.xor_allOnes (x := BitVec.ofNat 64 a)
  have h2 := congrArg BitVec.toNat h
  rw [BitVec.toNat_xor, BitVec.toNat_not, BitVec.toNat_allOnes, BitVec.toNat_ofNat, Nat.mod_eq_of_lt (by simpa using ha)] at h2
  simpa using h2
/-- Zig by shifts is Zig by cases. -/
theorem zig_bits {n : Int} (h : In64 n) : bitI .xor .u64 (IntKind.u64.wrap (IntKind.u64.wrap n * 2 ^ (min (1 : Int).toNat IntKind.u64.bits))) (IntKind.u64.wrap (n.fdiv (2 ^ (min (63 : Int).toNat IntKind.i64.bits)))) = zigS n := by
  unfold In64 at h
  have e1 : (2 : Int) ^ (min (1 : Int).toNat IntKind.u64.bits) = 2 := rfl
  have e2 : (2 : Int) ^ (min (63 : Int).toNat IntKind.i64.bits) = 9223372036854775808 := rfl
  rw [e1, e2, wrapU64, wrapU64, wrapU64, Int.fdiv_eq_ediv_of_nonneg _ (by decide)]
  unfold zigS
  by_cases h0 : 0 ≤ n
  · rw [if_pos h0]
    have e3 : n / 9223372036854775808 % 18446744073709551616 = ((0 : Nat) : Int) := by omega
    have e4 : n % 18446744073709551616 * 2 % 18446744073709551616 = (((2 * n).toNat : Nat) : Int) := by omega
    rw [e3, e4, bits_u rfl (by show _ < 18446744073709551616; omega) (by decide), Nat.xor_zero]; omega
  · rw [if_neg h0]
    have e3 : n / 9223372036854775808 % 18446744073709551616 = ((18446744073709551615 : Nat) : Int) := by omega
    have e4 : n % 18446744073709551616 * 2 % 18446744073709551616 = (((18446744073709551616 + 2 * n).toNat : Nat) : Int) := by omega
    rw [e3, e4, bits_u rfl (by show _ < 18446744073709551616; omega) (by decide), xor_all (by omega)]; omega
theorem bytesA_app (s u : List Nat) : bytesA s ++ bytesA u = bytesA (s ++ u) := by simp [bytesA]
theorem bytesA_one {c : Nat} (h : c < 256) : [AV.int .u8 (c : Int)] = bytesA [c] := by
  show _ = [AV.int .u8 ((c % 256 : Nat) : Int)]
  rw [Nat.mod_eq_of_lt h]
/-- A row that is lent: the first block. -/
theorem lent_in {V : K → Option (List AV)} {R : Dm} {i : K} {c : Cp} {k : IntKind} {xs : List Int} {el z : Nat} {f : Bool} : (⟨some (i, 0), c, xs⟩ : Sl Int).In (withV V ((i, .cells (xs.map (AV.int k)) el z f) :: R)) false 1 (AV.int k) := fun j x hx => by
  refine ⟨i, 0, _, rfl, by simp only [withV, if_true]; rfl, ?_⟩
  show getL (xs.map (AV.int k)) (0 + j * 1) = _
  rw [getL_eq, List.getElem?_map, Nat.zero_add, Nat.mul_one]
  have hx : xs[j]? = some x := hx
  rw [hx]; rfl
end Go.Proofs.Ythkkphkeonnnfaa.Abs
