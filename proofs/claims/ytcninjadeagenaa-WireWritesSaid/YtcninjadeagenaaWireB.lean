/- Texts, checks and frames read: what the program and the reference come to is one and the same. No condition but those that each lemma names. -/
import Derived.Test.YtcninjadeagenaaWireA
namespace Go.Proofs.Ytcninjadeagenaa.WS
open Go.RowKit Go.Proofs.Ytcninjadeagenaa.HWire Go.Proofs.YtcninjadeagenaaW.PrintWords Go.Proofs.YtcninjadeagenaaW.PrintLast Go.Proofs.YtcninjadeagenaaW.PrintMore
set_option linter.unusedVariables false
set_option linter.unusedSimpArgs false

theorem wraps_u64 (n : Int) (h₀ : 0 ≤ n) (h₁ : n < 2 ^ 64) : IntKind.u64.wrap n = n := u64_id h₀ (by omega)
theorem bits_xor (k : IntKind) (j : Nat) (hj : j ≤ k.bits) (hk : ∀ n : Int, 0 ≤ n → n < 2 ^ j → k.wrap n = n) (a b : Nat) (ha : a < 2 ^ j) (hb : b < 2 ^ j) :
    Go.bits .xor k a b = ((a ^^^ b : Nat) : Int) := by
  have hp : 2 ^ j ≤ 2 ^ k.bits := Nat.pow_le_pow_right (by decide) hj
  have ha' : a % 2 ^ k.bits = a := Nat.mod_eq_of_lt (Nat.lt_of_lt_of_le ha hp)
  have hb' : b % 2 ^ k.bits = b := Nat.mod_eq_of_lt (Nat.lt_of_lt_of_le hb hp)
  have cast : ∀ n : Nat, n < 2 ^ j → ((n : Nat) : Int) < 2 ^ j := fun n h => by exact_mod_cast h
  simp only [Go.bits, BitVec.ofInt_natCast, BitVec.toNat_xor, BitVec.toNat_ofNat, ha', hb']
  exact hk _ (Int.natCast_nonneg _) (cast _ (Nat.xor_lt_two_pow ha hb))

theorem or_front (acc x : Int) (i : Nat) (hi : i ≤ 63) (ha0 : 0 ≤ acc) (ha : acc < 2 ^ i) (hx0 : 0 ≤ x) (hx : x * 2 ^ i < 18446744073709551616) : Go.bits .or .u64 acc (x * 2 ^ i) = acc + x * 2 ^ i := by
  obtain ⟨a, rfl⟩ := Int.eq_ofNat_of_zero_le ha0
  obtain ⟨b, rfl⟩ := Int.eq_ofNat_of_zero_le hx0
  have hm : (b : Int) * 2 ^ i = ((2 ^ i * b : Nat) : Int) := by rw [Nat.mul_comm]; simp
  have ha' : a < 2 ^ i := by exact_mod_cast ha
  have h1 : a < 2 ^ 64 := Nat.lt_of_lt_of_le ha' (Nat.pow_le_pow_right (by decide) (by omega))
  rw [hm] at hx ⊢
  have h2 : 2 ^ i * b < 2 ^ 64 := by omega
  rw [(bits_nat .u64 64 (by decide) wraps_u64 a (2 ^ i * b) h1 h2).2, Nat.or_comm, ← Nat.two_pow_add_eq_or_of_lt ha' b]
  omega
theorem and127 (c : Int) (h0 : 0 ≤ c) (h1 : c < 256) : Go.bits .and .u8 c 127 = c % 128 := bits_mask .u8 8 (by decide) wraps_u8 7 (by decide) c h0 h1

theorem join (acc c : Int) (i : Nat) (hi : i ≤ 9) (h9 : i = 9 → c ≤ 1) (hc0 : 0 ≤ c) (hc : c ≤ 255) (ha0 : 0 ≤ acc) (ha : acc < 128 ^ i) :
    Go.bits .or .u64 acc (shl .u64 (IntKind.u64.wrap (Go.bits .and .u8 c 127)) (wrap64 (7 * (i : Int)))) = acc + c % 128 * 128 ^ i := by
  have hf := step_fits (c := c % 128) (acc := acc) (i := i) hi (by omega) (by omega) (by omega) ha0 ha
  have e : (128 : Int) ^ i = 2 ^ (7 * i) := by rw [Int.pow_mul]; rfl
  rw [and127 c hc0 (by omega), u64_id (by omega) (by omega), wrap64_id (by omega) (by omega), shl]
  have h64 : min (7 * (i : Int)).toNat IntKind.u64.bits = 7 * i := by
    have : (7 * (i : Int)).toNat = 7 * i := by omega
    rw [this]
    simp only [IntKind.bits]
    omega
  rw [h64, ← e, u64_id hf.1 hf.2.1, e, or_front acc (c % 128) (7 * i) (by omega) ha0 (by rw [← e]; exact ha) (by omega) (by rw [← e]; exact hf.2.1)]

theorem wire_l0 (s : ByteArray) (at_ : Int) (h0 : 0 ≤ at_) (hs : s.size < 9000000000000000000) (m : Nat) : ∀ (i k : Nat) (acc : Int), 1 ≤ m → i + m = 10 → 2 * m < k → at_ + i ≤ s.size → 0 ≤ acc → acc < 128 ^ i →
    wire_Take.l0 k at_ acc i (s.extract at_.toNat s.size) = some (tk s at_ m i acc) := by
  induction m with
  | zero => intro i k acc h; omega
  | succ m ih =>
    intro i k acc _ hi hk hle ha0 ha
    obtain ⟨k, rfl⟩ : ∃ q, k = q + 2 := ⟨k - 2, by omega⟩
    have hb := bt_range s (at_ + i)
    have hw : wrap64 (at_ + i) = at_ + i := wrap64_id (by omega) (by omega)
    have hbx : bt (s.extract at_.toNat s.size) i = bt s (at_ + i) := by
      rw [bt_extract s at_.toNat i (by omega)]
      rw [show ((at_.toNat : Nat) : Int) = at_ from by omega]
    have hsz : ((s.extract at_.toNat s.size).size : Int) = s.size - at_ := by
      rw [ByteArray.size_extract]
      omega
    simp only [wire_Take.l0, tk]
    rw [hsz, hbx]
    by_cases he : at_ + i = s.size
    · rw [if_neg (by omega), if_pos he]
    · rw [if_pos (by omega), if_neg he, if_pos (by omega)]
      have key : ∀ x : Bool, x = decide (i = 9 ∧ bt s (at_ + i) ≠ 1) → wire_Take.j2 (k + 1) at_ acc i (s.extract at_.toNat s.size) (bt s (at_ + i)) x = some (if i = 9 ∧ bt s (at_ + i) ≠ 1 then (0, at_, 31)
          else if bt s (at_ + i) < 128 then (if bt s (at_ + i) = 0 ∧ 0 < i then (0, at_, 31) else (acc + bt s (at_ + i) * 128 ^ i, at_ + i + 1, 0))
          else tk s at_ m (i + 1) (acc + (bt s (at_ + i) - 128) * 128 ^ i)) := by
        intro x hx
        simp only [wire_Take.j2]
        subst hx
        by_cases h9 : i = 9 ∧ bt s (at_ + i) ≠ 1
        · rw [if_pos (by simpa using h9), if_pos h9]
        · rw [if_neg (by simpa using h9), if_neg h9, if_pos (by rw [wrap64_id (by omega) (by omega)]; omega)]
          rw [join acc (bt s (at_ + i)) i (by omega) (by omega) hb.1 hb.2 ha0 ha]
          by_cases hlt : bt s (at_ + i) < 128
          · rw [if_neg (by omega), if_pos hlt, show bt s (at_ + i) % 128 = bt s (at_ + i) from by omega, hw, wrap64_id (x := at_ + i + 1) (by omega) (by omega)]
            by_cases hz : bt s (at_ + i) = 0
            · rw [if_pos hz]
              by_cases hi0 : 0 < i
              · rw [if_pos (by omega), if_pos ⟨hz, hi0⟩]
              · rw [if_neg (by omega), if_neg (by omega)]
            · rw [if_neg hz, if_neg (by omega)]
          · rw [if_pos (by omega), if_neg hlt, show bt s (at_ + i) % 128 = bt s (at_ + i) - 128 from by omega, wrap64_id (x := (i : Int) + 1) (by omega) (by omega)]
            have hi9 : i < 9 := by omega
            have hf := step_fits (c := bt s (at_ + i) - 128) (acc := acc) (i := i) (by omega) (by omega) (by omega) (by omega) ha0 ha
            have := ih (i + 1) k (acc + (bt s (at_ + i) - 128) * 128 ^ i) (by omega) (by omega) (by omega) (by omega) (by omega) hf.2.2.2
            rw [show ((i + 1 : Nat) : Int) = (i : Int) + 1 from by omega] at this
            exact this
      by_cases h9 : i = 9
      · rw [if_pos (by omega)]
        exact key _ (by have h9' : (i = 9) = True := eq_true h9; by_cases hq : bt s (at_ + i) = 1 <;> simp [hq, h9'])
      · rw [if_neg (by omega)]
        exact key _ (by simp [h9])
theorem Take_f (k : Nat) (s : ByteArray) (at_ : Int) (hs : s.size < 9000000000000000000) (hk : 22 < k) : wire_Take.f k s at_ = some (TK s at_) := by
  obtain ⟨k, rfl⟩ : ∃ q, k = q + 1 := ⟨k - 1, by omega⟩
  rw [wire_Take.f]
  have main : ∀ h0 : 0 ≤ at_, at_ ≤ s.size → wire_Take.l0 k at_ 0 0 (s.extract at_.toNat s.size) = some (tk s at_ 10 0 0) := by
    intro h0 h1
    have := wire_l0 s at_ h0 hs 10 0 k 0 (by omega) (by omega) (by omega) (by omega) (by omega) (by decide)
    simpa using this
  by_cases h : at_ < 0
  · rw [if_pos h]
    simp only [wire_Take.j0, TK]
    rw [if_pos trivial, if_pos (.inl h)]
  · rw [if_neg h]
    simp only [wire_Take.j0, TK]
    by_cases h2 : (s.size : Int) < at_
    · rw [if_pos (by simpa using h2), if_pos (.inr h2)]
    · rw [if_neg (by simpa using h2), if_pos (show (0 : Int) ≤ at_ by omega), if_pos (show at_ ≤ (s.size : Int) by omega), if_neg (show ¬ (at_ < 0 ∨ (s.size : Int) < at_) by omega)]
      exact main (by omega) (by omega)

/-! ### what is read is somewhere -/
theorem tk_ok (s : ByteArray) (at_ : Int) (m : Nat) : ∀ (i : Nat) (acc : Int), i + m = 10 → at_ + i ≤ s.size → 0 ≤ acc → acc < 128 ^ i → (tk s at_ m i acc).2.2 = 0 →
    0 ≤ (tk s at_ m i acc).1 ∧ (tk s at_ m i acc).1 < 18446744073709551616 ∧ at_ + i < (tk s at_ m i acc).2.1 ∧ (tk s at_ m i acc).2.1 ≤ s.size := by
  induction m with
  | zero => intro i acc _ _ _ _ h; simp [tk] at h
  | succ m ih =>
    intro i acc hi hle ha0 ha h
    have hb := bt_range s (at_ + i)
    simp only [tk] at h ⊢
    by_cases he : at_ + i = s.size
    · rw [if_pos he] at h; simp at h
    · rw [if_neg he] at h ⊢
      by_cases h9 : i = 9 ∧ bt s (at_ + i) ≠ 1
      · rw [if_pos h9] at h; simp at h
      · rw [if_neg h9] at h ⊢
        by_cases hlt : bt s (at_ + i) < 128
        · rw [if_pos hlt] at h ⊢
          have hf := step_fits (c := bt s (at_ + i)) (acc := acc) (i := i) (by omega) (by omega) hb.1 (by omega) ha0 ha
          by_cases hz : bt s (at_ + i) = 0 ∧ 0 < i
          · rw [if_pos hz] at h; simp at h
          · rw [if_neg hz]
            refine ⟨?_, ?_, ?_, ?_⟩ <;> simp only <;> omega
        · rw [if_neg hlt] at h ⊢
          have hf := step_fits (c := bt s (at_ + i) - 128) (acc := acc) (i := i) (by omega) (by omega) (by omega) (by omega) ha0 ha
          have := ih (i + 1) _ (by omega) (by omega) (by omega) hf.2.2.2 h
          rw [show ((i + 1 : Nat) : Int) = (i : Int) + 1 from by omega] at this
          refine ⟨this.1, this.2.1, by omega, this.2.2.2⟩
theorem TK_ok {s : ByteArray} {at_ : Int} (h : (TK s at_).2.2 = 0) : 0 ≤ at_ ∧ at_ ≤ s.size ∧ 0 ≤ (TK s at_).1 ∧ (TK s at_).1 < 18446744073709551616 ∧ at_ < (TK s at_).2.1 ∧ (TK s at_).2.1 ≤ s.size ∧ TK s at_ = tk s at_ 10 0 0 := by
  unfold TK at h ⊢
  by_cases ho : at_ < 0 ∨ (s.size : Int) < at_
  · rw [if_pos ho] at h; simp at h
  · rw [if_neg ho] at h ⊢
    have := tk_ok s at_ 10 0 0 (by omega) (by omega) (by omega) (by decide) h
    refine ⟨by omega, by omega, this.1, this.2.1, by omega, this.2.2.2, rfl⟩

/-- A text at a place. -/
def TT (s : ByteArray) (at_ : Int) : ByteArray × Int × Int :=
  if (TK s at_).2.2 = 0 then
    (if (TK s at_).1 > 65536 then (⟨#[]⟩, at_, 31)
     else if (TK s at_).1 > s.size - (TK s at_).2.1 then (⟨#[]⟩, at_, 30)
     else (s.extract (TK s at_).2.1.toNat ((TK s at_).2.1 + (TK s at_).1).toNat, (TK s at_).2.1 + (TK s at_).1, 0))
  else (⟨#[]⟩, at_, (TK s at_).2.2)
theorem TakeText_f (k : Nat) (s : ByteArray) (at_ : Int) (hs : s.size < 9000000000000000000) (hk : 22 < k) : wire_TakeText.f k s at_ = some (TT s at_) := by
  rw [wire_TakeText.f, Take_f k s at_ hs hk]
  simp only [Option.bind_some, TT]
  by_cases h : (TK s at_).2.2 = 0
  · rw [if_pos h, if_pos h]
    obtain ⟨a, b, c, d, e, f, g⟩ := TK_ok h
    by_cases h1 : (TK s at_).1 > 65536
    · rw [if_pos h1, if_pos h1]
    · rw [if_neg h1, if_neg h1, wrap64_id (x := (s.size : Int) - (TK s at_).2.1) (by omega) (by omega), u64_id (by omega) (by omega)]
      by_cases h2 : (TK s at_).1 > s.size - (TK s at_).2.1
      · rw [if_pos h2, if_pos h2]
      · rw [if_neg h2, if_neg h2, wrap64_id (x := (TK s at_).1) (by omega) (by omega), wrap64_id (by omega) (by omega), if_pos (by omega), if_pos (by omega), if_pos (by omega)]
  · rw [if_neg h, if_neg h]
theorem refTakeText_f (k : Nat) (s : ByteArray) (at_ : Int) (hs : s.size < 9000000000000000000) (hk : 22 < k) : tripwireref03_TakeText.f k s at_ = some (TT s at_) := by
  rw [tripwireref03_TakeText.f, refTake_f k s at_ hs hk]
  simp only [Option.bind_some, TT]
  by_cases h : (TK s at_).2.2 = 0
  · rw [if_pos h, if_pos h]
    obtain ⟨a, b, c, d, e, f, g⟩ := TK_ok h
    by_cases h1 : (TK s at_).1 > 65536
    · rw [if_pos h1, if_pos h1]
    · rw [if_neg h1, if_neg h1, wrap64_id (x := (s.size : Int) - (TK s at_).2.1) (by omega) (by omega), wrap64_id (x := (TK s at_).1) (by omega) (by omega)]
      by_cases h2 : (TK s at_).1 > s.size - (TK s at_).2.1
      · rw [if_pos h2, if_pos h2]
      · rw [if_neg h2, if_neg h2, wrap64_id (by omega) (by omega), if_pos (by omega), if_pos (by omega), if_pos (by omega)]
  · rw [if_neg h, if_neg h]
theorem TT_ok {s : ByteArray} {at_ : Int} (h : (TT s at_).2.2 = 0) : (TK s at_).2.2 = 0 ∧ (TK s at_).1 ≤ 65536 ∧ (TK s at_).2.1 + (TK s at_).1 ≤ s.size ∧ TT s at_ = (s.extract (TK s at_).2.1.toNat ((TK s at_).2.1 + (TK s at_).1).toNat, (TK s at_).2.1 + (TK s at_).1, 0) := by
  unfold TT at h ⊢
  by_cases h0 : (TK s at_).2.2 = 0
  · rw [if_pos h0] at h ⊢
    by_cases h1 : (TK s at_).1 > 65536
    · rw [if_pos h1] at h; simp at h
    · rw [if_neg h1] at h ⊢
      by_cases h2 : (TK s at_).1 > s.size - (TK s at_).2.1
      · rw [if_pos h2] at h; simp at h
      · rw [if_neg h2]
        exact ⟨h0, by omega, by omega, rfl⟩
  · rw [if_neg h0] at h; exact absurd h h0

/-! ### the check -/
def fs (c b : Int) : Int := ((c.toNat ^^^ b.toNat : Nat) : Int) * 16777619 % 4294967296
def fnv (l : List Int) (c : Int) : Int := l.foldl fs c
theorem fs_range (c b : Int) : 0 ≤ fs c b ∧ fs c b < 4294967296 := by unfold fs; omega
theorem fnv_range (l : List Int) : ∀ c, 0 ≤ c → c < 4294967296 → 0 ≤ fnv l c ∧ fnv l c < 4294967296 := by
  induction l with
  | nil => intro c h0 h1; exact ⟨h0, h1⟩
  | cons b l ih => intro c h0 h1; have := fs_range c b; exact ih _ this.1 this.2
theorem wraps_u32 (n : Int) (h₀ : 0 ≤ n) (h₁ : n < 2 ^ 32) : IntKind.u32.wrap n = n := by rw [IntKind.wrap_u32]; omega
theorem xor_lt (c b : Int) (h0 : 0 ≤ c) (h1 : c < 4294967296) (hb0 : 0 ≤ b) (hb : b < 4294967296) : ((c.toNat ^^^ b.toNat : Nat) : Int) < 4294967296 := by
  have := Nat.xor_lt_two_pow (x := c.toNat) (y := b.toNat) (n := 32) (by omega) (by omega)
  omega
theorem xor32 (c b : Int) (h0 : 0 ≤ c) (h1 : c < 4294967296) (hb0 : 0 ≤ b) (hb : b < 4294967296) : Go.bits .xor .u32 c b = ((c.toNat ^^^ b.toNat : Nat) : Int) := by
  have := bits_xor .u32 32 (by decide) wraps_u32 c.toNat b.toNat (by omega) (by omega)
  rwa [show ((c.toNat : Nat) : Int) = c from by omega, show ((b.toNat : Nat) : Int) = b from by omega] at this
theorem xor64 (c b : Int) (h0 : 0 ≤ c) (h1 : c < 4294967296) (hb0 : 0 ≤ b) (hb : b < 4294967296) : Go.bits .xor .u64 c b = ((c.toNat ^^^ b.toNat : Nat) : Int) := by
  have := bits_xor .u64 64 (by decide) wraps_u64 c.toNat b.toNat (by omega) (by omega)
  rwa [show ((c.toNat : Nat) : Int) = c from by omega, show ((b.toNat : Nat) : Int) = b from by omega] at this
theorem bt_cons (s : ByteArray) (i : Nat) (h : i < s.size) : (bytesOf s).drop i = bt s i :: (bytesOf s).drop (i + 1) := by
  have hl : i < (bytesOf s).length := by rw [bytesOf_length]; exact h
  rw [List.drop_eq_getElem_cons hl, bt_eq]
  simp [hl]
theorem Sum_l0 (s : ByteArray) (hs : s.size < 9000000000000000000) (d : Nat) : ∀ (k i : Nat) (c : Int), i + d = s.size → d < k → 0 ≤ c → c < 4294967296 → wire_Sum.l0 k s c s.size i = some (fnv ((bytesOf s).drop i) c) := by
  induction d with
  | zero =>
    intro k i c hi hk h0 h1
    obtain ⟨k, rfl⟩ : ∃ q, k = q + 1 := ⟨k - 1, by omega⟩
    simp only [wire_Sum.l0]
    rw [if_neg (by omega), List.drop_of_length_le (by rw [bytesOf_length]; omega)]
    rfl
  | succ d ih =>
    intro k i c hi hk h0 h1
    obtain ⟨k, rfl⟩ : ∃ q, k = q + 1 := ⟨k - 1, by omega⟩
    have hb := bt_range s i
    simp only [wire_Sum.l0]
    rw [if_pos (by omega), if_pos (by omega), if_pos (by omega), wrap64_id (by omega) (by omega), show bt s i % 4294967296 = bt s i from by omega, xor32 c _ h0 h1 hb.1 (by omega)]
    have hr := fs_range c (bt s i)
    have := ih k (i + 1) (fs c (bt s i)) (by omega) (by omega) hr.1 hr.2
    rw [show ((i + 1 : Nat) : Int) = (i : Int) + 1 from by omega] at this
    rw [bt_cons s i (by omega)]
    exact this
theorem refSum_l0 (s : ByteArray) (hs : s.size < 9000000000000000000) (d : Nat) : ∀ (k i : Nat) (c : Int), i + d = s.size → d < k → 0 ≤ c → c < 4294967296 → tripwireref03_Sum.l0 k s c i = some (fnv ((bytesOf s).drop i) c) := by
  induction d with
  | zero =>
    intro k i c hi hk h0 h1
    obtain ⟨k, rfl⟩ : ∃ q, k = q + 1 := ⟨k - 1, by omega⟩
    simp only [tripwireref03_Sum.l0]
    rw [if_neg (by omega), List.drop_of_length_le (by rw [bytesOf_length]; omega), show c % 4294967296 = c from by omega]
    rfl
  | succ d ih =>
    intro k i c hi hk h0 h1
    obtain ⟨k, rfl⟩ : ∃ q, k = q + 1 := ⟨k - 1, by omega⟩
    have hb := bt_range s i
    have hx := xor_lt c (bt s i) h0 h1 hb.1 (by omega)
    simp only [tripwireref03_Sum.l0]
    rw [if_pos (by omega), if_pos (by omega), wrap64_id (by omega) (by omega), u64_id hb.1 (by omega), xor64 c _ h0 h1 hb.1 (by omega), u64_id (by omega) (by omega), Int.tmod_eq_emod_of_nonneg (by omega)]
    have hr := fs_range c (bt s i)
    have := ih k (i + 1) (fs c (bt s i)) (by omega) (by omega) hr.1 hr.2
    rw [show ((i + 1 : Nat) : Int) = (i : Int) + 1 from by omega] at this
    rw [bt_cons s i (by omega)]
    exact this
def sum (s : ByteArray) : Int := fnv (bytesOf s) 2166136261
theorem sum_range (s : ByteArray) : 0 ≤ sum s ∧ sum s < 4294967296 := fnv_range _ _ (by omega) (by omega)
theorem Sum_f (k : Nat) (s : ByteArray) (hs : s.size < 9000000000000000000) (hk : s.size < k) : wire_Sum.f k s = some (sum s) := by
  rw [wire_Sum.f]
  have := Sum_l0 s hs s.size k 0 2166136261 (by omega) hk (by omega) (by omega)
  simpa [sum] using this
theorem refSum_f (k : Nat) (s : ByteArray) (hs : s.size < 9000000000000000000) (hk : s.size < k) : tripwireref03_Sum.f k s = some (sum s) := by
  rw [tripwireref03_Sum.f]
  have := refSum_l0 s hs s.size k 0 2166136261 (by omega) hk (by omega) (by omega)
  simpa [sum] using this
/-- A check as bytes. -/
def ckl (s : ByteArray) : List Int := [sum s % 256, sum s / 256 % 256, sum s / 65536 % 256, sum s / 16777216 % 256]
def ck (s : ByteArray) : ByteArray := strOfNums (ckl s)
theorem check_f (k : Nat) (s : ByteArray) (hs : s.size < 9000000000000000000) (hk : s.size < k) : wire_check.f k s = some (ck s) := by
  rw [wire_check.f, Sum_f k s hs hk]
  simp only [Option.bind_some]
  rfl
theorem tail_f (k : Nat) (s : ByteArray) (hs : s.size < 9000000000000000000) (hk : s.size < k) : tripwireref03_tail.f k s = some (ck s) := by
  rw [tripwireref03_tail.f, refSum_f k s hs hk]
  have hr := sum_range s
  simp only [Option.bind_some, Int.tmod_eq_emod_of_nonneg hr.1, Int.tdiv_eq_ediv_of_nonneg hr.1]
  rw [show sum s % 256 % 256 = sum s % 256 from by omega, show sum s / 256 % 4294967296 % 256 = sum s / 256 % 256 from by omega, show sum s / 65536 % 4294967296 % 256 = sum s / 65536 % 256 from by omega, show sum s / 16777216 % 4294967296 % 256 = sum s / 16777216 % 256 from by omega]
  rfl

/-- A frame at a place. -/
def UF (s : ByteArray) (at_ : Int) : ByteArray × Int × Int :=
  if (TT s at_).2.2 = 0 then
    (if s.size - (TT s at_).2.1 < 4 then (⟨#[]⟩, at_, 30)
     else if s.extract (TT s at_).2.1.toNat ((TT s at_).2.1 + 4).toNat = ck (TT s at_).1 then ((TT s at_).1, (TT s at_).2.1 + 4, 0)
     else (⟨#[]⟩, at_, 32))
  else (⟨#[]⟩, at_, (TT s at_).2.2)
theorem TT_bounds {s : ByteArray} {at_ : Int} (h : (TT s at_).2.2 = 0) : 0 ≤ at_ ∧ at_ < (TT s at_).2.1 ∧ (TT s at_).2.1 ≤ s.size ∧ (TT s at_).1.size ≤ 65536 := by
  obtain ⟨h0, h1, h2, h3⟩ := TT_ok h
  obtain ⟨a, b, c, d, e, f, g⟩ := TK_ok h0
  rw [h3]
  simp only [ByteArray.size_extract]
  omega
theorem Unframe_f (k : Nat) (s : ByteArray) (at_ : Int) (hs : s.size < 9000000000000000000) (hk : 65600 < k) : wire_Unframe.f k s at_ = some (UF s at_) := by
  rw [wire_Unframe.f, TakeText_f k s at_ hs (by omega)]
  simp only [Option.bind_some, UF]
  by_cases h : (TT s at_).2.2 = 0
  · rw [if_pos h, if_pos h]
    obtain ⟨a, b, c, d⟩ := TT_bounds h
    rw [wrap64_id (x := (s.size : Int) - (TT s at_).2.1) (by omega) (by omega)]
    by_cases h1 : (s.size : Int) - (TT s at_).2.1 < 4
    · rw [if_pos h1, if_pos h1]
    · rw [if_neg h1, if_neg h1, wrap64_id (by omega) (by omega), if_pos (by omega), if_pos (by omega), if_pos (by omega), check_f k _ (by omega) (by omega)]
      simp only [Option.bind_some, toList_eq_iff]
      split <;> rfl
  · rw [if_neg h, if_neg h]
theorem refUnframe_f (k : Nat) (s : ByteArray) (at_ : Int) (hs : s.size < 9000000000000000000) (hk : 65600 < k) : tripwireref03_Unframe.f k s at_ = some (UF s at_) := by
  rw [tripwireref03_Unframe.f, refTakeText_f k s at_ hs (by omega)]
  simp only [Option.bind_some, UF]
  by_cases h : (TT s at_).2.2 = 0
  · rw [if_pos h, if_pos h]
    obtain ⟨a, b, c, d⟩ := TT_bounds h
    rw [wrap64_id (x := (s.size : Int) - (TT s at_).2.1) (by omega) (by omega)]
    by_cases h1 : (s.size : Int) - (TT s at_).2.1 < 4
    · rw [if_pos h1, if_pos h1]
    · rw [if_neg h1, if_neg h1, wrap64_id (by omega) (by omega), if_pos (by omega), if_pos (by omega), if_pos (by omega), tail_f k _ (by omega) (by omega)]
      simp only [Option.bind_some, toList_eq_iff]
      split <;> rfl
  · rw [if_neg h, if_neg h]

theorem works_small : tripwirelaw03_works.f 30 = some true := by decide +kernel
theorem works_f (k : Nat) (hk : 30 ≤ k) : tripwirelaw03_works.f k = some true := at_rounds tripwirelaw03_works.mono hk works_small
end Go.Proofs.Ytcninjadeagenaa.WS
