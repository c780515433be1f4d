/- What is written is read back, and what is read is written again: numbers, texts and frames as bytes. No condition but those that each lemma names. -/
import Derived.Test.YtcninjadeagenaaWireB
namespace Go.Proofs.Ytcninjadeagenaa.WS
open Go.RowKit Go.Proofs.Ytcninjadeagenaa.HWire Go.Proofs.YtcninjadeagenaaW.PrintWords Go.Proofs.YtcninjadeagenaaW.PrintLast Go.Proofs.YtcninjadeagenaaW.PrintMore
set_option linter.unusedVariables false
set_option linter.unusedSimpArgs false

theorem bt_of_drop {s : ByteArray} {j : Nat} {x : Int} {r : List Int} (h : (bytesOf s).drop j = x :: r) : bt s j = x ∧ j < s.size ∧ (bytesOf s).drop (j + 1) = r := by
  have hl : j < (bytesOf s).length := by
    rcases Nat.lt_or_ge j (bytesOf s).length with q | q
    · exact q
    · rw [List.drop_of_length_le q] at h; cases h
  have hs : j < s.size := by rw [bytesOf_length] at hl; exact hl
  rw [bt_cons s j hs] at h
  injection h with h1 h2
  exact ⟨h1, hs, h2⟩

/-- What stands at a place as a number's own bytes is read as that number. -/
theorem tk_of_vi (s : ByteArray) (at_ : Int) (h0 : 0 ≤ at_) (m : Nat) : ∀ (i : Nat) (acc : Int) (q : Nat) (r : List Int), i + m = 10 → (0 < i → 0 < q) → acc + q * 128 ^ i < 18446744073709551616 → 0 ≤ acc →
    (bytesOf s).drop (at_.toNat + i) = vi q ++ r → 1 ≤ m → tk s at_ m i acc = (acc + q * 128 ^ i, at_ + i + (vi q).length, 0) := by
  induction m with
  | zero => intro i acc q r _ _ _ _ _ h; omega
  | succ m ih =>
    intro i acc q r hi hq hlt ha hd _
    have e : at_ + (i : Int) = ((at_.toNat + i : Nat) : Int) := by omega
    have hp := pow128_pos i
    simp only [tk]
    rcases Nat.lt_or_ge q 128 with h1 | h1
    · rw [vi_small h1] at hd ⊢
      obtain ⟨hb, hs, hr⟩ := bt_of_drop hd
      rw [e, hb, if_neg (by omega)]
      by_cases h9 : i = 9
      · subst h9
        have e9 : (128 : Int) ^ 9 = 9223372036854775808 := by decide
        rw [e9] at hlt
        obtain rfl : q = 1 := by have := hq (by omega); omega
        simp
      · rw [if_neg (by omega), if_pos (by omega), if_neg (by omega)]
        simp
    · rw [vi_big h1] at hd ⊢
      obtain ⟨hb, hs, hr⟩ := bt_of_drop hd
      have hq2 : 1 ≤ q / 128 := by omega
      have hm : (128 : Int) * 128 ^ i ≤ q * 128 ^ i := Int.mul_le_mul_of_nonneg_right (by omega) (by omega)
      have hi9 : i < 9 := by
        rcases Nat.lt_or_ge i 9 with hh | hh
        · exact hh
        · obtain rfl : i = 9 := by omega
          have e9 : (128 : Int) ^ 9 = 9223372036854775808 := by decide
          rw [e9] at hm hlt
          omega
      rw [e, hb, if_neg (by omega), if_neg (by omega), if_neg (by omega)]
      have hsplit : (q : Int) * 128 ^ i = (q % 128 : Nat) * 128 ^ i + (q / 128 : Nat) * 128 ^ (i + 1) := by
        have hqe : (q : Int) = (q % 128 : Nat) + 128 * (q / 128 : Nat) := by omega
        rw [pow128]
        conv => lhs; rw [hqe]
        rw [Int.add_mul, Int.mul_comm 128 ((q / 128 : Nat) : Int), Int.mul_assoc, Int.mul_comm 128 ((128 : Int) ^ i)]
      have hnn : 0 ≤ ((q % 128 : Nat) : Int) * 128 ^ i := Int.mul_nonneg (by omega) (by omega)
      have := ih (i + 1) (acc + (((q % 128 + 128 : Nat) : Int) - 128) * 128 ^ i) (q / 128) r (by omega) (by omega) (by
          rw [show ((q % 128 + 128 : Nat) : Int) - 128 = (q % 128 : Nat) from by omega]; omega) (by
          rw [show ((q % 128 + 128 : Nat) : Int) - 128 = (q % 128 : Nat) from by omega]; omega) hr (by omega)
      rw [← e, this, show ((q % 128 + 128 : Nat) : Int) - 128 = (q % 128 : Nat) from by omega]
      simp only [List.length_cons, Prod.mk.injEq, and_true]
      constructor
      · rw [hsplit]; omega
      · omega
theorem TK_of_vi {s : ByteArray} {at_ : Int} {n : Int} {r : List Int} (h0 : 0 ≤ at_) (hn0 : 0 ≤ n) (hn : n < 18446744073709551616) (hd : (bytesOf s).drop at_.toNat = vi n.toNat ++ r) : TK s at_ = (n, at_ + (vi n.toNat).length, 0) := by
  have hl := vi_pos n.toNat
  have hle : at_.toNat < s.size := by
    rcases Nat.lt_or_ge at_.toNat s.size with q | q
    · exact q
    · rw [List.drop_of_length_le (by rw [bytesOf_length]; omega)] at hd
      have := congrArg List.length hd
      simp at this
      omega
  unfold TK
  rw [if_neg (by omega), tk_of_vi s at_ h0 10 0 0 n.toNat r (by omega) (by omega) (by simp; omega) (by omega) (by simpa using hd) (by omega)]
  simp
  omega

/-- What is read as a number has just that number's bytes. -/
theorem vi_of_tk (s : ByteArray) (at_ : Int) (h0 : 0 ≤ at_) (m : Nat) : ∀ (i : Nat) (acc : Int), i + m = 10 → at_ + i ≤ s.size → (tk s at_ m i acc).2.2 = 0 →
    ∃ q : Nat, (0 < i → 0 < q) ∧ (tk s at_ m i acc).1 = acc + q * 128 ^ i ∧ (tk s at_ m i acc).2.1 = at_ + i + (vi q).length ∧ (bytesOf s).drop (at_.toNat + i) = vi q ++ (bytesOf s).drop ((tk s at_ m i acc).2.1).toNat := by
  induction m with
  | zero => intro i acc _ _ h; simp [tk] at h
  | succ m ih =>
    intro i acc hi hle h
    have hb := bt_range s (at_ + i)
    have e : at_ + (i : Int) = ((at_.toNat + i : Nat) : Int) := by omega
    simp only [tk] at h ⊢
    by_cases he : at_ + i = s.size
    · rw [if_pos he] at h; simp at h
    · rw [if_neg he] at h ⊢
      have hcons := bt_cons s (at_.toNat + i) (by omega)
      rw [← e] at hcons
      by_cases h9 : i = 9 ∧ bt s (at_ + i) ≠ 1
      · rw [if_pos h9] at h; simp at h
      · rw [if_neg h9] at h ⊢
        by_cases hlt : bt s (at_ + i) < 128
        · rw [if_pos hlt] at h ⊢
          by_cases hz : bt s (at_ + i) = 0 ∧ 0 < i
          · rw [if_pos hz] at h; simp at h
          · rw [if_neg hz]
            refine ⟨(bt s (at_ + i)).toNat, by omega, ?_, ?_, ?_⟩
            · simp only; rw [show (((bt s (at_ + i)).toNat : Nat) : Int) = bt s (at_ + i) from by omega]
            · rw [vi_small (by omega)]; simp
            · rw [vi_small (by omega), hcons]
              simp only [List.cons_append, List.nil_append, List.cons.injEq]
              refine ⟨by omega, ?_⟩
              congr 1
              omega
        · rw [if_neg hlt] at h ⊢
          obtain ⟨q, hq0, hq1, hq2, hq3⟩ := ih (i + 1) (acc + (bt s (at_ + i) - 128) * 128 ^ i) (by omega) (by omega) h
          have hqp := hq0 (by omega)
          refine ⟨128 * q + (bt s (at_ + i) - 128).toNat, by omega, ?_, ?_, ?_⟩
          · rw [hq1, pow128]
            have hc : ((128 * q + (bt s (at_ + i) - 128).toNat : Nat) : Int) = 128 * q + (bt s (at_ + i) - 128) := by omega
            rw [hc, Int.add_mul, Int.add_assoc]
            congr 1
            rw [Int.add_comm]
            congr 1
            rw [Int.mul_comm 128 (q : Int), Int.mul_assoc, Int.mul_comm 128 ((128 : Int) ^ i)]
          · rw [vi_big (by omega), show (128 * q + (bt s (at_ + i) - 128).toNat) / 128 = q from by omega, hq2]
            simp only [List.length_cons]
            omega
          · rw [vi_big (by omega), show (128 * q + (bt s (at_ + i) - 128).toNat) / 128 = q from by omega, hcons, List.cons_append]
            have hq3' : (bytesOf s).drop (at_.toNat + i + 1) = vi q ++ (bytesOf s).drop ((tk s at_ m (i + 1) (acc + (bt s (at_ + i) - 128) * 128 ^ i)).2.1).toNat := hq3
            rw [hq3']
            congr 1
            omega
theorem vi_of_TK {s : ByteArray} {at_ : Int} (h : (TK s at_).2.2 = 0) : (TK s at_).2.1 = at_ + (vi (TK s at_).1.toNat).length ∧ (bytesOf s).drop at_.toNat = vi (TK s at_).1.toNat ++ (bytesOf s).drop ((TK s at_).2.1).toNat := by
  obtain ⟨a, b, c, d, e, f, g⟩ := TK_ok h
  rw [g] at h ⊢
  obtain ⟨q, _, h1, h2, h3⟩ := vi_of_tk s at_ a 10 0 0 (by omega) (by omega) h
  have hq : q = (tk s at_ 10 0 0).1.toNat := by rw [h1]; simp
  rw [← hq]
  constructor
  · rw [h2]; simp
  · rw [Nat.add_zero] at h3; exact h3

/-! ### pieces -/
theorem take_of_drop {l a r : List Int} {i j : Nat} (h : l.drop i = a ++ r) (hj : j = i + a.length) : (l.drop i).take (j - i) = a ∧ l.drop j = r := by
  subst hj
  rw [Nat.add_sub_cancel_left, h]
  refine ⟨List.take_left, ?_⟩
  rw [← List.drop_drop, h, List.drop_left]
theorem cut_eq {s : ByteArray} {i j : Nat} {a r : List Int} (h : (bytesOf s).drop i = a ++ r) (hj : j = i + a.length) : s.extract i j = strOfNums a := by
  apply eq_of_bytesOf
  rw [bytesOf_extract, (take_of_drop h hj).1, bytesOf_S a ?_]
  intro x hx
  refine bytesOf_isB s x ?_
  have : x ∈ (bytesOf s).drop i := by rw [h]; exact List.mem_append_left _ hx
  exact List.mem_of_mem_drop this
theorem piece (s : ByteArray) (i j : Nat) (hi : i ≤ j) (hj : j ≤ s.size) : (bytesOf s).drop i = bytesOf (s.extract i j) ++ (bytesOf s).drop j := by
  rw [bytesOf_extract]
  conv => lhs; rw [← List.take_append_drop (j - i) ((bytesOf s).drop i)]
  rw [List.drop_drop, show i + (j - i) = j from by omega]

/-- A text's bytes. -/
def tl (s : ByteArray) : List Int := vi s.size ++ bytesOf s
theorem tl_isB (s : ByteArray) : isB (tl s) := by
  intro x hx
  rcases List.mem_append.1 hx with hx | hx
  · exact vi_isB _ x hx
  · exact bytesOf_isB _ x hx
theorem flat_one (n : Int) : flat [n] = vi n.toNat := by simp [flat]
theorem isU_one {n : Int} (h0 : 0 ≤ n) (h1 : n < 18446744073709551616) : isU [n] := by intro x hx; simp at hx; omega
theorem empty_append (b : ByteArray) : (⟨#[]⟩ : ByteArray) ++ b = b := by
  apply ByteArray.ext
  simp
theorem PutText_f (k : Nat) (b s : ByteArray) (hk : 12 < k) (hb : b.size < 70000000000) (hs : s.size < 70000000000) : wire_PutText.f k b s = some (b ++ strOfNums (tl s)) := by
  have hu : IntKind.u64.wrap ((s.size : Nat) : Int) = s.size := u64_id (by omega) (by omega)
  have hv := vi_len10 (n := s.size) (by omega)
  rw [wire_PutText.f, hu, Put_f k b [(s.size : Int)] (isU_one (by omega) (by omega)) (by simp; omega) (by simp) (by simp; omega)]
  simp only [Option.bind_some]
  have hsz : (b ++ strOfNums (flat [(s.size : Int)])).size = b.size + (vi s.size).length := by
    rw [flat_one, ByteArray.size_append, S_size]
    rfl
  rw [if_pos (by rw [hsz]; omega), flat_one, tl, S_append, S_bytesOf, ByteArray.append_assoc]
  rfl
/-- A frame's bytes. -/
def fl (s : ByteArray) : List Int := tl s ++ ckl s
theorem ckl_isB (s : ByteArray) : isB (ckl s) := by
  intro x hx
  simp only [ckl, List.mem_cons, List.not_mem_nil, or_false] at hx
  omega
theorem Frame_f (k : Nat) (s : ByteArray) (hs : s.size ≤ 65536) (hk : 65600 < k) : wire_Frame.f k s = some (strOfNums (fl s), 0) := by
  rw [wire_Frame.f, if_neg (by omega), PutText_f k _ s (by omega) (by simp [ByteArray.size]) (by omega), empty_append]
  simp only [Option.bind_some]
  rw [check_f k s (by omega) (by omega)]
  simp only [Option.bind_some]
  have hv := vi_len10 (n := s.size) (by omega)
  rw [if_pos ?_, fl, S_append]
  · rfl
  · rw [S_size, ck, S_size, tl, List.length_append, bytesOf_length]
    simp [ckl]
    omega
theorem Frame_long (k : Nat) (s : ByteArray) (hs : 65536 < s.size) : wire_Frame.f k s = some (⟨#[]⟩, 31) := by
  rw [wire_Frame.f, if_pos (by omega)]

/-- A text that stands at a place is read. -/
theorem TT_of_tl {s t : ByteArray} {at_ : Int} {r : List Int} (h0 : 0 ≤ at_) (ht : t.size ≤ 65536) (hd : (bytesOf s).drop at_.toNat = tl t ++ r) : TT s at_ = (t, at_ + (tl t).length, 0) := by
  have hd' : (bytesOf s).drop at_.toNat = vi ((t.size : Int)).toNat ++ (bytesOf t ++ r) := by rw [hd, tl, List.append_assoc]; rfl
  have hT := TK_of_vi h0 (n := (t.size : Int)) (by omega) (by omega) hd'
  have hl : at_.toNat + (vi t.size).length + t.size + r.length = s.size := by
    have := congrArg List.length hd
    have hp := vi_pos t.size
    rw [List.length_drop, bytesOf_length, tl, List.length_append, List.length_append, bytesOf_length] at this
    omega
  have hn : ((t.size : Int)).toNat = t.size := by omega
  rw [hn] at hT
  have hcut := take_of_drop (j := at_.toNat + (vi t.size).length) hd' (by rw [hn])
  unfold TT
  rw [hT]
  simp only
  rw [if_pos trivial, if_neg (by omega), if_neg (by omega)]
  have hx : s.extract (at_ + (vi t.size).length).toNat (at_ + (vi t.size).length + t.size).toNat = strOfNums (bytesOf t) := by
    have e1 : (at_ + ((vi t.size).length : Int)).toNat = at_.toNat + (vi t.size).length := by omega
    have e2 : (at_ + ((vi t.size).length : Int) + t.size).toNat = at_.toNat + (vi t.size).length + t.size := by omega
    rw [e1, e2]
    exact cut_eq hcut.2 (by rw [bytesOf_length])
  rw [hx, S_bytesOf, tl, List.length_append, bytesOf_length]
  simp only [Prod.mk.injEq, true_and, and_true]
  omega
/-- A frame that stands at a place is read. -/
theorem UF_of_fl {s t : ByteArray} {at_ : Int} {r : List Int} (h0 : 0 ≤ at_) (ht : t.size ≤ 65536) (hd : (bytesOf s).drop at_.toNat = fl t ++ r) : UF s at_ = (t, at_ + (fl t).length, 0) := by
  have hd' : (bytesOf s).drop at_.toNat = tl t ++ (ckl t ++ r) := by rw [hd, fl, List.append_assoc]
  have hT := TT_of_tl h0 ht hd'
  have hcut := take_of_drop (j := at_.toNat + (tl t).length) hd' rfl
  have hl : at_.toNat + (tl t).length + 4 + r.length = s.size := by
    have := congrArg List.length hd
    have hp : 0 < (tl t).length := by have := vi_pos t.size; simp [tl]; omega
    rw [List.length_drop, bytesOf_length, fl, List.length_append, List.length_append] at this
    simp [ckl] at this
    omega
  unfold UF
  rw [hT]
  simp only
  have hx : s.extract (at_ + (tl t).length).toNat (at_ + (tl t).length + 4).toNat = ck t := by
    have e1 : (at_ + ((tl t).length : Int)).toNat = at_.toNat + (tl t).length := by omega
    have e2 : (at_ + ((tl t).length : Int) + 4).toNat = at_.toNat + (tl t).length + 4 := by omega
    rw [e1, e2]
    exact cut_eq hcut.2 (by simp [ckl])
  rw [if_pos trivial, if_neg (by omega), if_pos hx]
  simp only [fl, List.length_append, ckl, List.length_cons, List.length_nil, Prod.mk.injEq, true_and, and_true]
  omega

/-- What is read as a text is that text's bytes. -/
theorem tl_of_TT {s : ByteArray} {at_ : Int} (h : (TT s at_).2.2 = 0) : (TT s at_).2.1 = at_ + (tl (TT s at_).1).length ∧ (bytesOf s).drop at_.toNat = tl (TT s at_).1 ++ (bytesOf s).drop ((TT s at_).2.1).toNat := by
  obtain ⟨h0, h1, h2, h3⟩ := TT_ok h
  obtain ⟨a, b, c, d, e, f, g⟩ := TK_ok h0
  obtain ⟨v1, v2⟩ := vi_of_TK h0
  have hsz : (TT s at_).1.size = (TK s at_).1.toNat := by
    rw [h3]
    simp only [ByteArray.size_extract]
    omega
  have hto : (TT s at_).2.1 = (TK s at_).2.1 + (TK s at_).1 := by rw [h3]
  have hx : (TT s at_).1 = s.extract (TK s at_).2.1.toNat ((TK s at_).2.1 + (TK s at_).1).toNat := by rw [h3]
  constructor
  · rw [hto, tl, List.length_append, bytesOf_length, hsz]
    omega
  · rw [tl, hsz, List.append_assoc, v2]
    congr 1
    rw [hto, hx]
    exact piece s _ _ (by omega) (by omega)
/-- What is read as a frame is that frame's bytes. -/
theorem UF_ok {s : ByteArray} {at_ : Int} (h : (UF s at_).2.2 = 0) : (TT s at_).2.2 = 0 ∧ (TT s at_).2.1 + 4 ≤ s.size ∧ s.extract (TT s at_).2.1.toNat ((TT s at_).2.1 + 4).toNat = ck (TT s at_).1 ∧ UF s at_ = ((TT s at_).1, (TT s at_).2.1 + 4, 0) := by
  unfold UF at h ⊢
  by_cases h0 : (TT s at_).2.2 = 0
  · rw [if_pos h0] at h ⊢
    by_cases h1 : (s.size : Int) - (TT s at_).2.1 < 4
    · rw [if_pos h1] at h; simp at h
    · rw [if_neg h1] at h ⊢
      by_cases h2 : s.extract (TT s at_).2.1.toNat ((TT s at_).2.1 + 4).toNat = ck (TT s at_).1
      · rw [if_pos h2]
        exact ⟨h0, by omega, h2, rfl⟩
      · rw [if_neg h2] at h; simp at h
  · rw [if_neg h0] at h; exact absurd h h0
theorem fl_of_UF {s : ByteArray} {at_ : Int} (h : (UF s at_).2.2 = 0) : (UF s at_).2.1 = at_ + (fl (UF s at_).1).length ∧ (bytesOf s).drop at_.toNat = fl (UF s at_).1 ++ (bytesOf s).drop ((UF s at_).2.1).toNat := by
  obtain ⟨h0, h1, h2, h3⟩ := UF_ok h
  obtain ⟨t1, t2⟩ := tl_of_TT h0
  obtain ⟨b1, b2, b3, b4⟩ := TT_bounds h0
  rw [h3]
  simp only
  constructor
  · rw [fl, List.length_append]
    simp [ckl]
    omega
  · rw [fl, List.append_assoc, t2]
    congr 1
    have := piece s (TT s at_).2.1.toNat ((TT s at_).2.1 + 4).toNat (by omega) (by omega)
    rw [h2, ck, bytesOf_S _ (ckl_isB _)] at this
    exact this

/-! ### a number's size -/
theorem or1_nat (n : Nat) : n ||| 1 = n / 2 * 2 + 1 := by
  apply Nat.eq_of_testBit_eq
  intro i
  rw [Nat.testBit_or]
  cases i with
  | zero => simp
  | succ i =>
    rw [Nat.testBit_succ, Nat.testBit_succ, Nat.testBit_succ, show (n / 2 * 2 + 1) / 2 = n / 2 from by omega, show 1 / 2 = 0 from rfl]
    simp
theorem bitLen_or1 (n : Nat) (h0 : 0 < n) (h : n < 18446744073709551616) : Lib.bitLen (n ||| 1) = Lib.bitLen n := by
  rw [or1_nat]
  by_cases h1 : n = 1
  · subst h1; rfl
  · rw [Lib.bitLen_half (n / 2 * 2 + 1) (by omega) (by omega), Lib.bitLen_half n (by omega) (by omega), show (n / 2 * 2 + 1) / 2 = n / 2 from by omega]
theorem bitLen_small : ∀ a : Fin 128, (Lib.bitLen (a.val ||| 1) + 6) / 7 = 1 := by decide +kernel
theorem size_vi (n : Nat) : n < 18446744073709551616 → (Lib.bitLen (n ||| 1) + 6) / 7 = (vi n).length := by
  induction n using vi.induct with
  | case1 n h => intro _; rw [vi_small h]; exact bitLen_small ⟨n, h⟩
  | case2 n h ih =>
    intro hn
    have i2 := ih (by omega)
    rw [vi_big (by omega), List.length_cons, ← i2, bitLen_or1 n (by omega) hn, bitLen_or1 (n / 128) (by omega) (by omega)]
    have := Lib.bitLen_shift 7 n (by omega) hn
    rw [this, show (2 : Nat) ^ 7 = 128 from rfl]
    omega
end Go.Proofs.Ytcninjadeagenaa.WS
