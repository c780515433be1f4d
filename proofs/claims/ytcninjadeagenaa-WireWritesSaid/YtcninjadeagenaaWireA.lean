/- Numbers as bytes: what 'put' and 'Take' come to, as plain functions of numbers and lists. No condition but those that each lemma names. -/
import Derived.Test.YtcninjadeagenaaHWirex3
namespace Go.Proofs.Ytcninjadeagenaa.WS
open Go.RowKit Go.Proofs.Ytcninjadeagenaa.HWire Go.Proofs.YtcninjadeagenaaW.PrintWords Go.Proofs.YtcninjadeagenaaW.PrintLast Go.Proofs.YtcninjadeagenaaW.PrintMore
set_option linter.unusedVariables false
set_option linter.unusedSimpArgs false

theorem wrap64_id {x : Int} (h0 : -9223372036854775808 ≤ x) (h1 : x ≤ 9223372036854775807) : wrap64 x = x := by unfold wrap64; omega
theorem u64_eq (n : Int) : IntKind.u64.wrap n = n % 18446744073709551616 := by simp [IntKind.wrap, IntKind.bits, IntKind.signed]
theorem u64_id {x : Int} (h0 : 0 ≤ x) (h1 : x < 18446744073709551616) : IntKind.u64.wrap x = x := by rw [u64_eq]; omega

/-! ### bytes -/
def isB (l : List Int) : Prop := ∀ x ∈ l, 0 ≤ x ∧ x ≤ 255
theorem S_size (l : List Int) : (strOfNums l).size = l.length := strOfNums_size l
theorem S_append (a b : List Int) : strOfNums (a ++ b) = strOfNums a ++ strOfNums b := by
  apply ByteArray.ext
  simp [strOfNums]
theorem S_bytesOf (s : ByteArray) : strOfNums (bytesOf s) = s := by
  apply ByteArray.ext
  simp only [strOfNums, bytesOf, List.map_map]
  apply Array.ext'
  simp only [List.toList_toArray]
  rw [show (fun n : Int => UInt8.ofNat n.toNat) ∘ (fun b : UInt8 => (b.toNat : Int)) = id from by funext b; simp, List.map_id]
theorem bytesOf_S (l : List Int) (h : isB l) : bytesOf (strOfNums l) = l := by
  simp only [bytesOf, strOfNums, List.toList_toArray, List.map_map]
  conv => rhs; rw [← List.map_id l]
  apply List.map_congr_left
  intro x hx
  have := h x hx
  simp only [Function.comp, UInt8.toNat_ofNat', id]
  omega
theorem bt_eq (s : ByteArray) (i : Int) : bt s i = (bytesOf s).getD i.toNat 0 := by rw [← rd_bytesOf]; rfl
theorem bytesOf_append (a b : ByteArray) : bytesOf (a ++ b) = bytesOf a ++ bytesOf b := by simp [bytesOf]
theorem bytesOf_isB (s : ByteArray) : isB (bytesOf s) := by
  intro x hx
  simp only [bytesOf, List.mem_map] at hx
  obtain ⟨b, _, rfl⟩ := hx
  have := b.toNat_lt
  omega
theorem eq_of_bytesOf {a b : ByteArray} (h : bytesOf a = bytesOf b) : a = b := by rw [← S_bytesOf a, ← S_bytesOf b, h]
theorem bytesOf_extract (s : ByteArray) (i j : Nat) : bytesOf (s.extract i j) = ((bytesOf s).drop i).take (j - i) := by
  simp only [bytesOf, ByteArray.data_extract, Array.toList_extract, List.extract_eq_take_drop, List.map_take, List.map_drop]
theorem toList_eq_iff (a b : ByteArray) : a.toList = b.toList ↔ a = b := by
  constructor
  · intro h
    apply ByteArray.ext
    apply Array.ext'
    rw [← ByteArray.toList_eq, ← ByteArray.toList_eq]
    exact h
  · rintro rfl; rfl
theorem bt_extract (s : ByteArray) (i : Nat) (j : Int) (h0 : 0 ≤ j) : bt (s.extract i s.size) j = bt s (i + j) := by
  rw [bt_eq, bt_eq, bytesOf_extract]
  have hl := bytesOf_length s
  rw [List.getD_eq_getElem?_getD, List.getD_eq_getElem?_getD]
  have e : ((i : Int) + j).toNat = i + j.toNat := by omega
  rw [e]
  congr 1
  rcases Nat.lt_or_ge (j.toNat) (s.size - i) with h | h
  · rw [List.getElem?_take_of_lt h, List.getElem?_drop]
  · rw [List.getElem?_eq_none (by simp; omega), List.getElem?_eq_none (by omega)]

/-! ### a number's bytes -/
def vi (n : Nat) : List Int := if h : n < 128 then [(n : Int)] else ((n % 128 + 128 : Nat) : Int) :: vi (n / 128)
  termination_by n
  decreasing_by omega
theorem vi_small {n : Nat} (h : n < 128) : vi n = [(n : Int)] := by rw [vi, dif_pos h]
theorem vi_big {n : Nat} (h : 128 ≤ n) : vi n = ((n % 128 + 128 : Nat) : Int) :: vi (n / 128) := by rw [vi, dif_neg (by omega)]
theorem vi_isB (n : Nat) : isB (vi n) := by
  induction n using vi.induct with
  | case1 n h => rw [vi_small h]; intro x hx; simp at hx; omega
  | case2 n h ih =>
    rw [vi_big (by omega)]
    intro x hx
    rcases List.mem_cons.1 hx with rfl | hx
    · omega
    · exact ih x hx
theorem vi_len (m : Nat) : ∀ n : Nat, n < 128 ^ (m + 1) → (vi n).length ≤ m + 1 := by
  induction m with
  | zero => intro n h; rw [vi_small (by simpa using h)]; simp
  | succ m ih =>
    intro n h
    rcases Nat.lt_or_ge n 128 with h1 | h1
    · rw [vi_small h1]; simp
    · rw [vi_big h1, List.length_cons]
      have := ih (n / 128) (by rw [Nat.pow_succ] at h; exact Nat.div_lt_of_lt_mul (by rw [Nat.mul_comm]; exact h))
      omega
theorem vi_pos (n : Nat) : 0 < (vi n).length := by rw [vi]; split <;> simp
theorem vi_len10 {n : Nat} (h : n < 18446744073709551616) : (vi n).length ≤ 10 := vi_len 9 n (by omega)

theorem or128 : ∀ a : Fin 256, (a.val ||| 128) = a.val % 128 + 128 := by decide +kernel
theorem u8_or (x : Int) (h0 : 0 ≤ x) (h1 : x < 256) : Go.bits .or .u8 x 128 = x % 128 + 128 := by
  obtain ⟨a, rfl⟩ := Int.eq_ofNat_of_zero_le h0
  have ha : a < 2 ^ 8 := by omega
  have := (bits_nat .u8 8 (by decide) wraps_u8 a 128 ha (by decide)).2
  have e := or128 ⟨a, by omega⟩
  simp only at e
  rw [e] at this
  rw [show ((128 : Nat) : Int) = 128 from rfl] at this
  rw [this]
  omega

theorem put_l0 (m : Nat) : ∀ (n : Nat) (k : Nat) (out : List Int), n < 128 ^ (m + 1) → m < k → out.length + m < 140737488355328 → wire_put.l0 k out n = some (out ++ vi n) := by
  induction m with
  | zero =>
    intro n k out hn hk hl
    obtain ⟨k, rfl⟩ : ∃ q, k = q + 1 := ⟨k - 1, by omega⟩
    have hn' : n < 128 := by simpa using hn
    simp only [wire_put.l0]
    rw [if_neg (by omega), if_pos (by omega), vi_small hn']
    rw [show (n : Int) % 256 = n from by omega]
  | succ m ih =>
    intro n k out hn hk hl
    obtain ⟨k, rfl⟩ : ∃ q, k = q + 1 := ⟨k - 1, by omega⟩
    simp only [wire_put.l0]
    rcases Nat.lt_or_ge n 128 with h1 | h1
    · rw [if_neg (by omega), if_pos (by omega), vi_small h1]
      rw [show (n : Int) % 256 = n from by omega]
    · rw [if_pos (by omega), if_pos (by omega), u8_or _ (by omega) (by omega)]
      have e : (n : Int) / 128 = ((n / 128 : Nat) : Int) := by omega
      rw [e, ih (n / 128) k _ (by rw [Nat.pow_succ] at hn; exact Nat.div_lt_of_lt_mul (by rw [Nat.mul_comm]; exact hn)) (by omega) (by simp; omega), vi_big h1]
      have e2 : (n : Int) % 256 % 128 + 128 = ((n % 128 + 128 : Nat) : Int) := by omega
      rw [e2]
      simp
theorem put_f (k : Nat) (out : List Int) (n : Int) (h0 : 0 ≤ n) (h1 : n < 18446744073709551616) (hk : 10 ≤ k) (hl : out.length + 10 < 140737488355328) : wire_put.f k out n = some (out ++ vi n.toNat) := by
  obtain ⟨a, rfl⟩ := Int.eq_ofNat_of_zero_le h0
  rw [wire_put.f, put_l0 9 a k out (by omega) (by omega) (by omega)]
  rfl

def flat (l : List Int) : List Int := l.flatMap fun n => vi n.toNat
theorem flat_isB (l : List Int) : isB (flat l) := by
  intro x hx
  simp only [flat, List.mem_flatMap] at hx
  obtain ⟨n, _, hx⟩ := hx
  exact vi_isB _ x hx
def isU (l : List Int) : Prop := ∀ x ∈ l, 0 ≤ x ∧ x < 18446744073709551616
theorem flat_len (l : List Int) (h : isU l) : (flat l).length ≤ 10 * l.length := by
  induction l with
  | nil => simp [flat]
  | cons n l ih =>
    have h1 := ih (fun x hx => h x (List.mem_cons_of_mem _ hx))
    have h2 := h n List.mem_cons_self
    have h3 := vi_len10 (n := n.toNat) (by omega)
    simp only [flat, List.flatMap_cons, List.length_append, List.length_cons] at h1 ⊢
    omega
theorem rd_get (l : List Int) (i : Nat) (h : i < l.length) : rd l i = l[i] := by simp [rd, h]
theorem Put_l0 (l : List Int) (h : isU l) (hlen : l.length < 1000000000000) (d : Nat) : ∀ (k i : Nat) (out : List Int), i + d = l.length → d + 10 < k → out.length + 10 * d + 10 < 140737488355328 → wire_Put.l0 k l out i = some (strOfNums (out ++ flat (l.drop i))) := by
  induction d with
  | zero =>
    intro k i out hi hk hl
    obtain ⟨k, rfl⟩ : ∃ q, k = q + 1 := ⟨k - 1, by omega⟩
    simp only [wire_Put.l0]
    rw [if_neg (by omega), List.drop_of_length_le (by omega)]
    simp [flat]
  | succ d ih =>
    intro k i out hi hk hl
    obtain ⟨k, rfl⟩ : ∃ q, k = q + 1 := ⟨k - 1, by omega⟩
    simp only [wire_Put.l0]
    have hlt : i < l.length := by omega
    rw [if_pos (by omega), if_pos (by omega), rd_get l i hlt]
    have hu := h l[i] (List.getElem_mem hlt)
    rw [put_f k out l[i] hu.1 hu.2 (by omega) (by omega)]
    simp only [Option.bind_some]
    rw [wrap64_id (by omega) (by omega)]
    have hv := vi_len10 (n := l[i].toNat) (by omega)
    have := ih k (i + 1) (out ++ vi l[i].toNat) (by omega) (by omega) (by simp; omega)
    rw [show ((i + 1 : Nat) : Int) = (i : Int) + 1 from by omega] at this
    have e : flat (l.drop i) = vi l[i].toNat ++ flat (l.drop (i + 1)) := by rw [List.drop_eq_getElem_cons hlt]; rfl
    rw [this, e, List.append_assoc]
/-- Put: the bytes ahead, then each number's. -/
theorem Put_f (k : Nat) (b : ByteArray) (l : List Int) (h : isU l) (hk : l.length + 10 < k) (hn : l.length < 1000000000000) (hl : b.size + 10 * l.length + 10 < 140737488355328) : wire_Put.f k b l = some (b ++ strOfNums (flat l)) := by
  rw [wire_Put.f, if_pos (by omega)]
  have := Put_l0 l h hn l.length k 0 (bytesOf b) (by omega) (by omega) (by rw [bytesOf_length]; omega)
  rw [show ((0 : Nat) : Int) = 0 from rfl] at this
  rw [this, S_append, S_bytesOf, List.drop_zero]

/-! ### Take -/
/-- What stands at a place, read from its byte i on; m: how many bytes it may still have. -/
def tk (s : ByteArray) (at_ : Int) : Nat → Nat → Int → Int × Int × Int
  | 0, _, _ => (0, at_, 31)
  | m + 1, i, acc =>
    if at_ + i = s.size then (0, at_, 30)
    else if i = 9 ∧ bt s (at_ + i) ≠ 1 then (0, at_, 31)
    else if bt s (at_ + i) < 128 then (if bt s (at_ + i) = 0 ∧ 0 < i then (0, at_, 31) else (acc + bt s (at_ + i) * 128 ^ i, at_ + i + 1, 0))
    else tk s at_ m (i + 1) (acc + (bt s (at_ + i) - 128) * 128 ^ i)
def TK (s : ByteArray) (at_ : Int) : Int × Int × Int := if at_ < 0 ∨ (s.size : Int) < at_ then (0, at_, 1) else tk s at_ 10 0 0

theorem pow128 (i : Nat) : (128 : Int) ^ (i + 1) = 128 ^ i * 128 := by rw [Int.pow_succ]
theorem pow128_pos (i : Nat) : (0 : Int) < 128 ^ i := Int.pow_pos (by decide)
theorem pow128_le : ∀ i : Nat, i ≤ 9 → (128 : Int) ^ i ≤ 9223372036854775808 := by
  intro i hi
  have h : ∀ j : Fin 10, (128 : Int) ^ j.val ≤ 9223372036854775808 := by decide
  exact h ⟨i, by omega⟩
/-- c's seven bits at place i, in front of what is there. -/
theorem step_fits {c acc : Int} {i : Nat} (hi : i ≤ 9) (h9 : i = 9 → c ≤ 1) (hc0 : 0 ≤ c) (hc : c ≤ 127) (ha0 : 0 ≤ acc) (ha : acc < 128 ^ i) :
    0 ≤ c * 128 ^ i ∧ c * 128 ^ i < 18446744073709551616 ∧ acc + c * 128 ^ i < 18446744073709551616 ∧ acc + c * 128 ^ i < 128 ^ (i + 1) := by
  have hp := pow128_pos i
  have hm : c * 128 ^ i ≤ 127 * 128 ^ i := Int.mul_le_mul_of_nonneg_right hc (by omega)
  have h0 : 0 ≤ c * 128 ^ i := Int.mul_nonneg hc0 (by omega)
  have hs : acc + c * 128 ^ i < 128 ^ (i + 1) := by rw [pow128]; omega
  rcases Nat.lt_or_ge i 9 with h | h
  · have hq := pow128_le (i + 1) (by omega)
    exact ⟨h0, by omega, by omega, hs⟩
  · obtain rfl : i = 9 := by omega
    have hc1 := h9 rfl
    have hm1 : c * 128 ^ 9 ≤ 1 * 128 ^ 9 := Int.mul_le_mul_of_nonneg_right hc1 (by omega)
    have e9 : (128 : Int) ^ 9 = 9223372036854775808 := by decide
    rw [e9] at *
    exact ⟨h0, by omega, by omega, hs⟩

theorem ref_l0 (s : ByteArray) (at_ : Int) (h0 : 0 ≤ at_) (hs : s.size < 9000000000000000000) (m : Nat) : ∀ (i k : Nat) (acc : Int), i + m = 10 → 2 * m < k → at_ + i ≤ s.size → 0 ≤ acc → acc < 128 ^ i →
    tripwireref03_Take.l0 k s at_ acc (if i < 10 then 128 ^ i else 0) i = some (tk s at_ m i acc) := by
  induction m with
  | zero =>
    intro i k acc hi hk hle ha0 ha
    obtain ⟨k, rfl⟩ : ∃ q, k = q + 1 := ⟨k - 1, by omega⟩
    simp only [tripwireref03_Take.l0, tk]
    rw [if_neg (by omega)]
  | succ m ih =>
    intro i k acc hi hk hle ha0 ha
    obtain ⟨k, rfl⟩ : ∃ q, k = q + 2 := ⟨k - 2, by omega⟩
    have hb := bt_range s (at_ + i)
    have hw : wrap64 (at_ + i) = at_ + i := wrap64_id (by omega) (by omega)
    simp only [tripwireref03_Take.l0, tk]
    rw [if_pos (by omega), if_pos (show i < 10 by omega), hw]
    by_cases he : at_ + i = s.size
    · rw [if_pos he, if_pos he]
    · rw [if_neg he, if_neg he, if_pos (by omega), if_pos (by omega), u64_id hb.1 (by omega)]
      have key : ∀ x : Bool, x = decide (i = 9 ∧ bt s (at_ + i) ≠ 1) → tripwireref03_Take.j2 (k + 1) s at_ acc (128 ^ i) i (bt s (at_ + i)) x = some (if i = 9 ∧ bt s (at_ + i) ≠ 1 then (0, at_, 31)
          else if bt s (at_ + i) < 128 then (if bt s (at_ + i) = 0 ∧ 0 < i then (0, at_, 31) else (acc + bt s (at_ + i) * 128 ^ i, at_ + i + 1, 0))
          else tk s at_ m (i + 1) (acc + (bt s (at_ + i) - 128) * 128 ^ i)) := by
        intro x hx
        simp only [tripwireref03_Take.j2]
        subst hx
        by_cases h9 : i = 9 ∧ bt s (at_ + i) ≠ 1
        · rw [if_pos (by simpa using h9), if_pos h9]
        · rw [if_neg (by simpa using h9), if_neg h9]
          by_cases hlt : bt s (at_ + i) < 128
          · rw [if_pos hlt, if_pos hlt]
            have ht : Int.tmod (bt s (at_ + i)) 128 = bt s (at_ + i) := by rw [Int.tmod_eq_emod_of_nonneg hb.1]; omega
            have hf := step_fits (c := bt s (at_ + i)) (acc := acc) (i := i) (by omega) (by omega) hb.1 (by omega) ha0 ha
            rw [ht, u64_id hf.1 hf.2.1, u64_id (by omega) hf.2.2.1, hw, wrap64_id (by omega) (by omega)]
            by_cases hz : bt s (at_ + i) = 0
            · rw [if_pos hz]
              by_cases hi0 : 0 < i
              · rw [if_pos (by omega), if_pos ⟨hz, hi0⟩]
              · rw [if_neg (by omega), if_neg (by omega)]
            · rw [if_neg hz, if_neg (by omega)]
          · rw [if_neg hlt, if_neg hlt]
            have ht : Int.tmod (bt s (at_ + i)) 128 = bt s (at_ + i) - 128 := by rw [Int.tmod_eq_emod_of_nonneg hb.1]; omega
            have hi9 : i < 9 := by omega
            have hf := step_fits (c := bt s (at_ + i) - 128) (acc := acc) (i := i) (by omega) (by omega) (by omega) (by omega) ha0 ha
            rw [ht, u64_id hf.1 hf.2.1, u64_id (by omega) hf.2.2.1, wrap64_id (by omega) (by omega)]
            have hp := pow128_le (i + 1) (by omega)
            have hp0 := pow128_pos (i + 1)
            rw [← pow128 i, u64_id (by omega) (by omega)]
            have := ih (i + 1) k (acc + (bt s (at_ + i) - 128) * 128 ^ i) (by omega) (by omega) (by omega) (by omega) hf.2.2.2
            rw [if_pos (show i + 1 < 10 by omega)] at this
            rw [show ((i + 1 : Nat) : Int) = (i : Int) + 1 from by omega] at this
            exact this
      by_cases h9 : i = 9
      · rw [if_pos (by omega)]
        exact key _ (by have h9' : (i = 9) = True := eq_true h9; by_cases hq : bt s (at_ + i) = 1 <;> simp [hq, h9'])
      · rw [if_neg (by omega)]
        exact key _ (by simp [h9])
theorem refTake_f (k : Nat) (s : ByteArray) (at_ : Int) (hs : s.size < 9000000000000000000) (hk : 22 < k) : tripwireref03_Take.f k s at_ = some (TK s at_) := by
  obtain ⟨k, rfl⟩ : ∃ q, k = q + 1 := ⟨k - 1, by omega⟩
  rw [tripwireref03_Take.f]
  have main : ∀ h0 : 0 ≤ at_, at_ ≤ s.size → tripwireref03_Take.l0 k s at_ 0 1 0 = some (tk s at_ 10 0 0) := by
    intro h0 h1
    have := ref_l0 s at_ h0 hs 10 0 k 0 (by omega) (by omega) (by omega) (by omega) (by decide)
    simpa using this
  by_cases h : at_ < 0
  · rw [if_pos h]
    simp only [tripwireref03_Take.j0, TK]
    rw [if_pos trivial, if_pos (.inl h)]
  · rw [if_neg h]
    simp only [tripwireref03_Take.j0, TK]
    by_cases h2 : (s.size : Int) < at_
    · rw [if_pos (by simpa using h2), if_pos (.inr h2)]
    · rw [if_neg (by simpa using h2), if_neg (by omega)]
      exact main (by omega) (by omega)
end Go.Proofs.Ytcninjadeagenaa.WS
