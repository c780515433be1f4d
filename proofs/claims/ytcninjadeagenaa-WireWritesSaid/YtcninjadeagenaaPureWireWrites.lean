/- Each number, text, check and frame is written just as the document says, and what is handed in stays. No condition. -/
import Derived.Test.YtcninjadeagenaaHWirex9
import Derived.Test.YtcninjadeagenaaWireD
namespace Go.Proofs.Ytcninjadeagenaa.Pure
open Go.RowKit Go.Proofs.Ytcninjadeagenaa.HWire Go.Proofs.YtcninjadeagenaaW.PrintWords Go.Proofs.YtcninjadeagenaaW.PrintLast Go.Proofs.Ytcninjadeagenaa.WS
set_option linter.unusedSimpArgs false

theorem flat_snoc (l : List Int) (i : Nat) (h : i < l.length) : flat (l.take (i + 1)) = flat (l.take i) ++ vi (l[i]).toNat := by
  rw [List.take_succ_eq_append_getElem h, flat, List.flatMap_append]
  simp [flat]
theorem S_snoc (b : ByteArray) (x y : List Int) : b ++ strOfNums x ++ strOfNums y = b ++ strOfNums (x ++ y) := by
  rw [ByteArray.append_assoc, ← S_append]
/-- The document's number behind bytes: m more bytes at most. -/
theorem refPut_l1 (l : List Int) (i : Int) (r : Option ByteArray) (m : Nat) : ∀ (n : Nat) (k : Nat) (b : ByteArray), n < 18446744073709551616 → n < 128 ^ (m + 1) → b.size + m + 1 < 9000000000000000000 → m < k →
    (∀ k', k ≤ k' + m + 1 → tripwireref03_Put.l0 k' (b ++ strOfNums (vi n)) l (wrap64 (i + 1)) = r) → tripwireref03_Put.l1 k b l i n = r := by
  induction m with
  | zero =>
    intro n k b h64 hn hb hk hr
    obtain ⟨k, rfl⟩ : ∃ q, k = q + 1 := ⟨k - 1, by omega⟩
    have hn' : n < 128 := by simpa using hn
    rw [tripwireref03_Put.l1, if_neg (by omega), Option.bind_some, if_pos (by rw [S_size]; simp; omega), show (n : Int) % 256 = n from by omega]
    have := hr k (by omega)
    rwa [vi_small hn'] at this
  | succ m ih =>
    intro n k b h64 hn hb hk hr
    obtain ⟨k, rfl⟩ : ∃ q, k = q + 1 := ⟨k - 1, by omega⟩
    rcases Nat.lt_or_ge n 128 with h1 | h1
    · rw [tripwireref03_Put.l1, if_neg (by omega), Option.bind_some, if_pos (by rw [S_size]; simp; omega), show (n : Int) % 256 = n from by omega]
      have := hr k (by omega)
      rwa [vi_small h1] at this
    · have e0 : IntKind.u64.wrap (Int.tmod (n : Int) 128 + 128) % 256 = ((n % 128 + 128 : Nat) : Int) := by
        rw [Int.tmod_eq_emod_of_nonneg (by omega), u64_id (by omega) (by omega)]
        omega
      have e1 : IntKind.u64.wrap (Int.tdiv (n : Int) 128) = ((n / 128 : Nat) : Int) := by
        rw [Int.tdiv_eq_ediv_of_nonneg (by omega), u64_id (by omega) (by omega)]
        omega
      rw [tripwireref03_Put.l1, if_pos (by omega), Option.bind_some, if_pos (by rw [S_size]; simp; omega), e0, e1]
      refine ih (n / 128) k _ (by omega) (by rw [Nat.pow_succ] at hn; exact Nat.div_lt_of_lt_mul (by rw [Nat.mul_comm]; exact hn)) (by rw [ByteArray.size_append, S_size]; simp; omega) (by omega) ?_
      intro k' hk'
      have := hr k' (by omega)
      rw [vi_big h1] at this
      rw [S_snoc]
      exact this
theorem refPut_l0 (l : List Int) (hu : isU l) (b : ByteArray) (hl : l.length < 1000000000000) (hb : b.size < 1000000000000) (d : Nat) : ∀ (k i : Nat), i + d = l.length → 20 * d + 1 ≤ k →
    tripwireref03_Put.l0 k (b ++ strOfNums (flat (l.take i))) l i = some (b ++ strOfNums (flat l)) := by
  induction d with
  | zero =>
    intro k i hi hk
    obtain ⟨k, rfl⟩ : ∃ q, k = q + 1 := ⟨k - 1, by omega⟩
    rw [tripwireref03_Put.l0, if_neg (by omega), List.take_of_length_le (by omega)]
  | succ d ih =>
    intro k i hi hk
    obtain ⟨k, rfl⟩ : ∃ q, k = q + 1 := ⟨k - 1, by omega⟩
    have hlt : i < l.length := by omega
    obtain ⟨h0, h1⟩ := hu l[i] (List.getElem_mem hlt)
    rw [tripwireref03_Put.l0, if_pos (by omega), if_pos (by omega), rd_get l i hlt]
    have hfl := flat_len (l.take i) (fun x hx => hu x (List.mem_of_mem_take hx))
    have hti : (l.take i).length ≤ i := by simp; omega
    have hcast : ((l[i].toNat : Nat) : Int) = l[i] := by omega
    have := refPut_l1 l i (some (b ++ strOfNums (flat l))) 9 (l[i]).toNat k (b ++ strOfNums (flat (l.take i))) (by omega) (by omega) (by rw [ByteArray.size_append, S_size]; omega) (by omega)
      (by
        intro k' hk'
        rw [S_snoc, ← flat_snoc l i hlt, wrap64_id (by omega) (by omega)]
        exact ih k' (i + 1) (by omega) (by omega))
    rwa [hcast] at this
theorem refPut_f (k : Nat) (b : ByteArray) (l : List Int) (hu : isU l) (hl : l.length < 1000000000000) (hb : b.size < 1000000000000) (hk : 20 * l.length + 1 ≤ k) : tripwireref03_Put.f k b l = some (b ++ strOfNums (flat l)) := by
  have := refPut_l0 l hu b hl hb l.length k 0 (by omega) hk
  have h0 : b ++ strOfNums (flat (l.take 0)) = b := by
    apply eq_of_bytesOf
    rw [bytesOf_append, bytesOf_S _ (flat_isB _)]
    simp [flat]
  rw [h0] at this
  exact this
theorem refOne_f (k : Nat) (n : Int) (h0 : 0 ≤ n) (h1 : n < 18446744073709551616) (hk : 21 ≤ k) : tripwireref03_One.f k n = some (strOfNums (vi n.toNat)) := by
  rw [tripwireref03_One.f, refPut_f k _ [n] (isU_one h0 h1) (by simp) (by simp [ByteArray.size]) (by simpa using hk), Option.bind_some, flat_one, empty_append]
theorem refZag_f (u : Int) (h0 : 0 ≤ u) (h1 : u < 18446744073709551616) : tripwireref03_Zag.f u = some (zag u) := by
  have e1 : IntKind.u64.wrap (Int.tdiv u 2) = u / 2 := by rw [Int.tdiv_eq_ediv_of_nonneg h0, u64_id (by omega) (by omega)]
  rw [tripwireref03_Zag.f, zag, Int.tmod_eq_emod_of_nonneg h0, e1, wrap64_id (x := u / 2) (by omega) (by omega), wrap64_id (x := -(u / 2)) (by omega) (by omega), wrap64_id (x := -(u / 2) - 1) (by omega) (by omega)]
  split <;> rfl
theorem refZig_f (n : Int) (h0 : -9223372036854775808 ≤ n) (h1 : n ≤ 9223372036854775807) : tripwireref03_Zig.f n = some (zig n) := by
  rw [tripwireref03_Zig.f, zig]
  by_cases h : 0 ≤ n
  · rw [if_pos h, if_pos h, u64_id (x := n) (by omega) (by omega), u64_id (by omega) (by omega), Int.mul_comm]
  · rw [if_neg (by omega), if_neg h, wrap64_id (x := n + 1) (by omega) (by omega), wrap64_id (x := -(n + 1)) (by omega) (by omega), u64_id (x := -(n + 1)) (by omega) (by omega), u64_id (x := -(n + 1) * 2) (by omega) (by omega), u64_id (by omega) (by omega)]
    congr 1
    omega
theorem refPutText_f (k : Nat) (b s : ByteArray) (hk : 21 ≤ k) (hb : b.size < 70000000000) (hs : s.size < 70000000000) : tripwireref03_PutText.f k b s = some (b ++ strOfNums (tl s)) := by
  have hu : IntKind.u64.wrap ((s.size : Nat) : Int) = s.size := u64_id (by omega) (by omega)
  have hv := vi_len10 (n := s.size) (by omega)
  rw [tripwireref03_PutText.f, hu, refPut_f k b [(s.size : Int)] (isU_one (by omega) (by omega)) (by simp) (by omega) (by simpa using hk), Option.bind_some]
  have hsz : (b ++ strOfNums (flat [(s.size : Int)])).size = b.size + (vi s.size).length := by
    rw [flat_one, ByteArray.size_append, S_size]
    rfl
  rw [if_pos (by rw [hsz]; omega), flat_one, tl, S_append, S_bytesOf, ByteArray.append_assoc]
  rfl
theorem refFrame_f (k : Nat) (s : ByteArray) (hs : s.size ≤ 65536) (hk : 65600 < k) : tripwireref03_Frame.f k s = some (strOfNums (fl s), 0) := by
  have hv := vi_len10 (n := s.size) (by omega)
  rw [tripwireref03_Frame.f, if_neg (by omega), refPutText_f k _ s (by omega) (by simp [ByteArray.size]) (by omega), empty_append, Option.bind_some, tail_f k s (by omega) (by omega), Option.bind_some, if_pos ?_, fl, S_append]
  · rfl
  · rw [S_size, ck, S_size, tl, List.length_append, bytesOf_length]
    simp [ckl]
    omega
theorem refFrame_long (k : Nat) (s : ByteArray) (hs : 65536 < s.size) : tripwireref03_Frame.f k s = some (⟨#[]⟩, 31) := by
  rw [tripwireref03_Frame.f, if_pos (by omega)]

theorem writes_l0 (b : ByteArray) (l : List Int) (hu : isU l) (hl : l.length ≤ 3355443) (s : ByteArray) (n : Int) (hs : b.size + s.size ≤ 33554431) (hn0 : -9223372036854775808 ≤ n) (hn1 : n ≤ 9223372036854775807) (d : Nat) :
    ∀ (k i : Nat), i + d = l.length → d + 33554500 ≤ k → tripwirelaw03_WireWrites.l0 k b l s n true true i = some true := by
  induction d with
  | zero =>
    intro k i hi hk
    obtain ⟨k, rfl⟩ : ∃ q, k = q + 1 := ⟨k - 1, by omega⟩
    rw [tripwirelaw03_WireWrites.l0, if_neg (by omega), PutText_f k b s (by omega) (by omega) (by omega), Option.bind_some, refPutText_f k b s (by omega) (by omega) (by omega), Option.bind_some,
      Zig_f n hn0 hn1, Option.bind_some, refZig_f n hn0 hn1, Option.bind_some, Sum_f k s (by omega) (by omega), Option.bind_some, refSum_f k s (by omega) (by omega), Option.bind_some]
    rcases Nat.lt_or_ge 65536 s.size with hb | hb
    · rw [Frame_long k s hb, Option.bind_some, refFrame_long k s hb, Option.bind_some, if_pos rfl, if_pos rfl, if_pos rfl, if_pos rfl, if_pos rfl, if_pos rfl]
      rfl
    · rw [Frame_f k s hb (by omega), Option.bind_some, refFrame_f k s hb (by omega), Option.bind_some, if_pos rfl, if_pos rfl, if_pos rfl, if_pos rfl, if_pos rfl, if_pos rfl]
      rfl
  | succ d ih =>
    intro k i hi hk
    obtain ⟨k, rfl⟩ : ∃ q, k = q + 1 := ⟨k - 1, by omega⟩
    have hlt : i < l.length := by omega
    obtain ⟨h0, h1⟩ := hu l[i] (List.getElem_mem hlt)
    rw [tripwirelaw03_WireWrites.l0, if_pos (by omega), if_pos (by omega), rd_get l i hlt, Size_f _ h0 h1, Option.bind_some, refOne_f k _ h0 h1 (by omega), Option.bind_some, Zag_f _ h0 h1, Option.bind_some, refZag_f _ h0 h1, Option.bind_some,
      if_pos (by rw [S_size]), if_pos rfl, wrap64_id (by omega) (by omega)]
    exact ih k (i + 1) (by omega) (by omega)
theorem WireWrites : tripwirelaw03_WireWrites.Pure := by
  intro b l s n hb hml hl8 hl hs hn
  have hu : isU l := fun x hx => by
    have := hl x hx
    simp [Lit.wf] at this
    have hmin : IntKind.u64.min = 0 := rfl
    have hmax : IntKind.u64.max = 18446744073709551615 := rfl
    omega
  have hn2 : -9223372036854775808 ≤ n ∧ n ≤ 9223372036854775807 := by
    simp [Lit.wf] at hn
    have hmin : IntKind.i64.min = -9223372036854775808 := rfl
    have hmax : IntKind.i64.max = 9223372036854775807 := rfl
    omega
  refine ⟨200000000, ?_⟩
  rw [tripwirelaw03_WireWrites.f, works_f _ (by omega), Option.bind_some, wrap64_id (by omega) (by omega)]
  have stop : ∀ k, tripwirelaw03_WireWrites.j0 (k + 1) b l s n true true = some true := fun k => by rw [tripwirelaw03_WireWrites.j0, if_pos rfl]
  by_cases hbig : (b.size : Int) + s.size > 33554431
  · rw [if_pos hbig]
    exact stop 199999999
  · rw [if_neg hbig]
    by_cases hlong : (l.length : Int) > 3355443
    · rw [decide_eq_true hlong]
      exact stop 199999999
    · rw [decide_eq_false hlong]
      have key : ∀ k, 150000000 ≤ k → tripwirelaw03_WireWrites.j0 (k + 1) b l s n true false = some true := by
        intro k hk
        rw [tripwirelaw03_WireWrites.j0, if_neg (by simp), tripwireref00_LentNumbers.f, if_pos (by omega), Option.bind_some, Put_f k b l hu (by omega) (by omega) (by omega), Option.bind_some, tripwireref00_WholeNumbers.f, if_pos rfl, Option.bind_some,
          refPut_f k b l hu (by omega) (by omega) (by omega), Option.bind_some, if_pos rfl]
        exact writes_l0 b l hu (by omega) s n (by omega) hn2.1 hn2.2 l.length k 0 (by omega) (by omega)
      exact key 199999999 (by omega)

end Go.Proofs.Ytcninjadeagenaa.Pure
