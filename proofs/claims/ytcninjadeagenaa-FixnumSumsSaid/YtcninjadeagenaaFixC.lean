/- A product divided, and the sum of a list: what the program and the reference come to is the exact number, or that it leaves 64 bits. No condition but those that each lemma names. -/
import Derived.Test.YtcninjadeagenaaFixB
namespace Go.Proofs.Ytcninjadeagenaa.FX
open Go.RowKit Go.Proofs.Ytcninjadeagenaa.HFixnum Go.Proofs.YtcninjadeagenaaW.PrintWords Go.Proofs.YtcninjadeagenaaW.PrintLast Go.Proofs.YtcninjadeagenaaW.PrintMore
set_option linter.unusedVariables false
set_option linter.unusedSimpArgs false

/-! ### a product divided -/
theorem tdiv_sg {n c : Int} (h : 0 ≤ n) (m : Bool) : Int.tdiv (sg n m) c = sg (n / ab c) (m != decide (c < 0)) := by
  unfold sg ab
  cases m
  · by_cases h2 : c < 0
    · simp only [h2, if_pos, decide_true]
      rw [if_neg (by simp), if_pos (by simp), ← td h, Int.tdiv_neg, Int.neg_neg]
    · simp only [h2, if_neg, not_false_eq_true, decide_false]
      rw [if_neg (by simp), if_neg (by simp), ← td h]
  · by_cases h2 : c < 0
    · simp only [h2, if_pos, decide_true]
      rw [if_neg (by simp), Int.neg_tdiv, ← td h, Int.tdiv_neg]
    · simp only [h2, if_neg, not_false_eq_true, decide_false]
      rw [if_pos trivial, if_pos (by simp), Int.neg_tdiv, ← td h]
theorem muldiv_sg (a b c : Int) : sg (ab a * ab b / ab c) ((decide (a < 0) != decide (b < 0)) != decide (c < 0)) = Int.tdiv (a * b) c := by
  have h : 0 ≤ ab a * ab b := Int.mul_nonneg (by unfold ab; split <;> omega) (by unfold ab; split <;> omega)
  rw [← tdiv_sg h, sg_ab]
/-- What a product divided comes to. -/
def mdv (a b c : Int) : Int × Bool := if c = 0 then (0, false) else tell (Int.tdiv (a * b) c)
theorem mdv_far {a b c : Int} (hc : c ≠ 0) (h : ab c ≤ ab a * ab b / 18446744073709551616) : mdv a b c = (0, false) := by
  have hp := ab_pos hc
  have h0 : 0 ≤ ab a * ab b := Int.mul_nonneg (by unfold ab; split <;> omega) (by unfold ab; split <;> omega)
  rw [mdv, if_neg hc, tell_out ?_]
  rw [← muldiv_sg]
  have hq : 18446744073709551616 ≤ ab a * ab b / ab c := by
    refine Int.le_ediv_of_mul_le hp ?_
    generalize ab a * ab b = P at h h0 ⊢
    omega
  unfold sg inR
  split <;> omega
theorem MulDiv_f (k : Nat) (hk : 30 ≤ k) {a b c : Int} (ha : inR a) (hb : inR b) (hc : inR c) : fixnum_MulDiv.f k a b c = some (mdv a b c) := by
  obtain ⟨k, rfl⟩ : ∃ n, k = n + 1 := ⟨k - 1, by omega⟩
  have A := ab_range ha
  have B := ab_range hb
  have C := ab_range hc
  rw [fixnum_MulDiv.f, size_f ha, Option.bind_some, size_f hb, Option.bind_some, Mul64_f A.1 (by omega) B.1 (by omega), Option.bind_some]
  simp only [fixnum_MulDiv.j0]
  by_cases h : c = 0
  · rw [if_pos h, if_pos trivial, mdv, if_pos h]
  · rw [if_neg h, size_f hc, Option.bind_some]
    by_cases h2 : ab c ≤ ab a * ab b / 18446744073709551616
    · rw [if_pos (decide_eq_true h2), mdv_far h h2]
    · rw [if_neg (by rw [decide_eq_true_iff]; exact h2), Option.bind_some]
      have hP := prod_le A.1 A.2 B.1 B.2
      obtain ⟨z, e⟩ := Div64_f k (by omega) (hi := ab a * ab b / 18446744073709551616) (lo := ab a * ab b % 18446744073709551616) (y := ab c) (by omega) (by omega) (by omega) (by omega) (by omega)
      have hq0 : 0 ≤ ab a * ab b / ab c := Int.ediv_nonneg hP.1 C.1
      have hq1 : ab a * ab b / ab c < 18446744073709551616 := by
        refine Int.ediv_lt_of_lt_mul (ab_pos h) ?_
        generalize ab a * ab b = P at h2 hP ⊢
        omega
      rw [e, Option.bind_some]
      have e2 : ab a * ab b / 18446744073709551616 * 18446744073709551616 + ab a * ab b % 18446744073709551616 = ab a * ab b := by omega
      rw [e2, signed_f hq0 hq1, Option.bind_some, muldiv_sg, mdv, if_neg h]
theorem ref_md (a b c d : Int) (hd0 : 0 < d) (hd : d ≤ 9223372036854775808) (m : Nat) : ∀ (k : Nat) (hi lo out rest : Int), m ≤ 64 → m + 2 ≤ k → lo = rest * 2 ^ (64 - m) → 0 ≤ rest → rest < 2 ^ m → 0 ≤ hi → hi < d → 0 ≤ out → out < 2 ^ (64 - m) →
    tripwireref01_MulDiv.l0 k a b c hi lo d out ((64 - m : Nat) : Int) = some (tell (sg (out * 2 ^ m + (hi * 2 ^ m + rest) / d) ((decide (a < 0) != decide (b < 0)) != decide (c < 0)))) := by
  induction m with
  | zero =>
    intro k hi lo out rest hm hk hlo hr0 hr1 hh0 hh1 ho0 ho1
    obtain ⟨k, rfl⟩ : ∃ n, k = n + 2 := ⟨k - 2, by omega⟩
    have e : (hi * 2 ^ 0 + rest) / d = 0 := by
      have : rest = 0 := by simp at hr1; omega
      subst this
      simp only [Int.pow_zero, Int.mul_one, Int.add_zero]
      exact Int.ediv_eq_zero_of_lt hh0 hh1
    rw [e]
    simp only [tripwireref01_MulDiv.l0, Int.pow_zero, Int.mul_one, Int.add_zero]
    have ho2 : out < 18446744073709551616 := by simpa using ho1
    rw [if_neg (by omega)]
    by_cases hc : c < 0
    · have e5 : (!(decide (a < 0) != decide (b < 0))) = ((decide (a < 0) != decide (b < 0)) != decide (c < 0)) := by simp [hc]
      rw [if_pos hc, refsigned_f k ho0 ho2, Option.bind_some, e5]
    · have e5 : (decide (a < 0) != decide (b < 0)) = ((decide (a < 0) != decide (b < 0)) != decide (c < 0)) := by simp [hc]
      rw [if_neg hc, refsigned_f k ho0 ho2, Option.bind_some, ← e5]
  | succ m ih =>
    intro k hi lo out rest hm hk hlo hr0 hr1 hh0 hh1 ho0 ho1
    obtain ⟨k, rfl⟩ : ∃ n, k = n + 1 := ⟨k - 1, by omega⟩
    have p0 : (0 : Int) < 2 ^ m := Int.pow_pos (by decide)
    have p1 : (0 : Int) < 2 ^ (64 - (m + 1)) := Int.pow_pos (by decide)
    have pm : (2 : Int) ^ (m + 1) = 2 ^ m * 2 := Int.pow_succ 2 m
    have pc : (2 : Int) ^ (64 - m) = 2 ^ (64 - (m + 1)) * 2 := by rw [← Int.pow_succ]; congr 1; omega
    have pp : (2 : Int) ^ m * 2 ^ (64 - (m + 1)) = 9223372036854775808 := by rw [← Int.pow_add, show m + (64 - (m + 1)) = 63 from by omega]; rfl
    have ple : (2 : Int) ^ (64 - (m + 1)) ≤ 9223372036854775808 := by
      have h1 : (1 : Int) * 2 ^ (64 - (m + 1)) ≤ 2 ^ m * 2 ^ (64 - (m + 1)) := Int.mul_le_mul_of_nonneg_right (by omega) (Int.le_of_lt p1)
      rw [pp] at h1
      omega
    -- the next bit, and what is behind it
    obtain ⟨bit, hbit⟩ : ∃ x, x = rest / 2 ^ m := ⟨_, rfl⟩
    obtain ⟨rest', hrest'⟩ : ∃ x, x = rest % 2 ^ m := ⟨_, rfl⟩
    have hsplit : rest = bit * 2 ^ m + rest' := by
      have := Int.mul_ediv_add_emod rest ((2 : Int) ^ m)
      rw [← hbit, ← hrest', Int.mul_comm] at this
      exact this.symm
    have hr0' : 0 ≤ rest' := by rw [hrest']; exact Int.emod_nonneg _ (by omega)
    have hr1' : rest' < 2 ^ m := by rw [hrest']; exact Int.emod_lt_of_pos _ p0
    have hb0 : 0 ≤ bit := by rw [hbit]; exact Int.ediv_nonneg hr0 (by omega)
    have hb1 : bit < 2 := by rw [hbit]; exact Int.ediv_lt_of_lt_mul p0 (by rw [Int.mul_comm, ← pm]; exact hr1)
    have hlo0 : 0 ≤ lo := by rw [hlo]; exact Int.mul_nonneg hr0 (by omega)
    have hlow : lo = bit * 9223372036854775808 + rest' * 2 ^ (64 - (m + 1)) := by
      rw [hlo, hsplit, Int.add_mul, Int.mul_assoc, pp]
    have hx0 : 0 ≤ rest' * 2 ^ (64 - (m + 1)) := Int.mul_nonneg hr0' (by omega)
    have hx1 : rest' * 2 ^ (64 - (m + 1)) < 9223372036854775808 := by
      have := Int.mul_lt_mul_of_pos_right hr1' p1
      rwa [pp] at this
    have hT : IntKind.u64.wrap (IntKind.u64.wrap (hi * 2) + IntKind.u64.wrap (Int.tdiv lo 9223372036854775808)) = hi * 2 + bit := by
      rw [td hlo0, show lo / 9223372036854775808 = bit from by omega, u64_id (x := bit) (by omega) (by omega), u64_id (x := hi * 2) (by omega) (by omega), u64_id (by omega) (by omega)]
    have hL : IntKind.u64.wrap (lo * 2) = rest' * 2 ^ (64 - m) := by
      rw [pc, ← Int.mul_assoc, u64_eq]
      omega
    have hi64 : ((64 - (m + 1) : Nat) : Int) < 64 := by omega
    have hnext : wrap64 (((64 - (m + 1) : Nat) : Int) + 1) = ((64 - m : Nat) : Int) := by rw [wrap64_id (by omega) (by omega)]; omega
    have hval : ∀ x : Int, x * 2 ^ (m + 1) = x * 2 * 2 ^ m := by intro x; rw [pm, Int.mul_comm ((2 : Int) ^ m) 2, Int.mul_assoc]
    have hnum : hi * 2 ^ (m + 1) + rest = (hi * 2 + bit) * 2 ^ m + rest' := by rw [hval, Int.add_mul, hsplit]; omega
    simp only [tripwireref01_MulDiv.l0]
    rw [if_pos hi64, if_neg (by omega), hT, hL, hnext, hnum, hval out]
    by_cases hge : hi * 2 + bit ≥ d
    · rw [if_pos hge, u64_id (x := hi * 2 + bit - d) (by omega) (by omega), u64_id (x := out * 2) (by omega) (by omega), u64_id (x := out * 2 + 1) (by omega) (by omega)]
      rw [ih k (hi * 2 + bit - d) _ (out * 2 + 1) rest' (by omega) (by omega) rfl hr0' hr1' (by omega) (by omega) (by omega) (by omega)]
      congr 3
      have e1 : (hi * 2 + bit) * 2 ^ m + rest' = ((hi * 2 + bit - d) * 2 ^ m + rest') + d * 2 ^ m := by rw [Int.sub_mul]; omega
      rw [e1, Int.add_mul_ediv_left _ _ (by omega), Int.add_mul]
      omega
    · rw [if_neg hge, u64_id (x := out * 2) (by omega) (by omega)]
      rw [ih k (hi * 2 + bit) _ (out * 2) rest' (by omega) (by omega) rfl hr0' hr1' (by omega) (by omega) (by omega) (by omega)]
theorem refMulDiv_f (k : Nat) (hk : 70 ≤ k) {a b c : Int} (ha : inR a) (hb : inR b) (hc : inR c) : tripwireref01_MulDiv.f k a b c = some (mdv a b c) := by
  have A := ab_range ha
  have B := ab_range hb
  have C := ab_range hc
  rw [tripwireref01_MulDiv.f]
  by_cases h : c = 0
  · rw [if_pos h, mdv, if_pos h]
  · have hp := ab_pos h
    have hP := prod_le A.1 A.2 B.1 B.2
    rw [if_neg h, refsize_f ha, Option.bind_some, refsize_f hb, Option.bind_some, wide_f A.1 (by omega) B.1 (by omega), Option.bind_some, refsize_f hc, Option.bind_some]
    by_cases h2 : ab c ≤ ab a * ab b / 18446744073709551616
    · rw [if_pos h2, mdv_far h h2]
    · rw [if_neg h2]
      have := ref_md a b c (ab c) hp C.2 64 k (ab a * ab b / 18446744073709551616) (ab a * ab b % 18446744073709551616) 0 (ab a * ab b % 18446744073709551616) (by omega) (by omega) (by simp) (by omega) (by omega) (by omega) (by omega) (by omega) (by omega)
      rw [show ((64 - 64 : Nat) : Int) = 0 from rfl] at this
      rw [this, mdv, if_neg h, ← muldiv_sg]
      congr 4
      rw [Int.zero_mul, Int.zero_add, show (2 : Int) ^ 64 = 18446744073709551616 from rfl]
      congr 1
      omega

/-! ### sums of lists -/
def isR (l : List Int) : Prop := ∀ x ∈ l, inR x
theorem isR_cons {x : Int} {l : List Int} (h : isR (x :: l)) : inR x ∧ isR l := ⟨h x List.mem_cons_self, fun y hy => h y (List.mem_cons_of_mem _ hy)⟩
theorem sum_bound (l : List Int) (h : isR l) : -9223372036854775808 * (l.length : Int) ≤ l.sum ∧ l.sum ≤ 9223372036854775808 * (l.length : Int) := by
  induction l with
  | nil => simp
  | cons x l ih =>
    obtain ⟨hx, hl⟩ := isR_cons h
    have := ih hl
    unfold inR at hx
    simp only [List.sum_cons, List.length_cons]
    omega
theorem rd_get (l : List Int) (i : Nat) (h : i < l.length) : rd l i = l[i] := by simp [rd, h]
theorem sum_take (l : List Int) (i : Nat) (h : i < l.length) : (l.take (i + 1)).sum = (l.take i).sum + l[i] := by
  rw [List.take_succ_eq_append_getElem h, List.sum_append]
  simp
theorem isR_take {l : List Int} (h : isR l) (i : Nat) : isR (l.take i) := fun x hx => h x (List.mem_of_mem_take hx)
theorem isR_drop {l : List Int} (h : isR l) (i : Nat) : isR (l.drop i) := fun x hx => h x (List.mem_of_mem_drop hx)
theorem take_bound (l : List Int) (h : isR l) (i : Nat) (hi : i ≤ l.length) : -9223372036854775808 * (i : Int) ≤ (l.take i).sum ∧ (l.take i).sum ≤ 9223372036854775808 * (i : Int) := by
  have := sum_bound (l.take i) (isR_take h i)
  rwa [List.length_take, Nat.min_eq_left hi] at this
theorem Sum_l0 (l : List Int) (h : isR l) (hlen : l.length ≤ 1000000000000000) (d : Nat) : ∀ (k i : Nat), i + d = l.length → d < k →
    fixnum_Sum.l0 k l ((l.take i).sum / 18446744073709551616 % 18446744073709551616) ((l.take i).sum % 18446744073709551616) i = some (tell l.sum) := by
  induction d with
  | zero =>
    intro k i hi hk
    obtain ⟨k, rfl⟩ : ∃ n, k = n + 1 := ⟨k - 1, by omega⟩
    have hb := sum_bound l h
    simp only [fixnum_Sum.l0]
    rw [if_neg (by omega), List.take_of_length_le (by omega), told_f]
    congr 1
    generalize l.sum = S at hb ⊢
    have hS : -9223372036854775808000000000000000 ≤ S ∧ S ≤ 9223372036854775808000000000000000 := by omega
    clear hb
    by_cases hr : inR S
    · rw [tell_in hr]
      unfold inR at hr
      have e1 : wrap64 (S % 18446744073709551616) = S := by unfold wrap64; omega
      have e2 : wrap64 (S / 18446744073709551616 % 18446744073709551616) = S / 9223372036854775808 := by unfold wrap64; omega
      rw [e1, e2, beq_self_eq_true, if_pos rfl]
    · rw [tell_out hr]
      unfold inR at hr
      have e2 : ¬ wrap64 (S / 18446744073709551616 % 18446744073709551616) = wrap64 (S % 18446744073709551616) / 9223372036854775808 := by
        have a1 : wrap64 (S / 18446744073709551616 % 18446744073709551616) = S / 18446744073709551616 := by unfold wrap64; omega
        rw [a1]
        have a2 : S = S / 18446744073709551616 * 18446744073709551616 + S % 18446744073709551616 := by omega
        have a3 : 0 ≤ S % 18446744073709551616 ∧ S % 18446744073709551616 < 18446744073709551616 := by omega
        generalize S / 18446744073709551616 = q at a2 ⊢
        generalize S % 18446744073709551616 = o at a2 a3 ⊢
        have a4 : wrap64 o / 9223372036854775808 = if o < 9223372036854775808 then 0 else -1 := by
          unfold wrap64
          split <;> omega
        rw [a4]
        split <;> omega
      rw [if_neg (by rw [beq_iff_eq]; exact e2)]
  | succ d ih =>
    intro k i hi hk
    obtain ⟨k, rfl⟩ : ∃ n, k = n + 1 := ⟨k - 1, by omega⟩
    have hlt : i < l.length := by omega
    have hx := h l[i] (List.getElem_mem hlt)
    have hb := take_bound l h i (by omega)
    unfold inR at hx
    simp only [fixnum_Sum.l0]
    rw [if_pos (by omega), if_pos (by omega), rd_get l i hlt, wrap64_id (by omega) (by omega)]
    have := ih k (i + 1) (by omega) (by omega)
    rw [sum_take l i hlt, show ((i + 1 : Nat) : Int) = (i : Int) + 1 from by omega] at this
    rw [← this]
    generalize (l.take i).sum = S at hb ⊢
    generalize l[i] = n at hx ⊢
    have e1 : n / 9223372036854775808 = n / 18446744073709551616 := by omega
    have e2 : (S + n) / 18446744073709551616 = S / 18446744073709551616 + n / 18446744073709551616 + (S % 18446744073709551616 + n % 18446744073709551616) / 18446744073709551616 := by omega
    have e3 : (S + n) % 18446744073709551616 = (S % 18446744073709551616 + n % 18446744073709551616 + 0) % 18446744073709551616 := by omega
    rw [u64_eq, u64_eq, e1, e2, e3, Int.add_zero]
    congr 1
    generalize S / 18446744073709551616 = q
    generalize n / 18446744073709551616 = p
    generalize (S % 18446744073709551616 + n % 18446744073709551616) / 18446744073709551616 = c
    omega
theorem Sum_f (k : Nat) (l : List Int) (h : isR l) (hlen : l.length ≤ 1000000000000000) (hk : l.length < k) : fixnum_Sum.f k l = some (tell l.sum) := by
  rw [fixnum_Sum.f]
  have := Sum_l0 l h hlen l.length k 0 (by omega) hk
  simpa using this
theorem works_small : tripwirelaw01_works.f 80 = some true := by decide +kernel
theorem works_f (k : Nat) (hk : 80 ≤ k) : tripwirelaw01_works.f k = some true := at_rounds tripwirelaw01_works.mono hk works_small
theorem wf_in {x : Int} (h : (Lit.int .i64 x).wf = true) : inR x := by
  simp only [Lit.wf, IntKind.min, IntKind.max, IntKind.signed, IntKind.bits, Bool.and_eq_true, decide_eq_true_eq] at h
  have h1 := h.1
  have h2 := h.2
  simp at h1 h2
  exact ⟨by omega, by omega⟩
end Go.Proofs.Ytcninjadeagenaa.FX
