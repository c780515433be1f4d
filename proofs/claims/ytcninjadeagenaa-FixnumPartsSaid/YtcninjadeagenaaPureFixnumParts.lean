/- The sum of a list is the sum of the sums of its parts, wherever these are numbers of 64 bits; a list and all its numbers turned come to nought; MulDiv by 1 and -1. No condition. -/
import Derived.Test.YtcninjadeagenaaHFixnumx9
import Derived.Test.YtcninjadeagenaaFixC
namespace Go.Proofs.Ytcninjadeagenaa.Pure
open Go.RowKit Go.Proofs.Ytcninjadeagenaa.HFixnum Go.Proofs.YtcninjadeagenaaW.PrintWords Go.Proofs.YtcninjadeagenaaW.PrintLast Go.Proofs.Ytcninjadeagenaa.FX

theorem parts_tell_is {x : Int} (h : (tell x).2 = true) : inR x ∧ tell x = (x, true) := by
  by_cases hc : inR x
  · exact ⟨hc, tell_in hc⟩
  · rw [tell_out hc] at h; cases h
/-- A list, each of whose numbers that can be turned is there with the turned one. -/
def both (l : List Int) : List Int := l.flatMap fun x => if inR (-x) then [x, -x] else []
theorem both_sum (l : List Int) : (both l).sum = 0 := by
  induction l with
  | nil => rfl
  | cons x l ih =>
    have e : both (x :: l) = (if inR (-x) then [x, -x] else []) ++ both l := rfl
    rw [e, List.sum_append, ih]
    split
    · simp; omega
    · rfl
theorem both_isR {l : List Int} (h : isR l) : isR (both l) := by
  intro y hy
  simp only [both, List.mem_flatMap] at hy
  obtain ⟨x, hx, hy⟩ := hy
  split at hy
  · rename_i hr
    simp only [List.mem_cons, List.not_mem_nil, or_false] at hy
    rcases hy with rfl | rfl
    · exact h _ hx
    · exact hr
  · cases hy
theorem both_len (l : List Int) : (both l).length ≤ 2 * l.length := by
  induction l with
  | nil => simp [both]
  | cons x l ih =>
    have e : both (x :: l) = (if inR (-x) then [x, -x] else []) ++ both l := rfl
    rw [e, List.length_append, List.length_cons]
    split <;> simp <;> omega
theorem parts_end (k : Nat) (hk : 30 ≤ k) {a b : Int} (ha : inR a) (hb : inR b) (z : List Int) (hz : isR z) (hs : z.sum = 0) (hl : z.length ≤ 1000000000000) (hlk : z.length < k) :
    ((fixnum_Sum.f k z).bind fun bt278 => ((fixnum_Mul.f a b).bind fun bt280 => ((fixnum_MulDiv.f k a b 1).bind fun bt282 => ((fixnum_MulDiv.f k a b (-1)).bind fun bt284 => ((fixnum_Neg.f bt280.1).bind fun bt286 => (if true = true then (if bt278.1 = 0 then (if bt278.2 = true then (if bt280.1 = bt282.1 then (if (bt280.2 == bt282.2) = true then (if bt280.2 = true then (if bt286.2 = true then (if bt284.2 = true then (some (bt284.1 == bt286.1)) else (some false)) else (some true)) else (some true)) else (some false)) else (some false)) else (some false)) else (some false)) else (some false))))))) = some true := by
  have h1 : inR 1 := by unfold inR; omega
  have hm1 : inR (-1) := by unfold inR; omega
  have h0 : inR 0 := by unfold inR; omega
  rw [Sum_f k z hz (by omega) hlk, Option.bind_some, Mul_f ha hb, Option.bind_some, MulDiv_f k hk ha hb h1, Option.bind_some, MulDiv_f k hk ha hb hm1, Option.bind_some, hs, tell_in h0]
  have e1 : mdv a b 1 = tell (a * b) := by rw [mdv, if_neg (by omega), Int.tdiv_one]
  have e2 : mdv a b (-1) = tell (-(a * b)) := by rw [mdv, if_neg (by omega), Int.tdiv_neg, Int.tdiv_one]
  rw [e1, e2]
  by_cases hp : inR (a * b)
  · rw [tell_in hp, Neg_f hp, Option.bind_some, if_pos rfl, if_pos rfl, if_pos rfl, if_pos rfl, if_pos (by simp), if_pos rfl]
    by_cases hn : inR (-(a * b))
    · rw [tell_in hn, if_pos rfl, if_pos rfl]
      simp
    · rw [tell_out hn, if_neg (by simp)]
  · rw [tell_out hp, Neg_f h0, Option.bind_some, if_pos rfl, if_pos rfl, if_pos rfl, if_pos rfl, if_pos (by simp), if_neg (by simp)]
theorem parts_l0 (l : List Int) (h : isR l) (hlen : l.length ≤ 67108863) {a b : Int} (ha : inR a) (hb : inR b) (d : Nat) : ∀ (k i : Nat), i + d = l.length → 2 * d + 2 * l.length + 40 ≤ k →
    tripwirelaw01_FixnumParts.l0 k l a b true (both (l.take i)) i = some true := by
  induction d with
  | zero =>
    intro k i hi hk
    obtain ⟨k, rfl⟩ : ∃ n, k = n + 1 := ⟨k - 1, by omega⟩
    have hb2 := both_len l
    simp only [tripwirelaw01_FixnumParts.l0]
    rw [if_neg (by omega), List.take_of_length_le (by omega)]
    exact parts_end k (by omega) ha hb (both l) (both_isR h) (both_sum l) (by omega) (by omega)
  | succ d ih =>
    intro k i hi hk
    obtain ⟨k, rfl⟩ : ∃ n, k = n + 2 := ⟨k - 2, by omega⟩
    have hlt : i < l.length := by omega
    have hx := h l[i] (List.getElem_mem hlt)
    have h0 : inR 0 := by unfold inR; omega
    have hi1 : wrap64 ((i : Int) + 1) = ((i + 1 : Nat) : Int) := by rw [wrap64_id (by omega) (by omega)]; omega
    have hnext := ih k (i + 1) (by omega) (by omega)
    have hb2 := both_len (l.take i)
    rw [List.length_take, Nat.min_eq_left (by omega)] at hb2
    have htk : both (l.take (i + 1)) = both (l.take i) ++ (if inR (-l[i]) then [l[i], -l[i]] else []) := by
      rw [List.take_succ_eq_append_getElem hlt]
      simp only [both, List.flatMap_append, List.flatMap_cons, List.flatMap_nil, List.append_nil]
    rw [tripwirelaw01_FixnumParts.l0, if_pos (by omega), if_pos (by omega), rd_get l i hlt, Neg_f hx, Option.bind_some, Sub_f h0 hx, Option.bind_some, show (0 : Int) - l[i] = -l[i] from by omega, if_pos rfl, show ((tell (-l[i])).2 != (tell (-l[i])).2) = false from by simp]
    simp only [tripwirelaw01_FixnumParts.j4]
    rw [if_neg (by simp)]
    by_cases hr : inR (-l[i])
    · rw [tell_in hr, if_pos rfl, if_pos (by omega), if_pos (by omega), Option.bind_some, rd_get l i hlt]
      rw [htk, if_pos hr] at hnext
      rw [if_pos (by simp only [List.length_cons, List.length_nil]; omega), hi1]
      exact hnext
    · rw [tell_out hr, if_neg (by simp), hi1]
      rw [htk, if_neg hr, List.append_nil] at hnext
      exact hnext
theorem parts_j2 (l : List Int) (h : isR l) (hlen : l.length ≤ 67108863) {a b : Int} (ha : inR a) (hb : inR b) (k : Nat) (hk : 4 * l.length + 50 ≤ k) : tripwirelaw01_FixnumParts.j2 k l a b true = some true := by
  obtain ⟨k, rfl⟩ : ∃ n, k = n + 1 := ⟨k - 1, by omega⟩
  rw [tripwirelaw01_FixnumParts.j2]
  have := parts_l0 l h hlen ha hb l.length k 0 (by omega) (by omega)
  simpa [both] using this
theorem parts_j0 (l : List Int) (h : isR l) (hlen : l.length ≤ 67108863) {a b : Int} (ha : inR a) (hb : inR b) (k : Nat) (hk : 4 * l.length + 60 ≤ k) (c : Int) (hc : 0 ≤ c) : tripwirelaw01_FixnumParts.j0 k l c a b true = some true := by
  obtain ⟨k, rfl⟩ : ∃ n, k = n + 2 := ⟨k - 2, by omega⟩
  have hw : wrap64 ((l.length : Int) + 1) = l.length + 1 := wrap64_id (by omega) (by omega)
  have m0 := Int.emod_nonneg c (show (l.length : Int) + 1 ≠ 0 by omega)
  have m1 := Int.emod_lt_of_pos c (show 0 < (l.length : Int) + 1 by omega)
  have hm : Int.tmod c ((l.length : Int) + 1) = c % (l.length + 1) := tm hc
  rw [tripwirelaw01_FixnumParts.j0, hw, hm, if_neg (by omega)]
  generalize c % ((l.length : Int) + 1) = m at m0 m1 ⊢
  have hs : (l.take m.toNat).sum + (l.drop m.toNat).sum = l.sum := by rw [← List.sum_append, List.take_append_drop]
  have lt : (l.take m.toNat).length ≤ l.length := by rw [List.length_take]; omega
  have ld : (l.drop m.toNat).length ≤ l.length := by rw [List.length_drop]; omega
  rw [Sum_f _ l h (by omega) (by omega), Option.bind_some, if_pos m0, if_pos (by omega), Sum_f _ _ (isR_take h _) (by omega) (by omega), Option.bind_some, Sum_f _ _ (isR_drop h _) (by omega) (by omega), Option.bind_some]
  by_cases h1 : (tell (l.take m.toNat).sum).2 = true
  · obtain ⟨r1, e1⟩ := parts_tell_is h1
    rw [if_pos h1, e1]
    simp only [tripwirelaw01_FixnumParts.j1]
    by_cases h2 : (tell (l.drop m.toNat).sum).2 = true
    · obtain ⟨r2, e2⟩ := parts_tell_is h2
      rw [if_pos h2, e2, Add_f r1 r2, Option.bind_some, hs, if_pos rfl, if_neg (by simp)]
      exact parts_j2 l h hlen ha hb k (by omega)
    · rw [if_neg h2]
      exact parts_j2 l h hlen ha hb k (by omega)
  · rw [if_neg h1]
    simp only [tripwirelaw01_FixnumParts.j1]
    rw [if_neg (by simp)]
    exact parts_j2 l h hlen ha hb k (by omega)
theorem FixnumParts : tripwirelaw01_FixnumParts.Pure := by
  intro l c a b _ hl hwf hc ha hb
  have h : isR l := fun x hx => wf_in (hwf x hx)
  have hc2 := wf_in hc
  unfold inR at hc2
  refine ⟨4 * l.length + 100, ?_⟩
  rw [tripwirelaw01_FixnumParts.f, works_f _ (by omega), Option.bind_some]
  by_cases hb1 : (l.length : Int) > 67108863
  · rw [if_pos hb1]
  · rw [if_neg hb1]
    by_cases hn : c < 0
    · rw [if_pos hn]
      exact parts_j0 l h (by omega) (wf_in ha) (wf_in hb) _ (by omega) _ (by unfold wrap64; omega)
    · rw [if_neg hn]
      exact parts_j0 l h (by omega) (wf_in ha) (wf_in hb) _ (by omega) _ (by omega)

end Go.Proofs.Ytcninjadeagenaa.Pure
