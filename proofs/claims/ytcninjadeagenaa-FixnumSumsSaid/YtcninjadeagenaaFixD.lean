/- The sum of a list as the reference reckons it, in halves: the exact number, or that it leaves 64 bits. No condition but those that each lemma names. -/
import Derived.Test.YtcninjadeagenaaFixC
import Derived.Test.YtcninjadeagenaaHFixnumx6
namespace Go.Proofs.Ytcninjadeagenaa.FX
open Go.RowKit Go.Proofs.Ytcninjadeagenaa.HFixnum Go.Proofs.YtcninjadeagenaaW.PrintWords Go.Proofs.YtcninjadeagenaaW.PrintLast Go.Proofs.YtcninjadeagenaaW.PrintMore
set_option linter.unusedVariables false
set_option linter.unusedSimpArgs false

theorem refSum_l0 (l : List Int) (h : isR l) (hlen : l.length ≤ 1000000000) (d : Nat) : ∀ (k i : Nat) (hi lo : Int), i + d = l.length → d < k → 0 ≤ lo → lo ≤ 4294967295 * (i : Int) → hi * 4294967296 + lo = (l.take i).sum → -2147483648 * (i : Int) ≤ hi → hi ≤ 2147483648 * (i : Int) →
    tripwireref01_Sum.l0 k l hi lo i = some (tell l.sum) := by
  induction d with
  | zero =>
    intro k i hi lo he hk h0 h1 hs h2 h3
    obtain ⟨k, rfl⟩ : ∃ n, k = n + 1 := ⟨k - 1, by omega⟩
    simp only [tripwireref01_Sum.l0]
    rw [List.take_of_length_le (by omega)] at hs
    rw [if_neg (by omega), td h0, tm h0, u64_id (x := lo / 4294967296) (by omega) (by omega), wrap64_id (x := lo / 4294967296) (by omega) (by omega), wrap64_id (x := hi + lo / 4294967296) (by omega) (by omega), wrap64_id (x := lo % 4294967296) (by omega) (by omega), ← hs]
    by_cases c1 : hi + lo / 4294967296 < -2147483648
    · rw [if_pos c1, tell_out (by unfold inR; omega)]
    · rw [if_neg c1]
      by_cases c2 : hi + lo / 4294967296 > 2147483647
      · rw [if_pos c2, tell_out (by unfold inR; omega)]
      · rw [if_neg c2, tell_in (by unfold inR; omega), wrap64_id (x := (hi + lo / 4294967296) * 4294967296) (by omega) (by omega), wrap64_id (by omega) (by omega)]
        congr 2
        omega
  | succ d ih =>
    intro k i hi lo he hk h0 h1 hs h2 h3
    obtain ⟨k, rfl⟩ : ∃ n, k = n + 1 := ⟨k - 1, by omega⟩
    have hlt : i < l.length := by omega
    have hx := h l[i] (List.getElem_mem hlt)
    unfold inR at hx
    have hst := sum_take l i hlt
    simp only [tripwireref01_Sum.l0]
    rw [if_pos (by omega), if_pos (by omega), rd_get l i hlt, wrap64_id (x := (i : Int) + 1) (by omega) (by omega)]
    have hu : 0 ≤ IntKind.u64.wrap l[i] := by rw [u64_eq]; omega
    have em : IntKind.u64.wrap l[i] % 4294967296 = l[i] % 4294967296 := by rw [u64_eq]; omega
    rw [tm hu, em, wrap64_id (x := hi + l[i] / 4294967296) (by omega) (by omega), u64_id (x := lo + l[i] % 4294967296) (by omega) (by omega)]
    have := ih k (i + 1) (hi + l[i] / 4294967296) (lo + l[i] % 4294967296) (by omega) (by omega) (by omega) (by omega) (by omega) (by omega) (by omega)
    rw [show ((i + 1 : Nat) : Int) = (i : Int) + 1 from by omega] at this
    exact this
theorem refSum_f (k : Nat) (l : List Int) (h : isR l) (hlen : l.length ≤ 1000000000) (hk : l.length < k) : tripwireref01_Sum.f k l = some (tell l.sum) := by
  rw [tripwireref01_Sum.f]
  have := refSum_l0 l h hlen l.length k 0 0 0 (by omega) hk (by omega) (by omega) (by simp) (by omega) (by omega)
  simpa using this

end Go.Proofs.Ytcninjadeagenaa.FX
