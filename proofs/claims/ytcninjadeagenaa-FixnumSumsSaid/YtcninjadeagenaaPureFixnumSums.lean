/- The sum of a list is exact, in whatever order its numbers come; the list handed in stays as it was. No condition. -/
import Derived.Test.YtcninjadeagenaaHFixnumx6
import Derived.Test.YtcninjadeagenaaFixD
namespace Go.Proofs.Ytcninjadeagenaa.Pure
open Go.RowKit Go.Proofs.Ytcninjadeagenaa.HFixnum Go.Proofs.YtcninjadeagenaaW.PrintWords Go.Proofs.YtcninjadeagenaaW.PrintLast Go.Proofs.Ytcninjadeagenaa.FX
set_option linter.unusedSimpArgs false

/-- The list turned by t and read from behind. -/
def oth (l : List Int) (t : Nat) : List Int := (l.take t).reverse ++ (l.drop t).reverse
theorem sum_rev (l : List Int) : l.reverse.sum = l.sum := by
  induction l with
  | nil => rfl
  | cons x l ih => rw [List.reverse_cons, List.sum_append, ih]; simp; omega
theorem oth_sum (l : List Int) (t : Nat) : (oth l t).sum = l.sum := by
  rw [oth, List.sum_append, sum_rev, sum_rev, ← List.sum_append, List.take_append_drop]
theorem oth_len (l : List Int) (t : Nat) : (oth l t).length = l.length := by
  have h : (l.take t ++ l.drop t).length = l.length := by rw [List.take_append_drop]
  rw [List.length_append] at h
  rw [oth, List.length_append, List.length_reverse, List.length_reverse, h]
theorem oth_isR {l : List Int} (h : isR l) (t : Nat) : isR (oth l t) := by
  intro x hx
  rw [oth, List.mem_append, List.mem_reverse, List.mem_reverse] at hx
  rcases hx with hx | hx
  · exact h x (List.mem_of_mem_take hx)
  · exact h x (List.mem_of_mem_drop hx)
theorem oth_get (l : List Int) (t : Nat) (ht : t < l.length) (i : Nat) (hi : i < l.length) : (oth l t)[i]? = l[(l.length - 1 - i + t) % l.length]? := by
  rw [oth]
  have hlt : (l.take t).length = t := by rw [List.length_take]; omega
  have hld : (l.drop t).length = l.length - t := List.length_drop
  rcases Nat.lt_or_ge i t with h1 | h1
  · rw [List.getElem?_append_left (by simp; omega), List.getElem?_reverse (by omega), hlt, List.getElem?_take_of_lt (by omega)]
    congr 1
    rw [show l.length - 1 - i + t = t - 1 - i + l.length by omega, Nat.add_mod_right, Nat.mod_eq_of_lt (by omega)]
  · rw [List.getElem?_append_right (by simp; omega), List.length_reverse, hlt, List.getElem?_reverse (by omega), hld, List.getElem?_drop]
    congr 1
    rw [Nat.mod_eq_of_lt (by omega)]
    omega
theorem sums_l0 (l : List Int) (h : isR l) (hlen : l.length ≤ 268435455) (turn : Int) (h0 : 0 ≤ turn) (p : Int × Bool) (hp : p = tell l.sum) (d : Nat) : ∀ (k i : Nat) (z : List Int), i + d = l.length → d + l.length + 10 ≤ k →
    z = (oth l (turn.toNat % l.length)).take i →
    tripwirelaw01_FixnumSums.l0 k l turn true p.1 p.2 true p.1 p.2 z l.length i = some true := by
  induction d with
  | zero =>
    intro k i z hi hk hz
    obtain ⟨k, rfl⟩ : ∃ n, k = n + 1 := ⟨k - 1, by omega⟩
    rw [List.take_of_length_le (by rw [oth_len]; omega)] at hz
    rw [tripwirelaw01_FixnumSums.l0, if_neg (by omega), hz, Sum_f k _ (oth_isR h _) (by rw [oth_len]; omega) (by rw [oth_len]; omega), Option.bind_some, oth_sum, ← hp, if_pos rfl, if_pos rfl, if_pos rfl, if_pos (by simp), if_pos rfl]
    simp
  | succ d ih =>
    intro k i z hi hk hz
    obtain ⟨k, rfl⟩ : ∃ n, k = n + 1 := ⟨k - 1, by omega⟩
    have hn : 0 < l.length := by omega
    have hlt : i < l.length := by omega
    have ht := Nat.mod_lt turn.toNat hn
    have etm : Int.tmod turn (l.length : Int) = ((turn.toNat % l.length : Nat) : Int) := by
      obtain ⟨u, rfl⟩ := Int.eq_ofNat_of_zero_le h0
      rw [Int.tmod_eq_emod_of_nonneg h0]
      rfl
    have hj := Nat.mod_lt (l.length - 1 - i + turn.toNat % l.length) hn
    generalize hT : turn.toNat % l.length = t at *
    have ej : Int.tmod (wrap64 (wrap64 (wrap64 ((l.length : Int) - 1) - i) + Int.tmod turn (l.length : Int))) (l.length : Int) = (((l.length - 1 - i + t) % l.length : Nat) : Int) := by
      rw [etm, wrap64_id (x := (l.length : Int) - 1) (by omega) (by omega), wrap64_id (x := (l.length : Int) - 1 - i) (by omega) (by omega), wrap64_id (x := (l.length : Int) - 1 - i + t) (by omega) (by omega), Int.tmod_eq_emod_of_nonneg (by omega)]
      have : ((l.length : Int) - 1 - i + t) = ((l.length - 1 - i + t : Nat) : Int) := by omega
      rw [this]
      rfl
    generalize hJ : (l.length - 1 - i + t) % l.length = j at *
    have hzl : z.length = i := by rw [hz, List.length_take, oth_len]; omega
    rw [tripwirelaw01_FixnumSums.l0, if_pos (by omega), if_neg (by omega), ej, if_pos (by omega), if_pos (by omega), if_pos (by omega), rd_get l j hj, wrap64_id (by omega) (by omega)]
    have hg := oth_get l t ht i hlt
    rw [hJ, List.getElem?_eq_getElem hj] at hg
    have hio : i < (oth l t).length := by rw [oth_len]; exact hlt
    rw [List.getElem?_eq_getElem hio] at hg
    injection hg with hg
    have := ih k (i + 1) (z ++ [l[j]]) (by omega) (by omega) (by rw [List.take_succ_eq_append_getElem hio, hz, hg])
    rw [show ((i + 1 : Nat) : Int) = (i : Int) + 1 from by omega] at this
    exact this
theorem FixnumSums : tripwirelaw01_FixnumSums.Pure := by
  intro l turn hml hl8 hl ht
  have h : isR l := fun x hx => by
    have h := hl x hx
    simp only [Lit.wf, IntKind.min, IntKind.max, IntKind.signed, IntKind.bits, Bool.and_eq_true, decide_eq_true_eq] at h
    have h1 := h.1
    have h2 := h.2
    simp at h1 h2
    unfold inR
    omega
  simp only [Lit.wf, IntKind.min, IntKind.max, IntKind.signed, IntKind.bits, Bool.and_eq_true, decide_eq_true_eq] at ht
  have t1 := ht.1
  have t2 := ht.2
  simp at t1 t2
  refine ⟨1000000001, ?_⟩
  rw [tripwirelaw01_FixnumSums.f, works_f _ (by omega), Option.bind_some]
  by_cases hbig : (l.length : Int) > 268435455
  · rw [if_pos hbig]
  · have key : ∀ u : Int, 0 ≤ u → ∀ p : Int × Bool, p = tell l.sum → ∀ k, 900000000 ≤ k → tripwirelaw01_FixnumSums.j0 (k + 1) l u true p.1 p.2 true p.1 p.2 ([] : List Int) (l.length : Int) = some true := by
      intro u hu p hp k hk
      rw [tripwirelaw01_FixnumSums.j0]
      exact sums_l0 l h (by omega) u hu p hp l.length k 0 [] (by omega) (by omega) rfl
    rw [if_neg hbig, tripwireref00_LentLongs.f, if_pos (by omega), Option.bind_some, Sum_f _ l h (by omega) (by omega), Option.bind_some, tripwireref00_WholeLongs.f, if_pos rfl, Option.bind_some, refSum_f _ l h (by omega) (by omega), Option.bind_some]
    by_cases hn : turn < 0
    · rw [if_pos hn, wrap64_id (x := turn + 1) (by omega) (by omega), wrap64_id (x := -(turn + 1)) (by omega) (by omega)]
      exact key _ (by omega) _ rfl 1000000000 (by omega)
    · rw [if_neg hn]
      exact key _ (by omega) _ rfl 1000000000 (by omega)

end Go.Proofs.Ytcninjadeagenaa.Pure
