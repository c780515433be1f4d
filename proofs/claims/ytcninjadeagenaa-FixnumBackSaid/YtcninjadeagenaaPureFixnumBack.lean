/- What is added can be taken away again, what is multiplied divided again; a quotient and its rest make the number up. No condition. -/
import Derived.Test.YtcninjadeagenaaHFixnumx7
import Derived.Test.YtcninjadeagenaaFixC
namespace Go.Proofs.Ytcninjadeagenaa.Pure
open Go.RowKit Go.Proofs.Ytcninjadeagenaa.HFixnum Go.Proofs.YtcninjadeagenaaW.PrintWords Go.Proofs.YtcninjadeagenaaW.PrintLast Go.Proofs.Ytcninjadeagenaa.FX

theorem tell_is {x : Int} (h : (tell x).2 = true) : inR x ∧ tell x = (x, true) := by
  by_cases hc : inR x
  · exact ⟨hc, tell_in hc⟩
  · rw [tell_out hc] at h; cases h
theorem mdv_self {a b : Int} (ha : inR a) (hb : b ≠ 0) : mdv a b b = (a, true) := by
  rw [mdv, if_neg hb, Int.mul_tdiv_cancel _ hb, tell_in ha]
theorem back_end (k : Nat) (hk : 30 ≤ k) {a b : Int} (ha : inR a) (hb : inR b) (f : Option (Int × Bool)) (_hf : f = fixnum_MulDiv.f k a b b) : f = some (mdv a b b) := by
  rw [_hf, MulDiv_f k hk ha hb hb]
theorem back_j3 (k : Nat) (hk : 31 ≤ k) {a b : Int} (ha : inR a) (hb : inR b) (h : b ≠ 0) (x y : Bool) : tripwirelaw01_FixnumBack.j3 k a b true x y false = some true := by
  obtain ⟨k, rfl⟩ : ∃ n, k = n + 1 := ⟨k - 1, by omega⟩
  simp only [tripwirelaw01_FixnumBack.j3]
  rw [if_neg (by simp), MulDiv_f k (by omega) ha hb hb, Option.bind_some, if_neg h, mdv_self ha h]
  simp
theorem back_j2 (k : Nat) (hk : 32 ≤ k) {a b : Int} (ha : inR a) (hb : inR b) : tripwirelaw01_FixnumBack.j2 k a b true = some true := by
  obtain ⟨k, rfl⟩ : ∃ n, k = n + 1 := ⟨k - 1, by omega⟩
  simp only [tripwirelaw01_FixnumBack.j2]
  rw [Div_f ha hb, Option.bind_some, Mod_f, Option.bind_some]
  by_cases h : b = 0
  · rw [dv, if_pos h, md, if_pos h, if_neg (by simp), MulDiv_f k (by omega) ha hb hb, Option.bind_some, if_pos h, mdv, if_pos h]
    simp
  · rw [dv, if_neg h, md, if_neg h]
    by_cases ho : (tell (Int.tdiv a b)).2 = true
    · obtain ⟨hq, he⟩ := tell_is ho
      have hme := Int.tmod_add_mul_tdiv a b
      rw [Int.mul_comm] at hme
      have hmr : inR (Int.tmod a b) := by
        have m0 := Int.emod_nonneg (ab a) (show ab b ≠ 0 by have := ab_pos h; omega)
        have m1 := Int.emod_lt_of_pos (ab a) (ab_pos h)
        have B := ab_range hb
        rw [tmod_ab]
        unfold inR sg
        split <;> omega
      have hsg : (Int.tmod a b > 0 → a > 0) ∧ (Int.tmod a b < 0 → a < 0) := by
        have m0 := Int.emod_nonneg (ab a) (show ab b ≠ 0 by have := ab_pos h; omega)
        rw [tmod_ab]
        by_cases hn : a < 0
        · rw [show sg (ab a % ab b) (decide (a < 0)) = -(ab a % ab b) from by simp [sg, hn]]
          omega
        · rw [show sg (ab a % ab b) (decide (a < 0)) = ab a % ab b from by simp [sg, hn]]
          refine ⟨fun hp => ?_, fun hc => by omega⟩
          rcases Int.lt_or_le 0 a with h1 | h1
          · exact h1
          · have h0 : a = 0 := by omega
            subst h0
            simp [ab] at hp
      have hpin : inR (Int.tdiv a b * b) := by
        unfold inR at ha hmr ⊢
        have hab := tmod_ab a b
        have hpn : 0 ≤ ab a / ab b * ab b ∧ ab a / ab b * ab b ≤ ab a := ⟨Int.mul_nonneg (Int.ediv_nonneg (ab_range ha).1 (ab_range hb).1) (ab_range hb).1, Int.ediv_mul_le _ (by have := ab_pos h; omega)⟩
        by_cases hn : a < 0
        · have hle := hsg.1
          have : ¬ Int.tmod a b > 0 := fun hc => by have := hle hc; omega
          have e2 : ab a = -a := by unfold ab; rw [if_pos hn]
          have m1 : Int.tmod a b = -(ab a % ab b) := by rw [hab]; simp [sg, hn]
          have m2 := Int.emod_nonneg (ab a) (show ab b ≠ 0 by have := ab_pos h; omega)
          have m3 := Int.mul_ediv_add_emod (ab a) (ab b)
          rw [Int.mul_comm] at m3
          omega
        · have e2 : ab a = a := by unfold ab; rw [if_neg hn]
          have m1 : Int.tmod a b = ab a % ab b := by rw [hab]; simp [sg, hn]
          have m2 := Int.emod_nonneg (ab a) (show ab b ≠ 0 by have := ab_pos h; omega)
          have m3 := Int.mul_ediv_add_emod (ab a) (ab b)
          rw [Int.mul_comm] at m3
          omega
      rw [if_pos ho, he, Mul_f hq hb, Option.bind_some, tell_in hpin, Add_f hpin hmr, Option.bind_some, show Int.tdiv a b * b + Int.tmod a b = a from by omega, tell_in ha]
      rw [if_pos rfl, if_pos rfl, if_pos rfl, if_pos rfl]
      by_cases hp : Int.tmod a b > 0
      · rw [if_pos hp, if_neg (by have := hsg.1 hp; omega), if_neg (by omega)]
        exact back_j3 k (by omega) ha hb h _ _
      · rw [if_neg hp]
        by_cases hn : Int.tmod a b < 0
        · rw [if_pos hn, decide_eq_false (by have := hsg.2 hn; omega)]
          exact back_j3 k (by omega) ha hb h _ _
        · rw [if_neg hn]
          exact back_j3 k (by omega) ha hb h _ _
    · rw [if_neg ho, MulDiv_f k (by omega) ha hb hb, Option.bind_some, if_neg h, mdv_self ha h]
      simp
theorem back_j0 (k : Nat) (hk : 34 ≤ k) {a b : Int} (ha : inR a) (hb : inR b) : tripwirelaw01_FixnumBack.j0 k a b true = some true := by
  obtain ⟨k, rfl⟩ : ∃ n, k = n + 2 := ⟨k - 2, by omega⟩
  rw [tripwirelaw01_FixnumBack.j0, Mul_f ha hb, Option.bind_some]
  by_cases ho : (tell (a * b)).2 = true
  · obtain ⟨hp, he⟩ := tell_is ho
    rw [if_pos ho, he]
    simp only [tripwirelaw01_FixnumBack.j1]
    by_cases h : b = 0
    · rw [if_neg (by simp [h])]
      exact back_j2 k (by omega) ha hb
    · rw [if_pos (by simp [h]), Div_f hp hb, Option.bind_some, dv, if_neg h, Int.mul_tdiv_cancel _ h, tell_in ha, if_pos rfl, if_pos rfl]
      exact back_j2 k (by omega) ha hb
  · rw [if_neg ho]
    simp only [tripwirelaw01_FixnumBack.j1]
    rw [if_neg (by simp)]
    exact back_j2 k (by omega) ha hb
theorem back_f (k : Nat) (hk : 80 ≤ k) {a b : Int} (ha : inR a) (hb : inR b) : tripwirelaw01_FixnumBack.f k a b = some true := by
  rw [tripwirelaw01_FixnumBack.f, works_f k hk, Option.bind_some, Add_f ha hb, Option.bind_some]
  by_cases ho : (tell (a + b)).2 = true
  · obtain ⟨hp, he⟩ := tell_is ho
    rw [if_pos ho, he, Sub_f hp hb, Option.bind_some, show a + b - b = a from by omega, tell_in ha, if_pos rfl, if_pos rfl]
    exact back_j0 k (by omega) ha hb
  · rw [if_neg ho]
    exact back_j0 k (by omega) ha hb
theorem FixnumBack : tripwirelaw01_FixnumBack.Pure := fun a b ha hb => ⟨80, back_f 80 (by omega) (wf_in ha) (wf_in hb)⟩

end Go.Proofs.Ytcninjadeagenaa.Pure
