/- Comparison is an order, and neither a sum nor a product hangs on the order of its two numbers. No condition. -/
import Derived.Test.YtcninjadeagenaaHFixnumx8
import Derived.Test.YtcninjadeagenaaFixC
namespace Go.Proofs.Ytcninjadeagenaa.Pure
open Go.RowKit Go.Proofs.Ytcninjadeagenaa.HFixnum Go.Proofs.YtcninjadeagenaaW.PrintWords Go.Proofs.YtcninjadeagenaaW.PrintLast Go.Proofs.Ytcninjadeagenaa.FX

theorem cm_range (a b : Int) : cm a b = -1 ∨ cm a b = 0 ∨ cm a b = 1 := by unfold cm; by_cases h1 : a < b <;> by_cases h2 : a > b <;> simp [h1, h2]
theorem cm_turn (a b : Int) : cm a b = -cm b a := by unfold cm; split <;> split <;> (try split) <;> (try split) <;> omega
theorem cm_zero (a b : Int) : cm a b = 0 ↔ a = b := by unfold cm; split <;> (try split) <;> omega
theorem cm_le (a b : Int) : cm a b ≤ 0 ↔ a ≤ b := by unfold cm; split <;> (try split) <;> omega
theorem tell_ok {x : Int} (h : (tell x).2 = true) : (tell x).1 = x := by
  unfold tell at h ⊢
  split
  · rfl
  · rename_i hc; rw [if_neg hc] at h; cases h
theorem mdv_one {a b : Int} : mdv a b 1 = tell (a * b) := by rw [mdv, if_neg (by omega), Int.tdiv_one]
theorem order_j1 (k : Nat) (hk : 31 ≤ k) {a b : Int} (ha : inR a) (hb : inR b) : tripwirelaw01_FixnumOrder.j1 k a b true false = some true := by
  obtain ⟨k, rfl⟩ : ∃ n, k = n + 1 := ⟨k - 1, by omega⟩
  have h1 : inR 1 := by unfold inR; omega
  simp only [tripwirelaw01_FixnumOrder.j1]
  rw [if_neg (by simp), Add_f ha hb, Option.bind_some, Add_f hb ha, Option.bind_some, Mul_f ha hb, Option.bind_some, Mul_f hb ha, Option.bind_some, MulDiv_f k (by omega) ha hb h1, Option.bind_some, mdv_one, Int.add_comm b a, Int.mul_comm b a]
  simp
theorem order_j0 (k : Nat) (hk : 32 ≤ k) {a b : Int} (ha : inR a) (hb : inR b) : tripwirelaw01_FixnumOrder.j0 k a b true (cm a b) false = some true := by
  obtain ⟨k, rfl⟩ : ∃ n, k = n + 1 := ⟨k - 1, by omega⟩
  simp only [tripwirelaw01_FixnumOrder.j0]
  rw [if_neg (by simp), Sub_f ha hb, Option.bind_some]
  by_cases h : (tell (a - b)).2 = true
  · rw [if_pos h, Cmp_f, Option.bind_some, tell_ok h]
    have e : cm (a - b) 0 = cm a b := by unfold cm; split <;> split <;> (try split) <;> (try split) <;> omega
    rw [e, show (cm a b != cm a b) = false from by simp]
    exact order_j1 k (by omega) ha hb
  · rw [if_neg h]
    exact order_j1 k (by omega) ha hb
theorem order_f (k : Nat) (hk : 80 ≤ k) {a b c : Int} (ha : inR a) (hb : inR b) : tripwirelaw01_FixnumOrder.f k a b c = some true := by
  rw [tripwirelaw01_FixnumOrder.f, works_f k hk, Option.bind_some, Cmp_f, Option.bind_some, Cmp_f, Option.bind_some, Cmp_f, Option.bind_some, Cmp_f, Option.bind_some]
  have r := cm_range b a
  have t := cm_turn a b
  rw [if_pos (by rw [wrap64_id (by omega) (by omega)]; exact t), if_neg ?_]
  · by_cases h1 : cm a b ≤ 0
    · rw [if_pos h1]
      by_cases h2 : cm b c ≤ 0
      · have h3 : cm a c ≤ 0 := (cm_le a c).2 (Int.le_trans ((cm_le a b).1 h1) ((cm_le b c).1 h2))
        rw [if_pos h2, decide_eq_false (by omega)]
        exact order_j0 k (by omega) ha hb
      · rw [if_neg h2]
        exact order_j0 k (by omega) ha hb
    · rw [if_neg h1]
      exact order_j0 k (by omega) ha hb
  · by_cases h : a = b
    · have e1 : (cm a b == 0) = true := beq_iff_eq.mpr ((cm_zero a b).2 h)
      have e2 : (a == b) = true := beq_iff_eq.mpr h
      rw [e1, e2]
      simp
    · have e1 : (cm a b == 0) = false := beq_eq_false_iff_ne.mpr (fun hc => h ((cm_zero a b).1 hc))
      have e2 : (a == b) = false := beq_eq_false_iff_ne.mpr h
      rw [e1, e2]
      simp
theorem FixnumOrder : tripwirelaw01_FixnumOrder.Pure := fun a b _ ha hb _ => ⟨80, order_f 80 (by omega) (wf_in ha) (wf_in hb)⟩

end Go.Proofs.Ytcninjadeagenaa.Pure
