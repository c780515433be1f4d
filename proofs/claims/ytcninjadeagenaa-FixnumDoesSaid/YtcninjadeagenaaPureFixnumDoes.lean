/- Each sum, difference, product, quotient, rest, turned number, comparison and divided product is the reference's. No condition. -/
import Derived.Test.YtcninjadeagenaaHFixnumx5
import Derived.Test.YtcninjadeagenaaFixC
namespace Go.Proofs.Ytcninjadeagenaa.Pure
open Go.RowKit Go.Proofs.Ytcninjadeagenaa.HFixnum Go.Proofs.YtcninjadeagenaaW.PrintWords Go.Proofs.YtcninjadeagenaaW.PrintLast Go.Proofs.Ytcninjadeagenaa.FX

theorem does_j5 (k : Nat) (hk : 80 ≤ k) {a b c : Int} (ha : inR a) (hb : inR b) (hc : inR c) : tripwirelaw01_FixnumDoes.j5 (k + 1) a b c true true true true true true true = some true := by
  rw [tripwirelaw01_FixnumDoes.j5, MulDiv_f k (by omega) ha hb hc, Option.bind_some, refMulDiv_f k (by omega) ha hb hc, Option.bind_some, if_pos rfl, Cmp_f, Option.bind_some, refCmp_f, Option.bind_some]
  simp
theorem does_j4 (k : Nat) (hk : 80 ≤ k) {a b c : Int} (ha : inR a) (hb : inR b) (hc : inR c) : tripwirelaw01_FixnumDoes.j4 (k + 2) a b c true true true true true true = some true := by
  rw [tripwirelaw01_FixnumDoes.j4, Neg_f ha, Option.bind_some, refNeg_f ha, Option.bind_some, if_pos rfl, beq_self_eq_true]
  exact does_j5 k hk ha hb hc
theorem does_j3 (k : Nat) (hk : 80 ≤ k) {a b c : Int} (ha : inR a) (hb : inR b) (hc : inR c) : tripwirelaw01_FixnumDoes.j3 (k + 3) a b c true true true true true = some true := by
  rw [tripwirelaw01_FixnumDoes.j3, Mod_f, Option.bind_some, refMod_f (k + 1) ha hb, Option.bind_some, if_pos rfl, beq_self_eq_true]
  exact does_j4 k hk ha hb hc
theorem does_j2 (k : Nat) (hk : 80 ≤ k) {a b c : Int} (ha : inR a) (hb : inR b) (hc : inR c) : tripwirelaw01_FixnumDoes.j2 (k + 4) a b c true true true true = some true := by
  rw [tripwirelaw01_FixnumDoes.j2, Div_f ha hb, Option.bind_some, refDiv_f (k + 2) ha hb, Option.bind_some, if_pos rfl, beq_self_eq_true]
  exact does_j3 k hk ha hb hc
theorem does_j1 (k : Nat) (hk : 80 ≤ k) {a b c : Int} (ha : inR a) (hb : inR b) (hc : inR c) : tripwirelaw01_FixnumDoes.j1 (k + 5) a b c true true true = some true := by
  rw [tripwirelaw01_FixnumDoes.j1, Mul_f ha hb, Option.bind_some, refMul_f (k + 3) ha hb, Option.bind_some, if_pos rfl, beq_self_eq_true]
  exact does_j2 k hk ha hb hc
theorem does_j0 (k : Nat) (hk : 80 ≤ k) {a b c : Int} (ha : inR a) (hb : inR b) (hc : inR c) : tripwirelaw01_FixnumDoes.j0 (k + 6) a b c true true = some true := by
  rw [tripwirelaw01_FixnumDoes.j0, Sub_f ha hb, Option.bind_some, refSub_f ha hb, Option.bind_some, if_pos rfl, beq_self_eq_true]
  exact does_j1 k hk ha hb hc
theorem does_f (k : Nat) (hk : 80 ≤ k) {a b c : Int} (ha : inR a) (hb : inR b) (hc : inR c) : tripwirelaw01_FixnumDoes.f (k + 6) a b c = some true := by
  rw [tripwirelaw01_FixnumDoes.f, works_f _ (by omega), Option.bind_some, Add_f ha hb, Option.bind_some, refAdd_f ha hb, Option.bind_some, if_pos rfl, beq_self_eq_true]
  exact does_j0 k hk ha hb hc
theorem FixnumDoes : tripwirelaw01_FixnumDoes.Pure := fun _ _ _ ha hb hc => ⟨80 + 6, does_f 80 (by omega) (wf_in ha) (wf_in hb) (wf_in hc)⟩

end Go.Proofs.Ytcninjadeagenaa.Pure
