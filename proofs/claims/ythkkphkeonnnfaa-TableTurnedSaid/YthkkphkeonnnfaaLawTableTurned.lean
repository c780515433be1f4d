/- A table's bytes with one of them another one, cut off, or with more behind, are refused. No condition. -/
import Derived.Test.YthkkphkeonnnfaaRows
import Derived.Test.YthkkphkeonnnfaaUG
import Derived.WalkKit
import Derived.ProofKit
import Derived.OpenShut
import Derived.ShutString
import Derived.ChangeOld
import Derived.Below
import Derived.SizedLaws
namespace Go.Proofs.Ythkkphkeonnnfaa.tableTurned
open Go.ChangeShapes Go.WideShapes Go.ChangeAt Go.RowKit Go.Proofs.Ythkkphkeonnnfaa.Abs
set_option linter.unusedVariables false
theorem own : ownKnob Try.prog.godebug = none := by kernel_rfl
theorem laidOut : laidOutB Try.prog = true := by kernel_rfl
set_option maxRecDepth 100000 in
theorem lifted (os : Os) (started : os.Started) (H : Type) (enc : TypeId × Value → H) :
    ReturnsInHanded {} Try.checked os 9 .any (Rows.tableTurnedSpec.pre6 enc Try.prog Try.f9 Rows.tableTurnedRow.domain false) (Rows.tableTurnedSpec.post enc Try.prog Try.f9 false true false false) := by
  refine returnsInHanded_of_change_sized (C := Try.checked) own started (by kernel_rfl) Try.func9
    (ChangeSpec.witness6 (enc := enc) (C := Try.checked) false ⟨#[], #[.agg #[.string .empty, .slice none 0 0, .int .i64 0, .slice none 0 0, .slice none 0 0, .slice none 0 0], .int .i64 0, .int .u8 0, .string .empty], []⟩ 8 (by kernel_rfl) (by kernel_rfl) (by kernel_rfl) (by kernel_rfl)) ?_
  intro W base args ds gs before hval0 hW hcnd hsz0 _
  have hval : ∀ (j : Nat) t v, Try.f9.params[j]? = some t → args[j]? = some v → Value.okWide Try.prog W .any base t v := hval0
  have hW' := hW
  obtain ⟨p, q, hA0, hV, rfl, hfz, hnd⟩ := hW
  have hA : DataW.TrodAll enc Try.prog W 0 (fun _ => true) true Try.f9.params.toList args.toList ds p := hA0
  have hsz : (DataW.weightsEach Try.prog Try.f9.params.toList (ds ++ gs)).all (· ≤ reachBytes) = true := hsz0
  rw [Try.params9] at hA hval hsz
  obtain ⟨v0, vs0, d0, ds0, p0, q0, hargs, rfl, rfl, h0, r0⟩ := trodAll_cons hA
  obtain ⟨v1, vs1, d1, ds1, p1, q1, rfl, rfl, rfl, h1, r1⟩ := trodAll_cons r0
  obtain ⟨v2, vs2, d2, ds2, p2, q2, rfl, rfl, rfl, h2, r2⟩ := trodAll_cons r1
  obtain ⟨v3, vs3, d3, ds3, p3, q3, rfl, rfl, rfl, h3, r3⟩ := trodAll_cons r2
  obtain ⟨rfl, rfl, rfl⟩ := trodAll_nil r3
  obtain rfl : args = #[v0, v1, v2, v3] := by cases args; simp_all
  obtain ⟨rfl, rfl⟩ := trodVars_none hV
  have k0 := h0
  have lt0 : ∀ x ∈ p0, x.block < W.heap.size := by obtain ⟨m, hm⟩ := k0; exact DataW.trod_lt m _ _ _ hm
  have hw0 : ∀ n ∈ d0.weights Try.prog 26, n ≤ reachBytes := fun n hn => by
    have := List.all_eq_true.1 hsz n (by show n ∈ d0.weights _ _ ++ _; exact List.mem_append_left _ hn)
    simpa using this
  have k1 := h1
  have lt1 : ∀ x ∈ p1, x.block < W.heap.size := by obtain ⟨m, hm⟩ := k1; exact DataW.trod_lt m _ _ _ hm
  have hw1 : ∀ n ∈ d1.weights Try.prog 3, n ≤ reachBytes := fun n hn => by
    have := List.all_eq_true.1 hsz n (by show n ∈ d0.weights _ _ ++ (d1.weights _ _ ++ _); exact List.mem_append_right _ (List.mem_append_left _ hn))
    simpa using this
  have k2 := h2
  have lt2 : ∀ x ∈ p2, x.block < W.heap.size := by obtain ⟨m, hm⟩ := k2; exact DataW.trod_lt m _ _ _ hm
  have hw2 : ∀ n ∈ d2.weights Try.prog 5, n ≤ reachBytes := fun n hn => by
    have := List.all_eq_true.1 hsz n (by show n ∈ d0.weights _ _ ++ (d1.weights _ _ ++ (d2.weights _ _ ++ _)); exact List.mem_append_right _ (List.mem_append_right _ (List.mem_append_left _ hn)))
    simpa using this
  have k3 := h3
  have lt3 : ∀ x ∈ p3, x.block < W.heap.size := by obtain ⟨m, hm⟩ := k3; exact DataW.trod_lt m _ _ _ hm
  have hw3 : ∀ n ∈ d3.weights Try.prog 9, n ≤ reachBytes := fun n hn => by
    have := List.all_eq_true.1 hsz n (by show n ∈ d0.weights _ _ ++ (d1.weights _ _ ++ (d2.weights _ _ ++ (d3.weights _ _ ++ _))); exact List.mem_append_right _ (List.mem_append_right _ (List.mem_append_right _ (List.mem_append_left _ hn))))
    simpa using this
  obtain ⟨cs0, rfl, -⟩ := okWide_struct Try.underlying26 (hval 0 26 v0 rfl rfl)
  obtain ⟨x1, rfl⟩ := okWide_int Try.underlying3 (hval 1 3 v1 rfl rfl)
  obtain ⟨x2, rfl⟩ := okWide_int Try.underlying5 (hval 2 5 v2 rfl rfl)
  obtain ⟨x3, rfl⟩ := okWide_string Try.underlying9 (hval 3 9 v3 rfl rfl)
  obtain ⟨σ0, a0, le0, hc0, hok0⟩ := open_args op_table (Vw.none W) h0 hw0
  obtain ⟨σ1, a1, le1, hc1, hok1⟩ := open_args (op_int tblOk (k := .i64) rfl) σ0 h1 hw1
  obtain ⟨σ2, a2, le2, hc2, hok2⟩ := open_args (op_int tblOk (k := .u8) rfl) σ1 h2 hw2
  obtain ⟨σ3, a3, le3, hc3, hok3⟩ := open_args (op_str tblOk rfl) σ2 h3 hw3
  have e0 : conc σ3.μ (a0.v) = some (.agg cs0) := conc_mono ((le1.trans le2).trans le3).mu _ _ (conc_agg_mk hc0)
  have ok0 : a0.Ok σ3.V := Table.okM ((le1.trans le2).trans le3).view hok0.1
  have e1 : conc σ3.μ (.int .i64 a1) = some (.int .i64 x1) := conc_mono (le2.trans le3).mu _ _ (conc_one hc1)
  have e2 : conc σ3.μ (.int .u8 a2) = some (.int .u8 x2) := conc_mono le3.mu _ _ (conc_one hc2)
  have e3 : conc σ3.μ (.str a3) = some (.string x3) := conc_one hc3
  have hcv : concL σ3.μ [a0.v, .int .i64 a1, .int .u8 a2, .str a3] = some [.agg cs0, .int .i64 x1, .int .u8 x2, .string x3] := conc_cons e0 (conc_cons e1 (conc_cons e2 (conc_cons e3 (conc_nil))))
  refine (bridge (ms := _) G19_ok σ3 hcv (tableTurned_c ok0 hok0.2 hok1 hok2 hok3.2 hok3.1)).mono fun e W' ⟨he, bel⟩ => ?_
  subst he
  exact ⟨_, rfl, _, _, _, [], _, [], hW', trodAll_mk1 (shut_bool Try.underlying4 _), (trodAll_cons_mk (Below.trod laidOut (by kernel_rfl) (of_decide_eq_true (by kernel_rfl)) k0 bel lt0) (trodAll_cons_mk (Below.trod laidOut (by kernel_rfl) (of_decide_eq_true (by kernel_rfl)) k1 bel lt1) (trodAll_cons_mk (Below.trod laidOut (by kernel_rfl) (of_decide_eq_true (by kernel_rfl)) k2 bel lt2) (trodAll_cons_mk (Below.trod laidOut (by kernel_rfl) (of_decide_eq_true (by kernel_rfl)) k3 bel lt3) trodAll_mk0)))), rfl, bel.frame _, fun h => by cases h⟩
theorem over : Rows.tableTurnedRow.holds Try.pinned (OpenSpec.ofChange Rows.tableTurnedSpec) :=
  OpenClaim.holds_of_wide 9 Try.f9 rfl rfl rfl rfl rfl rfl rfl ⟨rfl, rfl, rfl, rfl, rfl⟩ rfl rfl rfl rfl rfl (by kernel_rfl) Try.func9 (by kernel_rfl)
    (of_decide_eq_true (by kernel_rfl)) (by unfold Func.isWrapper; first | (rw [if_pos (by decide +kernel)]; kernel_rfl) | (rw [if_neg (by decide +kernel)]; exact ⟨rfl, rfl⟩))
    (fun os started H enc _ => lifted os started H enc)
theorem proved : Rows.TableTurnedSaid := over
#print axioms proved
end Go.Proofs.Ythkkphkeonnnfaa.tableTurned
namespace Go.Proofs.Ythkkphkeonnnfaa
/-- The row, under a short name, for the claim. -/
theorem tableTurned_holds : Rows.TableTurnedSaid := tableTurned.proved
end Go.Proofs.Ythkkphkeonnnfaa
