/- Instructions read just the fields and registers that they name, of any table and span. No condition. -/
import Derived.Test.YthkkphkeonnnfaaRows
import Derived.Test.YthkkphkeonnnfaaHReadsx3
import Derived.Test.YthkkphkeonnnfaaPureTableReads
import Derived.Test.YthkkphkeonnnfaaOpens
import Derived.WalkKit
import Derived.ProofKit
import Derived.OpenShut
import Derived.ShutString
import Derived.ChangeOld
import Derived.Below
import Derived.SizedLaws
namespace Go.Proofs.Ythkkphkeonnnfaa.tableReads
open Go.ChangeShapes Go.WideShapes Go.ChangeAt Go.RowKit Go.Proofs.YthkkphkeonnnfaaW.PrintWords Go.Proofs.Ythkkphkeonnnfaa.Opens Go.Proofs.Ythkkphkeonnnfaa.HReads
set_option linter.unusedVariables false
theorem own : ownKnob Try.prog.godebug = none := by kernel_rfl
theorem laidOut : laidOutB Try.prog = true := by kernel_rfl
section
variable {H : Type} {enc : TypeId × Value → H} {w : World} {base : Nat} {sp : Nat → Bool} {held : Bool}
theorem opn54 : Opn enc Try.prog w base sp held k54 54 (fun _ => True) := fun fuel cs x h => by
  obtain ⟨v, h1, -⟩ := opn_iso (d := Kd.pair (Kd.int .u8) (Kd.int .i64)) (f := fun x : S54 => (x.f0, x.f1)) (fun p => ⟨p.1, p.2⟩) (fun _ => rfl) (opn_struct Try.underlying54 (by kernel_rfl) (opnF_cons (f := ⟨"Kind", 52, 0, false, "", "", 0⟩) (opn_int (by kernel_rfl)) (by kernel_rfl) (o := 1) rfl (opnF_one (f := ⟨"A", 3, 1, false, "", "", 8⟩) (opn_int (by kernel_rfl)) (by kernel_rfl)))) fuel cs x h
  exact ⟨v, h1, trivial⟩
theorem opn38 : Opn enc Try.prog w base sp held k38 38 (fun _ => True) := fun fuel cs x h => by
  obtain ⟨v, h1, -⟩ := opn_iso (d := Kd.pair (Kd.int .i64) (Kd.int .i64)) (f := fun x : S38 => (x.f0, x.f1)) (fun p => ⟨p.1, p.2⟩) (fun _ => rfl) (opn_struct Try.underlying38 (by kernel_rfl) (opnF_cons (f := ⟨"From", 3, 0, false, "", "", 0⟩) (opn_int (by kernel_rfl)) (by kernel_rfl) (o := 1) rfl (opnF_one (f := ⟨"To", 3, 1, false, "", "", 8⟩) (opn_int (by kernel_rfl)) (by kernel_rfl)))) fuel cs x h
  exact ⟨v, h1, trivial⟩
theorem opn67 : Opn enc Try.prog w base sp held k67 67 (fun _ => True) := fun fuel cs x h => by
  obtain ⟨v, h1, -⟩ := opn_iso (f := fun x : S67 => (x.f0, x.f1, x.f2, x.f3, x.f4, x.f5, x.f6)) (fun p => ⟨p.1, p.2.1, p.2.2.1, p.2.2.2.1, p.2.2.2.2.1, p.2.2.2.2.2.1, p.2.2.2.2.2.2⟩) (fun _ => rfl) (opn_struct Try.underlying67 (by kernel_rfl)
    (opnF_cons (f := ⟨"Kind", 64, 0, false, "", "", 0⟩) (opn_int (k := .u8) (by kernel_rfl)) (by kernel_rfl) (o := 1) rfl
    (opnF_cons (f := ⟨"Order", 65, 1, false, "", "", 1⟩) (opn_int (k := .u8) (by kernel_rfl)) (by kernel_rfl) (o := 2) rfl
    (opnF_cons (f := ⟨"Index", 3, 2, false, "", "", 8⟩) (opn_int (k := .i64) (by kernel_rfl)) (by kernel_rfl) (o := 3) rfl
    (opnF_cons (f := ⟨"Side", 38, 3, false, "", "", 16⟩) opn38 (by kernel_rfl) (o := 5) rfl
    (opnF_cons (f := ⟨"Qty", 38, 5, false, "", "", 32⟩) opn38 (by kernel_rfl) (o := 7) rfl
    (opnF_cons (f := ⟨"Price", 38, 7, false, "", "", 48⟩) opn38 (by kernel_rfl) (o := 9) rfl
    (opnF_one (f := ⟨"Value", 38, 9, false, "", "", 64⟩) opn38 (by kernel_rfl))))))))) fuel cs x h
  exact ⟨v, h1, trivial⟩
theorem opn57 : Opn enc Try.prog w base sp held k57 57 (fun _ => True) := fun fuel cs x h => by
  obtain ⟨v, h1, -⟩ := opn_iso (f := fun x : S57 => (x.f0, x.f1, x.f2, x.f3)) (fun p => ⟨p.1, p.2.1, p.2.2.1, p.2.2.2⟩) (fun _ => rfl) (opn_struct Try.underlying57 (by kernel_rfl)
    (opnF_cons (f := ⟨"When", 38, 0, false, "", "", 0⟩) opn38 (by kernel_rfl) (o := 2) rfl
    (opnF_cons (f := ⟨"Fields", 34, 2, false, "", "", 16⟩) (opn_int (k := .u16) (by kernel_rfl)) (by kernel_rfl) (o := 3) rfl
    (opnF_cons (f := ⟨"Regs", 33, 3, false, "", "", 18⟩) (opn_int (k := .u16) (by kernel_rfl)) (by kernel_rfl) (o := 4) rfl
    (opnF_one (f := ⟨"Rows", 55, 4, false, "", "", 24⟩) (opn_slice (e := 67) (by kernel_rfl) (by kernel_rfl) opn67) (by kernel_rfl)))))) fuel cs x h
  exact ⟨v, h1, trivial⟩
set_option maxRecDepth 100000 in
theorem openTable {r : Reach} {b0 : Nat} {v : Value} {d : DataW H} {ps : List MemPlace} (hval : Value.okWide Try.prog w r b0 26 v) (h : DataW.Trod enc Try.prog w base sp held 26 v d ps) :
    ∃ (name : ByteArray) (A1 : Option Addr) (c1 : Nat) (regs : List Int) (slots : Int) (A3 : Option Addr) (c3 : Nat) (consts : List Int) (A4 : Option Addr) (c4 : Nat) (code : List S54) (A5 : Option Addr) (c5 : Nat) (states : List (List S57)),
      v = .agg #[.string name, .slice A1 regs.length c1, .int .i64 slots, .slice A3 consts.length c3, .slice A4 code.length c4, .slice A5 states.length c5] ∧
      Kd.C (Kd.int .i64) w A1 regs.length regs ∧ regs.length ≤ c1 ∧ Kd.C (Kd.int .i64) w A3 consts.length consts ∧ consts.length ≤ c3 ∧ Kd.C k54 w A4 code.length code ∧ code.length ≤ c4 ∧ Kd.C (Kd.slice 57 k57) w A5 states.length states ∧ states.length ≤ c5 ∧
      code.length ≤ maxLen ∧ states.length ≤ maxLen ∧ ∀ l ∈ states, l.length ≤ maxLen := by
  obtain ⟨cs, rfl, hsz⟩ := okWide_struct Try.underlying26 hval
  obtain ⟨fuel, hf⟩ := h
  have key := opn_struct (enc := enc) (w := w) (base := base) (sp := sp) (held := held) Try.underlying26 (by kernel_rfl)
    (opnF_cons (f := ⟨"Name", 9, 0, false, "", "", 0⟩) (opn_string (by kernel_rfl)) (by kernel_rfl) (o := 1) rfl
    (opnF_cons (f := ⟨"Regs", 22, 1, false, "", "", 16⟩) (opn_slice Try.underlying22 (by kernel_rfl) (opn_int (k := .i64) (by kernel_rfl))) (by kernel_rfl) (o := 2) rfl
    (opnF_cons (f := ⟨"Slots", 3, 2, false, "", "", 40⟩) (opn_int (k := .i64) (by kernel_rfl)) (by kernel_rfl) (o := 3) rfl
    (opnF_cons (f := ⟨"Consts", 22, 3, false, "", "", 48⟩) (opn_slice Try.underlying22 (by kernel_rfl) (opn_int (k := .i64) (by kernel_rfl))) (by kernel_rfl) (o := 4) rfl
    (opnF_cons (f := ⟨"Code", 23, 4, false, "", "", 72⟩) (opn_slice Try.underlying23 (by kernel_rfl) opn54) (by kernel_rfl) (o := 5) rfl
    (opnF_one (f := ⟨"States", 24, 5, false, "", "", 96⟩) (opn_slice Try.underlying24 (by kernel_rfl) (opn_slice (e := 57) (by kernel_rfl) (by kernel_rfl) opn57)) (by kernel_rfl)))))))
  obtain ⟨⟨name, regs, slots, consts, code, states⟩, hK, hG⟩ := key fuel _ _ hf
  obtain ⟨_, _, e0, rfl, _, _, rfl, ⟨A1, c1, rfl, l1, C1⟩, _, _, rfl, rfl, _, _, rfl, ⟨A3, c3, rfl, l3, C3⟩, _, _, rfl, ⟨A4, c4, rfl, l4, C4⟩, ⟨A5, c5, rfl, l5, C5⟩⟩ := hK
  obtain ⟨-, -, -, -, ⟨g4, -⟩, ⟨g5, g6⟩⟩ := hG
  refine ⟨name, A1, c1, regs, slots, A3, c3, consts, A4, c4, code, A5, c5, states, ?_, C1, l1, C3, l3, C4, l4, C5, l5, g4, g5, fun l hl => (g6 l hl).1⟩
  congr 1
  apply Array.toList_inj.mp
  exact e0
end
set_option maxRecDepth 100000 in
theorem lifted (os : Os) (started : os.Started) (H : Type) (enc : TypeId × Value → H) :
    ReturnsInHanded {} Try.checked os 4 .any (Rows.tableReadsSpec.pre6 enc Try.prog Try.f4 Rows.tableReadsRow.domain false) (Rows.tableReadsSpec.post enc Try.prog Try.f4 false true false false) := by
  refine returnsInHanded_of_change_sized (C := Try.checked) own started (by kernel_rfl) Try.func4
    (ChangeSpec.witness6 (enc := enc) (C := Try.checked) false ⟨#[], #[.agg #[.string .empty, .slice none 0 0, .int .i64 0, .slice none 0 0, .slice none 0 0, .slice none 0 0], .int .i64 0, .int .i64 0], []⟩ 8 (by kernel_rfl) (by kernel_rfl) (by kernel_rfl) (by kernel_rfl)) ?_
  intro W base args ds gs before hval0 hW hcnd hsz0 _
  have hval : ∀ (j : Nat) t v, Try.f4.params[j]? = some t → args[j]? = some v → Value.okWide Try.prog W .any base t v := hval0
  have hW' := hW
  obtain ⟨p, q, hA0, hV, rfl, hfz, hnd⟩ := hW
  have hA : DataW.TrodAll enc Try.prog W 0 (fun _ => true) true Try.f4.params.toList args.toList ds p := hA0
  rw [Try.params4] at hA hval
  obtain ⟨v0, vs0, d0, ds0, p0, q0, hargs, rfl, rfl, h0, r0⟩ := trodAll_cons hA
  obtain ⟨v1, vs1, d1, ds1, p1, q1, rfl, rfl, rfl, h1, r1⟩ := trodAll_cons r0
  obtain ⟨v2, vs2, d2, ds2, p2, q2, rfl, rfl, rfl, h2, r2⟩ := trodAll_cons r1
  obtain ⟨rfl, rfl, rfl⟩ := trodAll_nil r2
  obtain rfl : args = #[v0, v1, v2] := by cases args; simp_all
  obtain ⟨rfl, rfl⟩ := trodVars_none hV
  have k0 := h0
  have lt0 : ∀ x ∈ p0, x.block < W.heap.size := by obtain ⟨m, hm⟩ := k0; exact DataW.trod_lt m _ _ _ hm
  have k1 := h1
  have lt1 : ∀ x ∈ p1, x.block < W.heap.size := by obtain ⟨m, hm⟩ := k1; exact DataW.trod_lt m _ _ _ hm
  have k2 := h2
  have lt2 : ∀ x ∈ p2, x.block < W.heap.size := by obtain ⟨m, hm⟩ := k2; exact DataW.trod_lt m _ _ _ hm
  obtain ⟨a, rfl⟩ := okWide_int Try.underlying3 (hval 1 3 v1 rfl rfl)
  obtain ⟨b, rfl⟩ := okWide_int Try.underlying3 (hval 2 3 v2 rfl rfl)
  obtain ⟨name, A1, c1, regs, slots, A3, c3, consts, A4, c4, code, A5, c5, states, rfl, C1, l1, C3, l3, C4, l4, C5, l5, g4, g5, g6⟩ := openTable (hval 0 26 v0 rfl rfl) h0
  clear hA0 hval0 hsz0
  simp only [maxLen] at g4 g5 g6
  obtain ⟨k, hk⟩ := PureTR.pure name regs slots consts code states a b (by omega) (by omega) (fun l hl => by have := g6 l hl; omega)
  refine (tripwirelaw19_TableReads.calls k name A1 c1 regs slots A3 c3 consts A4 c4 code A5 c5 states a b true W C1 l1 C3 l3 C4 l4 C5 l5 hk).mono fun e W' ⟨he, bel⟩ => ?_
  subst he
  exact ⟨_, rfl, _, _, _, [], _, [], hW', trodAll_mk1 (shut_bool Try.underlying4 _), (trodAll_cons_mk (Below.trod laidOut (by kernel_rfl) (of_decide_eq_true (by kernel_rfl)) k0 bel lt0) (trodAll_cons_mk (Below.trod laidOut (by kernel_rfl) (of_decide_eq_true (by kernel_rfl)) k1 bel lt1) (trodAll_cons_mk (Below.trod laidOut (by kernel_rfl) (of_decide_eq_true (by kernel_rfl)) k2 bel lt2) trodAll_mk0))), rfl, bel.frame _, fun h => by cases h⟩
theorem over : Rows.tableReadsRow.holds Try.pinned (OpenSpec.ofChange Rows.tableReadsSpec) :=
  OpenClaim.holds_of_wide 4 Try.f4 rfl rfl rfl rfl rfl rfl rfl ⟨rfl, rfl, rfl, rfl, rfl⟩ rfl rfl rfl rfl rfl (by kernel_rfl) Try.func4 (by kernel_rfl)
    (of_decide_eq_true (by kernel_rfl)) (by unfold Func.isWrapper; first | (rw [if_pos (by decide +kernel)]; kernel_rfl) | (rw [if_neg (by decide +kernel)]; exact ⟨rfl, rfl⟩))
    (fun os started H enc _ => lifted os started H enc)
theorem proved : Rows.TableReadsSaid := over
#print axioms proved
end Go.Proofs.Ythkkphkeonnnfaa.tableReads
namespace Go.Proofs.Ythkkphkeonnnfaa
/-- The row, under a short name, for the claim. -/
theorem tableReads_holds : Rows.TableReadsSaid := tableReads.proved
end Go.Proofs.Ythkkphkeonnnfaa
