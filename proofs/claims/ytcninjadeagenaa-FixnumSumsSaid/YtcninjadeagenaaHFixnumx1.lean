/- Go functions as Lean functions, each with a proof that the Go code comes to just its answers; a part of the proofs of the laws of the family Fixnum. No condition but those that each theorem names. Written by a program of this session (hprint.py). -/
import Derived.Test.YtcninjadeagenaaHFixnumx0
namespace Go.Proofs.Ytcninjadeagenaa.HFixnum
open Go.RowKit Go.Proofs.YtcninjadeagenaaW.PrintWords Go.Proofs.YtcninjadeagenaaW.PrintLast Go.Proofs.YtcninjadeagenaaW.PrintMore
attribute [local go_sem] max2_int min2_int max_two min_two max_three min_three max_four min_four   -- for this text's walks alone
set_option linter.unusedVariables false
set_option linter.unusedSimpArgs false

/-! ### fixnum_told: function 63 -/
def fixnum_told.f (a0 : Int) (a1 : Bool) : Option (Int × Bool) := if a1 = true then (some (a0, true)) else (some (0, false))
set_option maxHeartbeats 8000000 in
set_option maxRecDepth 100000 in
theorem fixnum_told.calls (a0 : Int) (a1 : Bool) (r1 : Int) (r2 : Bool) (w : World) (h : fixnum_told.f a0 a1 = some (r1, r2)) :
    Calls Try.prog 63 #[.int .i64 a0, .bool a1] w fun e w' => e = .returned (.tuple #[.int .i64 r1, .bool r2]) ∧ Drawn0 w w' := by
  have H : (if a1 = true then (some (a0, true)) else (some (0, false))) = some (r1, r2) := h
  clear h
  by_cases c3 : a1 = true
  · subst c3
    have H1 : (some (a0, true)) = some (r1, r2) := by rw [if_pos rfl] at H; exact H
    clear H
    have H := H1
    clear H1
    simp only [Option.some.injEq, Prod.mk.injEq] at H
    obtain ⟨rfl, rfl⟩ := H
    go_enter Try.func63, Try.ntmps63
    go_wp2
    go_ret2
    exact ⟨by first | rfl | (simp; done) | (simp [*]; done), by repeat (first | exact Drawn0.refl _ | apply Drawn0.step)⟩
  · replace c3 := Bool.eq_false_iff.mpr c3
    subst c3
    have H1 : (some (0, false)) = some (r1, r2) := by rw [if_neg (show ¬ (false = true) by decide)] at H; exact H
    clear H
    have H := H1
    clear H1
    simp only [Option.some.injEq, Prod.mk.injEq] at H
    obtain ⟨rfl, rfl⟩ := H
    go_enter Try.func63, Try.ntmps63
    go_wp2
    go_ret2
    exact ⟨by first | rfl | (simp; done) | (simp [*]; done), by repeat (first | exact Drawn0.refl _ | apply Drawn0.step)⟩

/-! ### fixnum_Add: function 38 -/
def fixnum_Add.f (a0 : Int) (a1 : Int) : Option (Int × Bool) := (fixnum_told.f (wrap64 (a0 + a1)) ((decide ((wrap64 (a0 + a1)) > a0)) == (decide (a1 > 0)))).bind fun bt101 => (some (bt101.1, bt101.2))
set_option maxHeartbeats 8000000 in
set_option maxRecDepth 100000 in
theorem fixnum_Add.calls (a0 : Int) (a1 : Int) (r1 : Int) (r2 : Bool) (w : World) (h : fixnum_Add.f a0 a1 = some (r1, r2)) :
    Calls Try.prog 38 #[.int .i64 a0, .int .i64 a1] w fun e w' => e = .returned (.tuple #[.int .i64 r1, .bool r2]) ∧ Drawn0 w w' := by
  have H : ((fixnum_told.f (wrap64 (a0 + a1)) ((decide ((wrap64 (a0 + a1)) > a0)) == (decide (a1 > 0)))).bind fun bt101 => (some (bt101.1, bt101.2))) = some (r1, r2) := h
  clear h
  replace H := Option.bind_eq_some_iff.mp H
  obtain ⟨⟨t101, t102⟩, A30, H⟩ := H
  replace H : (some (t101, t102)) = some (r1, r2) := H
  have A3 := Aside0.mk A30
  clear A30
  simp only [Option.some.injEq, Prod.mk.injEq] at H
  obtain ⟨rfl, rfl⟩ := H
  go_enter Try.func38, Try.ntmps38
  go_wp2_with (first | ((with_reducible refine gate_callee (f := 63) rfl ?_); refine goesL_ (some 17) rfl rfl Try.func63 (by kernel_rfl) rfl #[.int .i64 (wrap64 (a0 + a1)), .bool ((decide ((wrap64 (a0 + a1)) > a0)) == (decide (a1 > 0)))] rfl (by (try simp only [List.map_toArray, List.map_cons, List.map_nil]); first | done | rfl | (simp only [List.length_drop, List.length_take]; rfl)) ?_; (with_reducible refine (fixnum_told.calls (wrap64 (a0 + a1)) ((decide ((wrap64 (a0 + a1)) > a0)) == (decide (a1 > 0))) t101 t102 _ A3.out).mono ?_); rintro e w' ⟨rfl, ⟨nd, rfl⟩⟩; refine ⟨_, rfl, ?_⟩))
  go_ret2
  exact ⟨by first | rfl | (simp; done) | (simp [*]; done), by repeat (first | exact Drawn0.refl _ | apply Drawn0.step)⟩

/-! ### fixnum_Sub: function 40 -/
def fixnum_Sub.f (a0 : Int) (a1 : Int) : Option (Int × Bool) := (fixnum_told.f (wrap64 (a0 - a1)) ((decide ((wrap64 (a0 - a1)) < a0)) == (decide (a1 > 0)))).bind fun bt103 => (some (bt103.1, bt103.2))
set_option maxHeartbeats 8000000 in
set_option maxRecDepth 100000 in
theorem fixnum_Sub.calls (a0 : Int) (a1 : Int) (r1 : Int) (r2 : Bool) (w : World) (h : fixnum_Sub.f a0 a1 = some (r1, r2)) :
    Calls Try.prog 40 #[.int .i64 a0, .int .i64 a1] w fun e w' => e = .returned (.tuple #[.int .i64 r1, .bool r2]) ∧ Drawn0 w w' := by
  have H : ((fixnum_told.f (wrap64 (a0 - a1)) ((decide ((wrap64 (a0 - a1)) < a0)) == (decide (a1 > 0)))).bind fun bt103 => (some (bt103.1, bt103.2))) = some (r1, r2) := h
  clear h
  replace H := Option.bind_eq_some_iff.mp H
  obtain ⟨⟨t103, t104⟩, A30, H⟩ := H
  replace H : (some (t103, t104)) = some (r1, r2) := H
  have A3 := Aside0.mk A30
  clear A30
  simp only [Option.some.injEq, Prod.mk.injEq] at H
  obtain ⟨rfl, rfl⟩ := H
  go_enter Try.func40, Try.ntmps40
  go_wp2_with (first | ((with_reducible refine gate_callee (f := 63) rfl ?_); refine goesL_ (some 17) rfl rfl Try.func63 (by kernel_rfl) rfl #[.int .i64 (wrap64 (a0 - a1)), .bool ((decide ((wrap64 (a0 - a1)) < a0)) == (decide (a1 > 0)))] rfl (by (try simp only [List.map_toArray, List.map_cons, List.map_nil]); first | done | rfl | (simp only [List.length_drop, List.length_take]; rfl)) ?_; (with_reducible refine (fixnum_told.calls (wrap64 (a0 - a1)) ((decide ((wrap64 (a0 - a1)) < a0)) == (decide (a1 > 0))) t103 t104 _ A3.out).mono ?_); rintro e w' ⟨rfl, ⟨nd, rfl⟩⟩; refine ⟨_, rfl, ?_⟩))
  go_ret2
  exact ⟨by first | rfl | (simp; done) | (simp [*]; done), by repeat (first | exact Drawn0.refl _ | apply Drawn0.step)⟩

/-! ### bits_Mul64: function 64 -/
def bits_Mul64.f (a0 : Int) (a1 : Int) : Option (Int × Int) := some (IntKind.u64.wrap ((IntKind.u64.wrap ((IntKind.u64.wrap ((a0 / 4294967296) * (a1 / 4294967296))) + ((IntKind.u64.wrap ((IntKind.u64.wrap ((a0 / 4294967296) * (Go.bits .and .u64 a1 4294967295))) + ((IntKind.u64.wrap ((Go.bits .and .u64 a0 4294967295) * (Go.bits .and .u64 a1 4294967295))) / 4294967296))) / 4294967296))) + ((IntKind.u64.wrap ((Go.bits .and .u64 (IntKind.u64.wrap ((IntKind.u64.wrap ((a0 / 4294967296) * (Go.bits .and .u64 a1 4294967295))) + ((IntKind.u64.wrap ((Go.bits .and .u64 a0 4294967295) * (Go.bits .and .u64 a1 4294967295))) / 4294967296))) 4294967295) + (IntKind.u64.wrap ((Go.bits .and .u64 a0 4294967295) * (a1 / 4294967296))))) / 4294967296)), IntKind.u64.wrap (a0 * a1))
set_option maxHeartbeats 8000000 in
set_option maxRecDepth 100000 in
theorem bits_Mul64.calls (a0 : Int) (a1 : Int) (r1 : Int) (r2 : Int) (w : World) (h : bits_Mul64.f a0 a1 = some (r1, r2)) :
    Calls Try.prog 64 #[.int .u64 a0, .int .u64 a1] w fun e w' => e = .returned (.tuple #[.int .u64 r1, .int .u64 r2]) ∧ Drawn0 w w' := by
  have H : (some (IntKind.u64.wrap ((IntKind.u64.wrap ((IntKind.u64.wrap ((a0 / 4294967296) * (a1 / 4294967296))) + ((IntKind.u64.wrap ((IntKind.u64.wrap ((a0 / 4294967296) * (Go.bits .and .u64 a1 4294967295))) + ((IntKind.u64.wrap ((Go.bits .and .u64 a0 4294967295) * (Go.bits .and .u64 a1 4294967295))) / 4294967296))) / 4294967296))) + ((IntKind.u64.wrap ((Go.bits .and .u64 (IntKind.u64.wrap ((IntKind.u64.wrap ((a0 / 4294967296) * (Go.bits .and .u64 a1 4294967295))) + ((IntKind.u64.wrap ((Go.bits .and .u64 a0 4294967295) * (Go.bits .and .u64 a1 4294967295))) / 4294967296))) 4294967295) + (IntKind.u64.wrap ((Go.bits .and .u64 a0 4294967295) * (a1 / 4294967296))))) / 4294967296)), IntKind.u64.wrap (a0 * a1))) = some (r1, r2) := h
  clear h
  simp only [Option.some.injEq, Prod.mk.injEq] at H
  obtain ⟨rfl, rfl⟩ := H
  go_enter Try.func64, Try.ntmps64
  go_wp2
  go_ret2
  exact ⟨by first | rfl | (simp; done) | (simp [*]; done), by repeat (first | exact Drawn0.refl _ | apply Drawn0.step)⟩

/-! ### fixnum_size: function 65 -/
def fixnum_size.f (a0 : Int) : Option (Int) := if a0 < 0 then (some (IntKind.u64.wrap (-(IntKind.u64.wrap (a0))))) else (some (IntKind.u64.wrap (a0)))
set_option maxHeartbeats 8000000 in
set_option maxRecDepth 100000 in
theorem fixnum_size.calls (a0 : Int) (r : Int) (w : World) (h : fixnum_size.f a0 = some r) :
    Calls Try.prog 65 #[.int .i64 a0] w fun e w' => e = .returned (.int .u64 r) ∧ Drawn0 w w' := by
  have H : (if a0 < 0 then (some (IntKind.u64.wrap (-(IntKind.u64.wrap (a0))))) else (some (IntKind.u64.wrap (a0)))) = some r := h
  clear h
  by_cases c2 : a0 < 0
  · rw [if_pos c2] at H
    have c2b0 : decide (a0 < 0) = true := decide_eq_true c2
    clear c2
    obtain rfl := Option.some.inj H
    go_enter Try.func65, Try.ntmps65
    go_wp2
    go_ret
    exact ⟨by first | rfl | (simp; done) | (simp [*]; done), by repeat (first | exact Drawn0.refl _ | apply Drawn0.step)⟩
  · rw [if_neg c2] at H
    have c2b0 : decide (a0 < 0) = false := decide_eq_false c2
    clear c2
    obtain rfl := Option.some.inj H
    go_enter Try.func65, Try.ntmps65
    go_wp2
    go_ret
    exact ⟨by first | rfl | (simp; done) | (simp [*]; done), by repeat (first | exact Drawn0.refl _ | apply Drawn0.step)⟩

/-! ### fixnum_signed: function 66 -/
def fixnum_signed.f (a0 : Int) (a1 : Bool) : Option (Int × Bool) := if a1 = true then ((fixnum_told.f (wrap64 (-(wrap64 (a0)))) (decide (a0 ≤ 9223372036854775808))).bind fun bt105 => (some (bt105.1, bt105.2))) else ((fixnum_told.f (wrap64 (a0)) (decide (a0 ≤ 9223372036854775807))).bind fun bt107 => (some (bt107.1, bt107.2)))
set_option maxHeartbeats 8000000 in
set_option maxRecDepth 100000 in
theorem fixnum_signed.calls (a0 : Int) (a1 : Bool) (r1 : Int) (r2 : Bool) (w : World) (h : fixnum_signed.f a0 a1 = some (r1, r2)) :
    Calls Try.prog 66 #[.int .u64 a0, .bool a1] w fun e w' => e = .returned (.tuple #[.int .i64 r1, .bool r2]) ∧ Drawn0 w w' := by
  have H : (if a1 = true then ((fixnum_told.f (wrap64 (-(wrap64 (a0)))) (decide (a0 ≤ 9223372036854775808))).bind fun bt105 => (some (bt105.1, bt105.2))) else ((fixnum_told.f (wrap64 (a0)) (decide (a0 ≤ 9223372036854775807))).bind fun bt107 => (some (bt107.1, bt107.2)))) = some (r1, r2) := h
  clear h
  by_cases c3 : a1 = true
  · subst c3
    have H1 : ((fixnum_told.f (wrap64 (-(wrap64 (a0)))) (decide (a0 ≤ 9223372036854775808))).bind fun bt105 => (some (bt105.1, bt105.2))) = some (r1, r2) := by rw [if_pos rfl] at H; exact H
    clear H
    have H := H1
    clear H1
    replace H := Option.bind_eq_some_iff.mp H
    obtain ⟨⟨t105, t106⟩, A40, H⟩ := H
    replace H : (some (t105, t106)) = some (r1, r2) := H
    have A4 := Aside0.mk A40
    clear A40
    simp only [Option.some.injEq, Prod.mk.injEq] at H
    obtain ⟨rfl, rfl⟩ := H
    go_enter Try.func66, Try.ntmps66
    go_wp2_with (first | ((with_reducible refine gate_callee (f := 63) rfl ?_); refine goesL_ (some 12) rfl rfl Try.func63 (by kernel_rfl) rfl #[.int .i64 (wrap64 (-(wrap64 (a0)))), .bool (decide (a0 ≤ 9223372036854775808))] rfl (by (try simp only [List.map_toArray, List.map_cons, List.map_nil]); first | done | rfl | (simp only [List.length_drop, List.length_take]; rfl)) ?_; (with_reducible refine (fixnum_told.calls (wrap64 (-(wrap64 (a0)))) (decide (a0 ≤ 9223372036854775808)) t105 t106 _ A4.out).mono ?_); rintro e w' ⟨rfl, ⟨nd, rfl⟩⟩; refine ⟨_, rfl, ?_⟩))
    go_ret2
    exact ⟨by first | rfl | (simp; done) | (simp [*]; done), by repeat (first | exact Drawn0.refl _ | apply Drawn0.step)⟩
  · replace c3 := Bool.eq_false_iff.mpr c3
    subst c3
    have H1 : ((fixnum_told.f (wrap64 (a0)) (decide (a0 ≤ 9223372036854775807))).bind fun bt107 => (some (bt107.1, bt107.2))) = some (r1, r2) := by rw [if_neg (show ¬ (false = true) by decide)] at H; exact H
    clear H
    have H := H1
    clear H1
    replace H := Option.bind_eq_some_iff.mp H
    obtain ⟨⟨t107, t108⟩, A50, H⟩ := H
    replace H : (some (t107, t108)) = some (r1, r2) := H
    have A5 := Aside0.mk A50
    clear A50
    simp only [Option.some.injEq, Prod.mk.injEq] at H
    obtain ⟨rfl, rfl⟩ := H
    go_enter Try.func66, Try.ntmps66
    go_wp2_with (first | ((with_reducible refine gate_callee (f := 63) rfl ?_); refine goesL_ (some 19) rfl rfl Try.func63 (by kernel_rfl) rfl #[.int .i64 (wrap64 (a0)), .bool (decide (a0 ≤ 9223372036854775807))] rfl (by (try simp only [List.map_toArray, List.map_cons, List.map_nil]); first | done | rfl | (simp only [List.length_drop, List.length_take]; rfl)) ?_; (with_reducible refine (fixnum_told.calls (wrap64 (a0)) (decide (a0 ≤ 9223372036854775807)) t107 t108 _ A5.out).mono ?_); rintro e w' ⟨rfl, ⟨nd, rfl⟩⟩; refine ⟨_, rfl, ?_⟩))
    go_ret2
    exact ⟨by first | rfl | (simp; done) | (simp [*]; done), by repeat (first | exact Drawn0.refl _ | apply Drawn0.step)⟩

/-! ### fixnum_Mul: function 42 -/
def fixnum_Mul.f (a0 : Int) (a1 : Int) : Option (Int × Bool) := (fixnum_size.f a0).bind fun t109 => ((fixnum_size.f a1).bind fun t110 => ((bits_Mul64.f t109 t110).bind fun bt111 => (if bt111.1 = 0 then ((fixnum_signed.f bt111.2 ((decide (a0 < 0)) != (decide (a1 < 0)))).bind fun bt113 => (some (bt113.1, bt113.2))) else (some (0, false)))))
set_option maxHeartbeats 8000000 in
set_option maxRecDepth 100000 in
theorem fixnum_Mul.calls (a0 : Int) (a1 : Int) (r1 : Int) (r2 : Bool) (w : World) (h : fixnum_Mul.f a0 a1 = some (r1, r2)) :
    Calls Try.prog 42 #[.int .i64 a0, .int .i64 a1] w fun e w' => e = .returned (.tuple #[.int .i64 r1, .bool r2]) ∧ Drawn0 w w' := by
  have H : ((fixnum_size.f a0).bind fun t109 => ((fixnum_size.f a1).bind fun t110 => ((bits_Mul64.f t109 t110).bind fun bt111 => (if bt111.1 = 0 then ((fixnum_signed.f bt111.2 ((decide (a0 < 0)) != (decide (a1 < 0)))).bind fun bt113 => (some (bt113.1, bt113.2))) else (some (0, false)))))) = some (r1, r2) := h
  clear h
  replace H := Option.bind_eq_some_iff.mp H
  obtain ⟨t109, A30, H⟩ := H
  replace H : ((fixnum_size.f a1).bind fun t110 => ((bits_Mul64.f t109 t110).bind fun bt111 => (if bt111.1 = 0 then ((fixnum_signed.f bt111.2 ((decide (a0 < 0)) != (decide (a1 < 0)))).bind fun bt113 => (some (bt113.1, bt113.2))) else (some (0, false))))) = some (r1, r2) := H
  have A3 := Aside0.mk A30
  clear A30
  replace H := Option.bind_eq_some_iff.mp H
  obtain ⟨t110, A40, H⟩ := H
  replace H : ((bits_Mul64.f t109 t110).bind fun bt111 => (if bt111.1 = 0 then ((fixnum_signed.f bt111.2 ((decide (a0 < 0)) != (decide (a1 < 0)))).bind fun bt113 => (some (bt113.1, bt113.2))) else (some (0, false)))) = some (r1, r2) := H
  have A4 := Aside0.mk A40
  clear A40
  replace H := Option.bind_eq_some_iff.mp H
  obtain ⟨⟨t111, t112⟩, A50, H⟩ := H
  replace H : (if t111 = 0 then ((fixnum_signed.f t112 ((decide (a0 < 0)) != (decide (a1 < 0)))).bind fun bt113 => (some (bt113.1, bt113.2))) else (some (0, false))) = some (r1, r2) := H
  have A5 := Aside0.mk A50
  clear A50
  by_cases c6 : t111 = 0
  · rw [if_pos c6] at H
    have c6b0 : (t111 == 0) = true := beq_iff_eq.mpr c6
    have c6b1 : (t111 != 0) = false := bne_eq_false_iff_eq.mpr c6
    clear c6
    replace H := Option.bind_eq_some_iff.mp H
    obtain ⟨⟨t113, t114⟩, A70, H⟩ := H
    replace H : (some (t113, t114)) = some (r1, r2) := H
    have A7 := Aside0.mk A70
    clear A70
    simp only [Option.some.injEq, Prod.mk.injEq] at H
    obtain ⟨rfl, rfl⟩ := H
    go_enter Try.func42, Try.ntmps42
    go_wp2_with (first | ((with_reducible refine gate_callee (f := 65) rfl ?_); refine goesL_ (some 10) rfl rfl Try.func65 (by kernel_rfl) rfl #[.int .i64 a0] rfl (by (try simp only [List.map_toArray, List.map_cons, List.map_nil]); first | done | rfl | (simp only [List.length_drop, List.length_take]; rfl)) ?_; (with_reducible refine (fixnum_size.calls a0 t109 _ A3.out).mono ?_); rintro e w' ⟨rfl, ⟨nd, rfl⟩⟩; refine ⟨_, rfl, ?_⟩) | ((with_reducible refine gate_callee (f := 65) rfl ?_); refine goesL_ (some 12) rfl rfl Try.func65 (by kernel_rfl) rfl #[.int .i64 a1] rfl (by (try simp only [List.map_toArray, List.map_cons, List.map_nil]); first | done | rfl | (simp only [List.length_drop, List.length_take]; rfl)) ?_; (with_reducible refine (fixnum_size.calls a1 t110 _ A4.out).mono ?_); rintro e w' ⟨rfl, ⟨nd, rfl⟩⟩; refine ⟨_, rfl, ?_⟩) | ((with_reducible refine gate_callee (f := 64) rfl ?_); refine goesL_ (some 13) rfl rfl Try.func64 (by kernel_rfl) rfl #[.int .u64 t109, .int .u64 t110] rfl (by (try simp only [List.map_toArray, List.map_cons, List.map_nil]); first | done | rfl | (simp only [List.length_drop, List.length_take]; rfl)) ?_; (with_reducible refine (bits_Mul64.calls t109 t110 t111 t112 _ A5.out).mono ?_); rintro e w' ⟨rfl, ⟨nd, rfl⟩⟩; refine ⟨_, rfl, ?_⟩) | ((with_reducible refine gate_callee (f := 66) rfl ?_); refine goesL_ (some 24) rfl rfl Try.func66 (by kernel_rfl) rfl #[.int .u64 t112, .bool ((decide (a0 < 0)) != (decide (a1 < 0)))] rfl (by (try simp only [List.map_toArray, List.map_cons, List.map_nil]); first | done | rfl | (simp only [List.length_drop, List.length_take]; rfl)) ?_; (with_reducible refine (fixnum_signed.calls t112 ((decide (a0 < 0)) != (decide (a1 < 0))) t113 t114 _ A7.out).mono ?_); rintro e w' ⟨rfl, ⟨nd, rfl⟩⟩; refine ⟨_, rfl, ?_⟩))
    go_ret2
    exact ⟨by first | rfl | (simp; done) | (simp [*]; done), by repeat (first | exact Drawn0.refl _ | apply Drawn0.step)⟩
  · rw [if_neg c6] at H
    have c6b0 : (t111 == 0) = false := beq_eq_false_iff_ne.mpr c6
    have c6b1 : (t111 != 0) = true := bne_iff_ne.mpr c6
    simp only [Option.some.injEq, Prod.mk.injEq] at H
    obtain ⟨rfl, rfl⟩ := H
    go_enter Try.func42, Try.ntmps42
    go_wp2_with (first | ((with_reducible refine gate_callee (f := 65) rfl ?_); refine goesL_ (some 10) rfl rfl Try.func65 (by kernel_rfl) rfl #[.int .i64 a0] rfl (by (try simp only [List.map_toArray, List.map_cons, List.map_nil]); first | done | rfl | (simp only [List.length_drop, List.length_take]; rfl)) ?_; (with_reducible refine (fixnum_size.calls a0 t109 _ A3.out).mono ?_); rintro e w' ⟨rfl, ⟨nd, rfl⟩⟩; refine ⟨_, rfl, ?_⟩) | ((with_reducible refine gate_callee (f := 65) rfl ?_); refine goesL_ (some 12) rfl rfl Try.func65 (by kernel_rfl) rfl #[.int .i64 a1] rfl (by (try simp only [List.map_toArray, List.map_cons, List.map_nil]); first | done | rfl | (simp only [List.length_drop, List.length_take]; rfl)) ?_; (with_reducible refine (fixnum_size.calls a1 t110 _ A4.out).mono ?_); rintro e w' ⟨rfl, ⟨nd, rfl⟩⟩; refine ⟨_, rfl, ?_⟩) | ((with_reducible refine gate_callee (f := 64) rfl ?_); refine goesL_ (some 13) rfl rfl Try.func64 (by kernel_rfl) rfl #[.int .u64 t109, .int .u64 t110] rfl (by (try simp only [List.map_toArray, List.map_cons, List.map_nil]); first | done | rfl | (simp only [List.length_drop, List.length_take]; rfl)) ?_; (with_reducible refine (bits_Mul64.calls t109 t110 t111 t112 _ A5.out).mono ?_); rintro e w' ⟨rfl, ⟨nd, rfl⟩⟩; refine ⟨_, rfl, ?_⟩))
    go_ret2
    exact ⟨by first | rfl | (simp; done) | (simp [*]; done), by repeat (first | exact Drawn0.refl _ | apply Drawn0.step)⟩

/-! ### fixnum_Div: function 44 -/
def fixnum_Div.f (a0 : Int) (a1 : Int) : Option (Int × Bool) := if a1 = 0 then (some (0, false)) else (if a0 = (-9223372036854775808) then (if a1 = (-1) then (some (0, false)) else (some (wrap64 (Int.tdiv a0 a1), true))) else (some (wrap64 (Int.tdiv a0 a1), true)))
set_option maxHeartbeats 8000000 in
set_option maxRecDepth 100000 in
theorem fixnum_Div.calls (a0 : Int) (a1 : Int) (r1 : Int) (r2 : Bool) (w : World) (h : fixnum_Div.f a0 a1 = some (r1, r2)) :
    Calls Try.prog 44 #[.int .i64 a0, .int .i64 a1] w fun e w' => e = .returned (.tuple #[.int .i64 r1, .bool r2]) ∧ Drawn0 w w' := by
  have H : (if a1 = 0 then (some (0, false)) else (if a0 = (-9223372036854775808) then (if a1 = (-1) then (some (0, false)) else (some (wrap64 (Int.tdiv a0 a1), true))) else (some (wrap64 (Int.tdiv a0 a1), true)))) = some (r1, r2) := h
  clear h
  by_cases c3 : a1 = 0
  · rw [if_pos c3] at H
    have c3b0 : (a1 == 0) = true := beq_iff_eq.mpr c3
    have c3b1 : (a1 != 0) = false := bne_eq_false_iff_eq.mpr c3
    clear c3
    simp only [Option.some.injEq, Prod.mk.injEq] at H
    obtain ⟨rfl, rfl⟩ := H
    go_enter Try.func44, Try.ntmps44
    go_wp2
    go_ret2
    exact ⟨by first | rfl | (simp; done) | (simp [*]; done), by repeat (first | exact Drawn0.refl _ | apply Drawn0.step)⟩
  · rw [if_neg c3] at H
    have c3b0 : (a1 == 0) = false := beq_eq_false_iff_ne.mpr c3
    have c3b1 : (a1 != 0) = true := bne_iff_ne.mpr c3
    by_cases c4 : a0 = (-9223372036854775808)
    · rw [if_pos c4] at H
      have c4b0 : (a0 == (-9223372036854775808)) = true := beq_iff_eq.mpr c4
      have c4b1 : (a0 != (-9223372036854775808)) = false := bne_eq_false_iff_eq.mpr c4
      clear c4
      by_cases c5 : a1 = (-1)
      · rw [if_pos c5] at H
        have c5b0 : (a1 == (-1)) = true := beq_iff_eq.mpr c5
        have c5b1 : (a1 != (-1)) = false := bne_eq_false_iff_eq.mpr c5
        clear c5
        simp only [Option.some.injEq, Prod.mk.injEq] at H
        obtain ⟨rfl, rfl⟩ := H
        go_enter Try.func44, Try.ntmps44
        go_wp2
        go_ret2
        exact ⟨by first | rfl | (simp; done) | (simp [*]; done), by repeat (first | exact Drawn0.refl _ | apply Drawn0.step)⟩
      · rw [if_neg c5] at H
        have c5b0 : (a1 == (-1)) = false := beq_eq_false_iff_ne.mpr c5
        have c5b1 : (a1 != (-1)) = true := bne_iff_ne.mpr c5
        simp only [Option.some.injEq, Prod.mk.injEq] at H
        obtain ⟨rfl, rfl⟩ := H
        go_enter Try.func44, Try.ntmps44
        go_wp2
        go_ret2
        exact ⟨by first | rfl | (simp; done) | (simp [*]; done), by repeat (first | exact Drawn0.refl _ | apply Drawn0.step)⟩
    · rw [if_neg c4] at H
      have c4b0 : (a0 == (-9223372036854775808)) = false := beq_eq_false_iff_ne.mpr c4
      have c4b1 : (a0 != (-9223372036854775808)) = true := bne_iff_ne.mpr c4
      simp only [Option.some.injEq, Prod.mk.injEq] at H
      obtain ⟨rfl, rfl⟩ := H
      go_enter Try.func44, Try.ntmps44
      go_wp2
      go_ret2
      exact ⟨by first | rfl | (simp; done) | (simp [*]; done), by repeat (first | exact Drawn0.refl _ | apply Drawn0.step)⟩

/-! ### fixnum_Mod: function 46 -/
def fixnum_Mod.f (a0 : Int) (a1 : Int) : Option (Int × Bool) := if a1 = 0 then (some (0, false)) else (some (Int.tmod a0 a1, true))
set_option maxHeartbeats 8000000 in
set_option maxRecDepth 100000 in
theorem fixnum_Mod.calls (a0 : Int) (a1 : Int) (r1 : Int) (r2 : Bool) (w : World) (h : fixnum_Mod.f a0 a1 = some (r1, r2)) :
    Calls Try.prog 46 #[.int .i64 a0, .int .i64 a1] w fun e w' => e = .returned (.tuple #[.int .i64 r1, .bool r2]) ∧ Drawn0 w w' := by
  have H : (if a1 = 0 then (some (0, false)) else (some (Int.tmod a0 a1, true))) = some (r1, r2) := h
  clear h
  by_cases c3 : a1 = 0
  · rw [if_pos c3] at H
    have c3b0 : (a1 == 0) = true := beq_iff_eq.mpr c3
    have c3b1 : (a1 != 0) = false := bne_eq_false_iff_eq.mpr c3
    clear c3
    simp only [Option.some.injEq, Prod.mk.injEq] at H
    obtain ⟨rfl, rfl⟩ := H
    go_enter Try.func46, Try.ntmps46
    go_wp2
    go_ret2
    exact ⟨by first | rfl | (simp; done) | (simp [*]; done), by repeat (first | exact Drawn0.refl _ | apply Drawn0.step)⟩
  · rw [if_neg c3] at H
    have c3b0 : (a1 == 0) = false := beq_eq_false_iff_ne.mpr c3
    have c3b1 : (a1 != 0) = true := bne_iff_ne.mpr c3
    simp only [Option.some.injEq, Prod.mk.injEq] at H
    obtain ⟨rfl, rfl⟩ := H
    go_enter Try.func46, Try.ntmps46
    go_wp2
    go_ret2
    exact ⟨by first | rfl | (simp; done) | (simp [*]; done), by repeat (first | exact Drawn0.refl _ | apply Drawn0.step)⟩

/-! ### fixnum_Neg: function 48 -/
def fixnum_Neg.f (a0 : Int) : Option (Int × Bool) := (fixnum_told.f (wrap64 (-a0)) (a0 != (-9223372036854775808))).bind fun bt115 => (some (bt115.1, bt115.2))
set_option maxHeartbeats 8000000 in
set_option maxRecDepth 100000 in
theorem fixnum_Neg.calls (a0 : Int) (r1 : Int) (r2 : Bool) (w : World) (h : fixnum_Neg.f a0 = some (r1, r2)) :
    Calls Try.prog 48 #[.int .i64 a0] w fun e w' => e = .returned (.tuple #[.int .i64 r1, .bool r2]) ∧ Drawn0 w w' := by
  have H : ((fixnum_told.f (wrap64 (-a0)) (a0 != (-9223372036854775808))).bind fun bt115 => (some (bt115.1, bt115.2))) = some (r1, r2) := h
  clear h
  replace H := Option.bind_eq_some_iff.mp H
  obtain ⟨⟨t115, t116⟩, A20, H⟩ := H
  replace H : (some (t115, t116)) = some (r1, r2) := H
  have A2 := Aside0.mk A20
  clear A20
  simp only [Option.some.injEq, Prod.mk.injEq] at H
  obtain ⟨rfl, rfl⟩ := H
  go_enter Try.func48, Try.ntmps48
  go_wp2_with (first | ((with_reducible refine gate_callee (f := 63) rfl ?_); refine goesL_ (some 8) rfl rfl Try.func63 (by kernel_rfl) rfl #[.int .i64 (wrap64 (-a0)), .bool (a0 != (-9223372036854775808))] rfl (by (try simp only [List.map_toArray, List.map_cons, List.map_nil]); first | done | rfl | (simp only [List.length_drop, List.length_take]; rfl)) ?_; (with_reducible refine (fixnum_told.calls (wrap64 (-a0)) (a0 != (-9223372036854775808)) t115 t116 _ A2.out).mono ?_); rintro e w' ⟨rfl, ⟨nd, rfl⟩⟩; refine ⟨_, rfl, ?_⟩))
  go_ret2
  exact ⟨by first | rfl | (simp; done) | (simp [*]; done), by repeat (first | exact Drawn0.refl _ | apply Drawn0.step)⟩

/-! ### bits_Len64: function 61 -/
def bits_Len64.f (a0 : Int) : Option Int := if 0 ≤ a0 then (if a0 ≤ 18446744073709551615 then some (Lib.bitLen a0.toNat : Int) else none) else none
theorem len8_get (i : Int) (h0 : 0 ≤ i) (h : i.toNat < Lib.len8tab.size) : (((Lib.len8tab[i.toNat]'h).toNat : Nat) : Int) = (Lib.bitLen i.toNat : Int) := by
  have h2 := h
  rw [Lib.len8tab_size] at h2
  rw [← Lib.len8_of i h0 (by omega)]
  simp only [Lib.len8, ByteArray.getElem?_lt' _ _ h, Option.getD_some]
set_option maxRecDepth 100000 in
theorem len64_56 (a0 : Int) (w : World) (h0 : 0 ≤ a0) (h1 : a0 ≤ 18446744073709551615) (t1 : 4294967296 ≤ a0) (t2 : 65536 ≤ a0 / 4294967296) (t3 : 256 ≤ a0 / 4294967296 / 65536) :
    Calls Try.prog 61 #[.int .u64 a0] w fun e w' => e = .returned (.int .i64 (Lib.bitLen a0.toNat)) ∧ Drawn0 w w' := by
  have hx0 : 0 ≤ a0 / 4294967296 / 65536 / 256 := by omega
  have hx1 : a0 / 4294967296 / 65536 / 256 ≤ 255 := by omega
  have hv : (56 : Int) + Lib.bitLen (a0 / 4294967296 / 65536 / 256).toNat = Lib.bitLen a0.toNat ∧ Lib.bitLen (a0 / 4294967296 / 65536 / 256).toNat ≤ 8 := by
    have l_ := Lib.bitLen_le8' (a0 / 4294967296 / 65536 / 256) hx0 hx1
    have s_ := Lib.bitLen_shift56 a0.toNat (by omega) (by omega)
    have e_ : (a0 / 4294967296 / 65536 / 256).toNat = a0.toNat / 72057594037927936 := by omega
    rw [e_] at l_ ⊢
    omega
  have HV := Aside0.mk hv
  clear hv hx0 hx1
  go_enter Try.func61, Try.ntmps61
  go_wp2
  · go_ret
    refine ⟨congrArg Ending.returned (congrArg (Value.int IntKind.i64) ?_), Drawn0.refl _⟩
    have hv := HV.out
    rw [len8_get (a0 / 4294967296 / 65536 / 256) (by omega) (by rw [Lib.len8tab_size]; omega)]
    unfold wrap64
    omega
  all_goals
    exfalso
    rename_i hq
    rw [Lib.len8tab_size] at hq
    omega
set_option maxRecDepth 100000 in
theorem len64_48 (a0 : Int) (w : World) (h0 : 0 ≤ a0) (h1 : a0 ≤ 18446744073709551615) (t1 : 4294967296 ≤ a0) (t2 : 65536 ≤ a0 / 4294967296) (t3 : a0 / 4294967296 / 65536 < 256) :
    Calls Try.prog 61 #[.int .u64 a0] w fun e w' => e = .returned (.int .i64 (Lib.bitLen a0.toNat)) ∧ Drawn0 w w' := by
  have hx0 : 0 ≤ a0 / 4294967296 / 65536 := by omega
  have hx1 : a0 / 4294967296 / 65536 ≤ 255 := by omega
  have hv : (48 : Int) + Lib.bitLen (a0 / 4294967296 / 65536).toNat = Lib.bitLen a0.toNat ∧ Lib.bitLen (a0 / 4294967296 / 65536).toNat ≤ 8 := by
    have l_ := Lib.bitLen_le8' (a0 / 4294967296 / 65536) hx0 hx1
    have s_ := Lib.bitLen_shift48 a0.toNat (by omega) (by omega)
    have e_ : (a0 / 4294967296 / 65536).toNat = a0.toNat / 281474976710656 := by omega
    rw [e_] at l_ ⊢
    omega
  have HV := Aside0.mk hv
  clear hv hx0 hx1
  go_enter Try.func61, Try.ntmps61
  go_wp2
  · go_ret
    refine ⟨congrArg Ending.returned (congrArg (Value.int IntKind.i64) ?_), Drawn0.refl _⟩
    have hv := HV.out
    rw [len8_get (a0 / 4294967296 / 65536) (by omega) (by rw [Lib.len8tab_size]; omega)]
    unfold wrap64
    omega
  all_goals
    exfalso
    rename_i hq
    rw [Lib.len8tab_size] at hq
    omega
set_option maxRecDepth 100000 in
theorem len64_40 (a0 : Int) (w : World) (h0 : 0 ≤ a0) (h1 : a0 ≤ 18446744073709551615) (t1 : 4294967296 ≤ a0) (t2 : a0 / 4294967296 < 65536) (t3 : 256 ≤ a0 / 4294967296) :
    Calls Try.prog 61 #[.int .u64 a0] w fun e w' => e = .returned (.int .i64 (Lib.bitLen a0.toNat)) ∧ Drawn0 w w' := by
  have hx0 : 0 ≤ a0 / 4294967296 / 256 := by omega
  have hx1 : a0 / 4294967296 / 256 ≤ 255 := by omega
  have hv : (40 : Int) + Lib.bitLen (a0 / 4294967296 / 256).toNat = Lib.bitLen a0.toNat ∧ Lib.bitLen (a0 / 4294967296 / 256).toNat ≤ 8 := by
    have l_ := Lib.bitLen_le8' (a0 / 4294967296 / 256) hx0 hx1
    have s_ := Lib.bitLen_shift40 a0.toNat (by omega) (by omega)
    have e_ : (a0 / 4294967296 / 256).toNat = a0.toNat / 1099511627776 := by omega
    rw [e_] at l_ ⊢
    omega
  have HV := Aside0.mk hv
  clear hv hx0 hx1
  go_enter Try.func61, Try.ntmps61
  go_wp2
  · go_ret
    refine ⟨congrArg Ending.returned (congrArg (Value.int IntKind.i64) ?_), Drawn0.refl _⟩
    have hv := HV.out
    rw [len8_get (a0 / 4294967296 / 256) (by omega) (by rw [Lib.len8tab_size]; omega)]
    unfold wrap64
    omega
  all_goals
    exfalso
    rename_i hq
    rw [Lib.len8tab_size] at hq
    omega
set_option maxRecDepth 100000 in
theorem len64_32 (a0 : Int) (w : World) (h0 : 0 ≤ a0) (h1 : a0 ≤ 18446744073709551615) (t1 : 4294967296 ≤ a0) (t2 : a0 / 4294967296 < 65536) (t3 : a0 / 4294967296 < 256) :
    Calls Try.prog 61 #[.int .u64 a0] w fun e w' => e = .returned (.int .i64 (Lib.bitLen a0.toNat)) ∧ Drawn0 w w' := by
  have hx0 : 0 ≤ a0 / 4294967296 := by omega
  have hx1 : a0 / 4294967296 ≤ 255 := by omega
  have hv : (32 : Int) + Lib.bitLen (a0 / 4294967296).toNat = Lib.bitLen a0.toNat ∧ Lib.bitLen (a0 / 4294967296).toNat ≤ 8 := by
    have l_ := Lib.bitLen_le8' (a0 / 4294967296) hx0 hx1
    have s_ := Lib.bitLen_shift32 a0.toNat (by omega) (by omega)
    have e_ : (a0 / 4294967296).toNat = a0.toNat / 4294967296 := by omega
    rw [e_] at l_ ⊢
    omega
  have HV := Aside0.mk hv
  clear hv hx0 hx1
  go_enter Try.func61, Try.ntmps61
  go_wp2
  · go_ret
    refine ⟨congrArg Ending.returned (congrArg (Value.int IntKind.i64) ?_), Drawn0.refl _⟩
    have hv := HV.out
    rw [len8_get (a0 / 4294967296) (by omega) (by rw [Lib.len8tab_size]; omega)]
    unfold wrap64
    omega
  all_goals
    exfalso
    rename_i hq
    rw [Lib.len8tab_size] at hq
    omega
set_option maxRecDepth 100000 in
theorem len64_24 (a0 : Int) (w : World) (h0 : 0 ≤ a0) (h1 : a0 ≤ 18446744073709551615) (t1 : a0 < 4294967296) (t2 : 65536 ≤ a0) (t3 : 256 ≤ a0 / 65536) :
    Calls Try.prog 61 #[.int .u64 a0] w fun e w' => e = .returned (.int .i64 (Lib.bitLen a0.toNat)) ∧ Drawn0 w w' := by
  have hx0 : 0 ≤ a0 / 65536 / 256 := by omega
  have hx1 : a0 / 65536 / 256 ≤ 255 := by omega
  have hv : (24 : Int) + Lib.bitLen (a0 / 65536 / 256).toNat = Lib.bitLen a0.toNat ∧ Lib.bitLen (a0 / 65536 / 256).toNat ≤ 8 := by
    have l_ := Lib.bitLen_le8' (a0 / 65536 / 256) hx0 hx1
    have s_ := Lib.bitLen_shift24 a0.toNat (by omega) (by omega)
    have e_ : (a0 / 65536 / 256).toNat = a0.toNat / 16777216 := by omega
    rw [e_] at l_ ⊢
    omega
  have HV := Aside0.mk hv
  clear hv hx0 hx1
  go_enter Try.func61, Try.ntmps61
  go_wp2
  · go_ret
    refine ⟨congrArg Ending.returned (congrArg (Value.int IntKind.i64) ?_), Drawn0.refl _⟩
    have hv := HV.out
    rw [len8_get (a0 / 65536 / 256) (by omega) (by rw [Lib.len8tab_size]; omega)]
    unfold wrap64
    omega
  all_goals
    exfalso
    rename_i hq
    rw [Lib.len8tab_size] at hq
    omega
set_option maxRecDepth 100000 in
theorem len64_16 (a0 : Int) (w : World) (h0 : 0 ≤ a0) (h1 : a0 ≤ 18446744073709551615) (t1 : a0 < 4294967296) (t2 : 65536 ≤ a0) (t3 : a0 / 65536 < 256) :
    Calls Try.prog 61 #[.int .u64 a0] w fun e w' => e = .returned (.int .i64 (Lib.bitLen a0.toNat)) ∧ Drawn0 w w' := by
  have hx0 : 0 ≤ a0 / 65536 := by omega
  have hx1 : a0 / 65536 ≤ 255 := by omega
  have hv : (16 : Int) + Lib.bitLen (a0 / 65536).toNat = Lib.bitLen a0.toNat ∧ Lib.bitLen (a0 / 65536).toNat ≤ 8 := by
    have l_ := Lib.bitLen_le8' (a0 / 65536) hx0 hx1
    have s_ := Lib.bitLen_shift16 a0.toNat (by omega) (by omega)
    have e_ : (a0 / 65536).toNat = a0.toNat / 65536 := by omega
    rw [e_] at l_ ⊢
    omega
  have HV := Aside0.mk hv
  clear hv hx0 hx1
  go_enter Try.func61, Try.ntmps61
  go_wp2
  · go_ret
    refine ⟨congrArg Ending.returned (congrArg (Value.int IntKind.i64) ?_), Drawn0.refl _⟩
    have hv := HV.out
    rw [len8_get (a0 / 65536) (by omega) (by rw [Lib.len8tab_size]; omega)]
    unfold wrap64
    omega
  all_goals
    exfalso
    rename_i hq
    rw [Lib.len8tab_size] at hq
    omega
set_option maxRecDepth 100000 in
theorem len64_8 (a0 : Int) (w : World) (h0 : 0 ≤ a0) (h1 : a0 ≤ 18446744073709551615) (t1 : a0 < 4294967296) (t2 : a0 < 65536) (t3 : 256 ≤ a0) :
    Calls Try.prog 61 #[.int .u64 a0] w fun e w' => e = .returned (.int .i64 (Lib.bitLen a0.toNat)) ∧ Drawn0 w w' := by
  have hx0 : 0 ≤ a0 / 256 := by omega
  have hx1 : a0 / 256 ≤ 255 := by omega
  have hv : (8 : Int) + Lib.bitLen (a0 / 256).toNat = Lib.bitLen a0.toNat ∧ Lib.bitLen (a0 / 256).toNat ≤ 8 := by
    have l_ := Lib.bitLen_le8' (a0 / 256) hx0 hx1
    have s_ := Lib.bitLen_shift8 a0.toNat (by omega) (by omega)
    have e_ : (a0 / 256).toNat = a0.toNat / 256 := by omega
    rw [e_] at l_ ⊢
    omega
  have HV := Aside0.mk hv
  clear hv hx0 hx1
  go_enter Try.func61, Try.ntmps61
  go_wp2
  · go_ret
    refine ⟨congrArg Ending.returned (congrArg (Value.int IntKind.i64) ?_), Drawn0.refl _⟩
    have hv := HV.out
    rw [len8_get (a0 / 256) (by omega) (by rw [Lib.len8tab_size]; omega)]
    unfold wrap64
    omega
  all_goals
    exfalso
    rename_i hq
    rw [Lib.len8tab_size] at hq
    omega
set_option maxRecDepth 100000 in
theorem len64_0 (a0 : Int) (w : World) (h0 : 0 ≤ a0) (h1 : a0 ≤ 18446744073709551615) (t1 : a0 < 4294967296) (t2 : a0 < 65536) (t3 : a0 < 256) :
    Calls Try.prog 61 #[.int .u64 a0] w fun e w' => e = .returned (.int .i64 (Lib.bitLen a0.toNat)) ∧ Drawn0 w w' := by
  have hx0 : 0 ≤ a0 := by omega
  have hx1 : a0 ≤ 255 := by omega
  have hv : (0 : Int) + Lib.bitLen (a0).toNat = Lib.bitLen a0.toNat ∧ Lib.bitLen (a0).toNat ≤ 8 := by
    have l_ := Lib.bitLen_le8' (a0) hx0 hx1
    have e_ : (a0).toNat = a0.toNat := by omega
    rw [e_] at l_ ⊢
    omega
  have HV := Aside0.mk hv
  clear hv hx0 hx1
  go_enter Try.func61, Try.ntmps61
  go_wp2
  · go_ret
    refine ⟨congrArg Ending.returned (congrArg (Value.int IntKind.i64) ?_), Drawn0.refl _⟩
    have hv := HV.out
    rw [len8_get (a0) (by omega) (by rw [Lib.len8tab_size]; omega)]
    unfold wrap64
    omega
  all_goals
    exfalso
    rename_i hq
    rw [Lib.len8tab_size] at hq
    omega
theorem bits_Len64.calls (a0 : Int) (r : Int) (w : World) (h : bits_Len64.f a0 = some r) :
    Calls Try.prog 61 #[.int .u64 a0] w fun e w' => e = .returned (.int .i64 r) ∧ Drawn0 w w' := by
  by_cases h0 : 0 ≤ a0
  · by_cases h1 : a0 ≤ 18446744073709551615
    · rw [bits_Len64.f, if_pos h0, if_pos h1] at h
      obtain rfl := Option.some.inj h
      clear h
      rcases Int.lt_or_le a0 4294967296 with t1 | t1
      · rcases Int.lt_or_le a0 65536 with t2 | t2
        · rcases Int.lt_or_le a0 256 with t3 | t3
          · exact len64_0 a0 w h0 h1 t1 t2 t3
          · exact len64_8 a0 w h0 h1 t1 t2 t3
        · rcases Int.lt_or_le (a0 / 65536) 256 with t3 | t3
          · exact len64_16 a0 w h0 h1 t1 t2 t3
          · exact len64_24 a0 w h0 h1 t1 t2 t3
      · rcases Int.lt_or_le (a0 / 4294967296) 65536 with t2 | t2
        · rcases Int.lt_or_le (a0 / 4294967296) 256 with t3 | t3
          · exact len64_32 a0 w h0 h1 t1 t2 t3
          · exact len64_40 a0 w h0 h1 t1 t2 t3
        · rcases Int.lt_or_le (a0 / 4294967296 / 65536) 256 with t3 | t3
          · exact len64_48 a0 w h0 h1 t1 t2 t3
          · exact len64_56 a0 w h0 h1 t1 t2 t3
    · rw [bits_Len64.f, if_pos h0, if_neg h1] at h
      exact absurd h (by simp)
  · rw [bits_Len64.f, if_neg h0] at h
    exact absurd h (by simp)

/-! ### bits_LeadingZeros64: function 74 -/
def bits_LeadingZeros64.f (a0 : Int) : Option (Int) := (bits_Len64.f a0).bind fun t117 => (some (wrap64 (64 - t117)))
set_option maxHeartbeats 8000000 in
set_option maxRecDepth 100000 in
theorem bits_LeadingZeros64.calls (a0 : Int) (r : Int) (w : World) (h : bits_LeadingZeros64.f a0 = some r) :
    Calls Try.prog 74 #[.int .u64 a0] w fun e w' => e = .returned (.int .i64 r) ∧ Drawn0 w w' := by
  have H : ((bits_Len64.f a0).bind fun t117 => (some (wrap64 (64 - t117)))) = some r := h
  clear h
  replace H := Option.bind_eq_some_iff.mp H
  obtain ⟨t117, A20, H⟩ := H
  replace H : (some (wrap64 (64 - t117))) = some r := H
  have A2 := Aside0.mk A20
  clear A20
  obtain rfl := Option.some.inj H
  go_enter Try.func74, Try.ntmps74
  go_wp2_with (first | ((with_reducible refine gate_callee (f := 61) rfl ?_); refine goesL_ (some 4) rfl rfl Try.func61 (by kernel_rfl) rfl #[.int .u64 a0] rfl (by (try simp only [List.map_toArray, List.map_cons, List.map_nil]); first | done | rfl | (simp only [List.length_drop, List.length_take]; rfl)) ?_; (with_reducible refine (bits_Len64.calls a0 t117 _ A2.out).mono ?_); rintro e w' ⟨rfl, ⟨nd, rfl⟩⟩; refine ⟨_, rfl, ?_⟩))
  go_ret
  exact ⟨by first | rfl | (simp; done) | (simp [*]; done), by repeat (first | exact Drawn0.refl _ | apply Drawn0.step)⟩

end Go.Proofs.Ytcninjadeagenaa.HFixnum
