/- Go functions as Lean functions, each with a proof that the Go code comes to just its answers; a part of the proofs of the laws of the family Fixnum. No condition but those that each theorem names. Written by a program of this session (hprint.py). -/
import Derived.Test.YtcninjadeagenaaHFixnumx0
import Derived.Test.YtcninjadeagenaaHFixnumx1
import Derived.Test.YtcninjadeagenaaHFixnumx2
import Derived.Test.YtcninjadeagenaaHFixnumx3
namespace Go.Proofs.Ytcninjadeagenaa.HFixnum
open Go.RowKit Go.Proofs.YtcninjadeagenaaW.PrintWords Go.Proofs.YtcninjadeagenaaW.PrintLast Go.Proofs.YtcninjadeagenaaW.PrintMore
attribute [local go_sem] max2_int min2_int max_two min_two max_three min_three max_four min_four   -- for this text's walks alone
set_option linter.unusedVariables false
set_option linter.unusedSimpArgs false

/-! ### tripwirelaw01_FixnumBack: function 11 -/
mutual
def tripwirelaw01_FixnumBack.j0 : Nat → Int → Int → Bool → Option (Bool)
  | 0, _, _, _ => none
  | k + 1, x0, x1, x5 => (fixnum_Mul.f x0 x1).bind fun bt220 => (if bt220.2 = true then (tripwirelaw01_FixnumBack.j1 k x0 x1 x5 bt220.1 (x1 != 0)) else (tripwirelaw01_FixnumBack.j1 k x0 x1 x5 bt220.1 false))
def tripwirelaw01_FixnumBack.j1 : Nat → Int → Int → Bool → Int → Bool → Option (Bool)
  | 0, _, _, _, _, _ => none
  | k + 1, x0, x1, x5, x10, x53 => if x53 = true then ((fixnum_Div.f x10 x1).bind fun bt222 => (if bt222.2 = true then (if bt222.1 = x0 then (tripwirelaw01_FixnumBack.j2 k x0 x1 x5) else (if x10 = (-9223372036854775808) then (if x1 = (-1) then (tripwirelaw01_FixnumBack.j2 k x0 x1 x5) else (some false)) else (some false))) else (if x10 = (-9223372036854775808) then (if x1 = (-1) then (tripwirelaw01_FixnumBack.j2 k x0 x1 x5) else (some false)) else (some false)))) else (tripwirelaw01_FixnumBack.j2 k x0 x1 x5)
def tripwirelaw01_FixnumBack.j2 : Nat → Int → Int → Bool → Option (Bool)
  | 0, _, _, _ => none
  | k + 1, x0, x1, x5 => (fixnum_Div.f x0 x1).bind fun bt224 => ((fixnum_Mod.f x0 x1).bind fun bt226 => (if bt224.2 = true then ((fixnum_Mul.f bt224.1 x1).bind fun bt228 => ((fixnum_Add.f bt228.1 bt226.1).bind fun bt230 => (if bt226.2 = true then (if bt228.2 = true then (if bt230.2 = true then (if bt230.1 = x0 then (if bt226.1 > 0 then (if x0 < 0 then (tripwirelaw01_FixnumBack.j3 k x0 x1 x5 bt224.2 bt226.2 true) else (if bt226.1 < 0 then (tripwirelaw01_FixnumBack.j3 k x0 x1 x5 bt224.2 bt226.2 (decide (x0 > 0))) else (tripwirelaw01_FixnumBack.j3 k x0 x1 x5 bt224.2 bt226.2 false))) else (if bt226.1 < 0 then (tripwirelaw01_FixnumBack.j3 k x0 x1 x5 bt224.2 bt226.2 (decide (x0 > 0))) else (tripwirelaw01_FixnumBack.j3 k x0 x1 x5 bt224.2 bt226.2 false))) else (tripwirelaw01_FixnumBack.j3 k x0 x1 x5 bt224.2 bt226.2 true)) else (tripwirelaw01_FixnumBack.j3 k x0 x1 x5 bt224.2 bt226.2 true)) else (tripwirelaw01_FixnumBack.j3 k x0 x1 x5 bt224.2 bt226.2 true)) else (tripwirelaw01_FixnumBack.j3 k x0 x1 x5 bt224.2 bt226.2 true)))) else ((fixnum_MulDiv.f k x0 x1 x1).bind fun bt234 => (if x1 = 0 then (if x5 = true then (if bt226.2 = true then (some false) else (some (!bt234.2))) else (some false)) else (if x5 = true then (if bt234.2 = true then (some (bt234.1 == x0)) else (some false)) else (some false))))))
def tripwirelaw01_FixnumBack.j3 : Nat → Int → Int → Bool → Bool → Bool → Bool → Option (Bool)
  | 0, _, _, _, _, _, _ => none
  | k + 1, x0, x1, x5, x7, x15, x130 => if x130 = true then (some false) else ((fixnum_MulDiv.f k x0 x1 x1).bind fun bt232 => (if x1 = 0 then (if x5 = true then (if x7 = true then (some false) else (if x15 = true then (some false) else (some (!bt232.2)))) else (some false)) else (if x5 = true then (if bt232.2 = true then (some (bt232.1 == x0)) else (some false)) else (some false))))
end
def tripwirelaw01_FixnumBack.f (k : Nat) (a0 : Int) (a1 : Int) : Option (Bool) := (tripwirelaw01_works.f k).bind fun t215 => ((fixnum_Add.f a0 a1).bind fun bt216 => (if bt216.2 = true then ((fixnum_Sub.f bt216.1 a1).bind fun bt218 => (if bt218.2 = true then (if bt218.1 = a0 then (tripwirelaw01_FixnumBack.j0 k a0 a1 t215) else (some false)) else (some false))) else (tripwirelaw01_FixnumBack.j0 k a0 a1 t215)))
theorem tripwirelaw01_FixnumBack.mono_l : ∀ k, (∀ y0 y1 y2, LeO (tripwirelaw01_FixnumBack.j0 k y0 y1 y2) (tripwirelaw01_FixnumBack.j0 (k + 1) y0 y1 y2)) ∧ (∀ y0 y1 y2 y3 y4, LeO (tripwirelaw01_FixnumBack.j1 k y0 y1 y2 y3 y4) (tripwirelaw01_FixnumBack.j1 (k + 1) y0 y1 y2 y3 y4)) ∧ (∀ y0 y1 y2, LeO (tripwirelaw01_FixnumBack.j2 k y0 y1 y2) (tripwirelaw01_FixnumBack.j2 (k + 1) y0 y1 y2)) ∧ (∀ y0 y1 y2 y3 y4 y5, LeO (tripwirelaw01_FixnumBack.j3 k y0 y1 y2 y3 y4 y5) (tripwirelaw01_FixnumBack.j3 (k + 1) y0 y1 y2 y3 y4 y5))
  | 0 => ⟨fun _ _ _ r h => by simp [tripwirelaw01_FixnumBack.j0] at h, fun _ _ _ _ _ r h => by simp [tripwirelaw01_FixnumBack.j1] at h, fun _ _ _ r h => by simp [tripwirelaw01_FixnumBack.j2] at h, fun _ _ _ _ _ _ r h => by simp [tripwirelaw01_FixnumBack.j3] at h⟩
  | k + 1 => by
    obtain ⟨ih0, ih1, ih2, ih3⟩ := tripwirelaw01_FixnumBack.mono_l k
    refine ⟨?_, ?_, ?_, ?_⟩
    · intro y0 y1 y2
      unfold tripwirelaw01_FixnumBack.j0
      repeat' first
      | (with_reducible exact ih0 _ _ _)
      | (with_reducible exact ih1 _ _ _ _ _)
      | (with_reducible exact ih2 _ _ _)
      | (with_reducible exact ih3 _ _ _ _ _ _)
      | (with_reducible exact fixnum_MulDiv.mono _ _ _ _)
      | (with_reducible exact tripwirelaw01_works.mono _)
      | (with_reducible exact LeO.refl _)
      | (with_reducible exact LeO.none _)
      | (with_reducible refine LeO.ite ?_ ?_)
      | (with_reducible refine LeO.bind ?_ (fun _ => ?_))
      | exact ih0 _ _ _
      | exact ih1 _ _ _ _ _
      | exact ih2 _ _ _
      | exact ih3 _ _ _ _ _ _
      | exact fixnum_MulDiv.mono _ _ _ _
      | exact tripwirelaw01_works.mono _
      | exact LeO.none _
      | refine LeO.ite ?_ ?_
      | refine LeO.bind ?_ (fun _ => ?_)
    · intro y0 y1 y2 y3 y4
      unfold tripwirelaw01_FixnumBack.j1
      repeat' first
      | (with_reducible exact ih0 _ _ _)
      | (with_reducible exact ih1 _ _ _ _ _)
      | (with_reducible exact ih2 _ _ _)
      | (with_reducible exact ih3 _ _ _ _ _ _)
      | (with_reducible exact fixnum_MulDiv.mono _ _ _ _)
      | (with_reducible exact tripwirelaw01_works.mono _)
      | (with_reducible exact LeO.refl _)
      | (with_reducible exact LeO.none _)
      | (with_reducible refine LeO.ite ?_ ?_)
      | (with_reducible refine LeO.bind ?_ (fun _ => ?_))
      | exact ih0 _ _ _
      | exact ih1 _ _ _ _ _
      | exact ih2 _ _ _
      | exact ih3 _ _ _ _ _ _
      | exact fixnum_MulDiv.mono _ _ _ _
      | exact tripwirelaw01_works.mono _
      | exact LeO.none _
      | refine LeO.ite ?_ ?_
      | refine LeO.bind ?_ (fun _ => ?_)
    · intro y0 y1 y2
      unfold tripwirelaw01_FixnumBack.j2
      repeat' first
      | (with_reducible exact ih0 _ _ _)
      | (with_reducible exact ih1 _ _ _ _ _)
      | (with_reducible exact ih2 _ _ _)
      | (with_reducible exact ih3 _ _ _ _ _ _)
      | (with_reducible exact fixnum_MulDiv.mono _ _ _ _)
      | (with_reducible exact tripwirelaw01_works.mono _)
      | (with_reducible exact LeO.refl _)
      | (with_reducible exact LeO.none _)
      | (with_reducible refine LeO.ite ?_ ?_)
      | (with_reducible refine LeO.bind ?_ (fun _ => ?_))
      | exact ih0 _ _ _
      | exact ih1 _ _ _ _ _
      | exact ih2 _ _ _
      | exact ih3 _ _ _ _ _ _
      | exact fixnum_MulDiv.mono _ _ _ _
      | exact tripwirelaw01_works.mono _
      | exact LeO.none _
      | refine LeO.ite ?_ ?_
      | refine LeO.bind ?_ (fun _ => ?_)
    · intro y0 y1 y2 y3 y4 y5
      unfold tripwirelaw01_FixnumBack.j3
      repeat' first
      | (with_reducible exact ih0 _ _ _)
      | (with_reducible exact ih1 _ _ _ _ _)
      | (with_reducible exact ih2 _ _ _)
      | (with_reducible exact ih3 _ _ _ _ _ _)
      | (with_reducible exact fixnum_MulDiv.mono _ _ _ _)
      | (with_reducible exact tripwirelaw01_works.mono _)
      | (with_reducible exact LeO.refl _)
      | (with_reducible exact LeO.none _)
      | (with_reducible refine LeO.ite ?_ ?_)
      | (with_reducible refine LeO.bind ?_ (fun _ => ?_))
      | exact ih0 _ _ _
      | exact ih1 _ _ _ _ _
      | exact ih2 _ _ _
      | exact ih3 _ _ _ _ _ _
      | exact fixnum_MulDiv.mono _ _ _ _
      | exact tripwirelaw01_works.mono _
      | exact LeO.none _
      | refine LeO.ite ?_ ?_
      | refine LeO.bind ?_ (fun _ => ?_)
theorem tripwirelaw01_FixnumBack.mono : ∀ a0 a1 k, LeO (tripwirelaw01_FixnumBack.f k a0 a1) (tripwirelaw01_FixnumBack.f (k + 1) a0 a1) := by
  intro a0 a1 k
  obtain ⟨ih0, ih1, ih2, ih3⟩ := tripwirelaw01_FixnumBack.mono_l k
  unfold tripwirelaw01_FixnumBack.f
  repeat' first
      | (with_reducible exact ih0 _ _ _)
      | (with_reducible exact ih1 _ _ _ _ _)
      | (with_reducible exact ih2 _ _ _)
      | (with_reducible exact ih3 _ _ _ _ _ _)
      | (with_reducible exact fixnum_MulDiv.mono _ _ _ _)
      | (with_reducible exact tripwirelaw01_works.mono _)
      | (with_reducible exact LeO.refl _)
      | (with_reducible exact LeO.none _)
      | (with_reducible refine LeO.ite ?_ ?_)
      | (with_reducible refine LeO.bind ?_ (fun _ => ?_))
      | exact ih0 _ _ _
      | exact ih1 _ _ _ _ _
      | exact ih2 _ _ _
      | exact ih3 _ _ _ _ _ _
      | exact fixnum_MulDiv.mono _ _ _ _
      | exact tripwirelaw01_works.mono _
      | exact LeO.none _
      | refine LeO.ite ?_ ?_
      | refine LeO.bind ?_ (fun _ => ?_)
set_option maxHeartbeats 8000000 in
set_option maxRecDepth 100000 in
theorem tripwirelaw01_FixnumBack.calls (k : Nat) (a0 : Int) (a1 : Int) (r : Bool) (w : World) (h : tripwirelaw01_FixnumBack.f k a0 a1 = some r) :
    Calls Try.prog 11 #[.int .i64 a0, .int .i64 a1] w fun e w' => e = .returned (.bool r) ∧ Below w.heap.size w w' := by
  have HB := Aside0.mk (Below.refl w.heap.size w)
  have H : ((tripwirelaw01_works.f k).bind fun t215 => ((fixnum_Add.f a0 a1).bind fun bt216 => (if bt216.2 = true then ((fixnum_Sub.f bt216.1 a1).bind fun bt218 => (if bt218.2 = true then (if bt218.1 = a0 then (tripwirelaw01_FixnumBack.j0 k a0 a1 t215) else (some false)) else (some false))) else (tripwirelaw01_FixnumBack.j0 k a0 a1 t215)))) = some r := h
  clear h
  replace H := Option.bind_eq_some_iff.mp H
  obtain ⟨t215, A30, H⟩ := H
  replace H : ((fixnum_Add.f a0 a1).bind fun bt216 => (if bt216.2 = true then ((fixnum_Sub.f bt216.1 a1).bind fun bt218 => (if bt218.2 = true then (if bt218.1 = a0 then (tripwirelaw01_FixnumBack.j0 k a0 a1 t215) else (some false)) else (some false))) else (tripwirelaw01_FixnumBack.j0 k a0 a1 t215))) = some r := H
  have A3 := Aside0.mk A30
  clear A30
  replace H := Option.bind_eq_some_iff.mp H
  obtain ⟨⟨t216, t217⟩, A40, H⟩ := H
  replace H : (if t217 = true then ((fixnum_Sub.f t216 a1).bind fun bt218 => (if bt218.2 = true then (if bt218.1 = a0 then (tripwirelaw01_FixnumBack.j0 k a0 a1 t215) else (some false)) else (some false))) else (tripwirelaw01_FixnumBack.j0 k a0 a1 t215)) = some r := H
  have A4 := Aside0.mk A40
  clear A40
  have HC5 := Aside0.mk H
  clear H
  go_enter Try.func11, Try.ntmps11
  go_upto_if 29 with (first | ((with_reducible refine gate_callee (f := 37) rfl ?_); refine goesL_ (some 22) rfl rfl Try.func37 (by kernel_rfl) rfl #[] rfl (by (try simp only [List.map_toArray, List.map_cons, List.map_nil]); first | done | rfl | (simp only [List.length_drop, List.length_take]; rfl)) ?_; (with_reducible refine (tripwirelaw01_works.calls k  t215 _ A3.out).mono ?_); rintro e w6 ⟨rfl, hb⟩; refine ⟨_, rfl, ?_⟩; have n0_ := Aside0.mk (below_step (by repeat (first | (with_reducible first | exact HB.out | apply below_alloc | apply pw_below_drewN | apply below_drew1) | exact HB.out)) hb); clear HB; have HB := n0_; clear n0_; (try clear hb); (try clear hb2); (try clear hk); (try clear hi)) | ((with_reducible refine gate_callee (f := 38) rfl ?_); refine goesL_ (some 26) rfl rfl Try.func38 (by kernel_rfl) rfl #[.int .i64 a0, .int .i64 a1] rfl (by (try simp only [List.map_toArray, List.map_cons, List.map_nil]); first | done | rfl | (simp only [List.length_drop, List.length_take]; rfl)) ?_; (with_reducible refine (fixnum_Add.calls a0 a1 t216 t217 _ A4.out).mono ?_); rintro e w' ⟨rfl, ⟨nd, rfl⟩⟩; refine ⟨_, rfl, ?_⟩))
  (try simp only [Act.put, List.setIfInBounds_toArray, List.set_cons_zero, List.set_cons_succ])
  go_cut [] (fun wc => ∃ (kq : Nat), Aside0 (tripwirelaw01_FixnumBack.j0 kq a0 a1 t215 = some r) ∧ Aside0 (kq ≤ k) ∧ Aside0 (Below w.heap.size w wc))
  case first =>
    have H := HC5.out
    clear HC5
    by_cases c7 : t217 = true
    · subst c7
      have H1 : ((fixnum_Sub.f t216 a1).bind fun bt218 => (if bt218.2 = true then (if bt218.1 = a0 then (tripwirelaw01_FixnumBack.j0 k a0 a1 t215) else (some false)) else (some false))) = some r := by rw [if_pos rfl] at H; exact H
      clear H
      have H := H1
      clear H1
      replace H := Option.bind_eq_some_iff.mp H
      obtain ⟨⟨t218, t219⟩, A80, H⟩ := H
      replace H : (if t219 = true then (if t218 = a0 then (tripwirelaw01_FixnumBack.j0 k a0 a1 t215) else (some false)) else (some false)) = some r := H
      have A8 := Aside0.mk A80
      clear A80
      by_cases c9 : t219 = true
      · subst c9
        have H1 : (if t218 = a0 then (tripwirelaw01_FixnumBack.j0 k a0 a1 t215) else (some false)) = some r := by rw [if_pos rfl] at H; exact H
        clear H
        have H := H1
        clear H1
        by_cases c10 : t218 = a0
        · rw [if_pos c10] at H
          have c10b0 : (t218 == a0) = true := beq_iff_eq.mpr c10
          have c10b1 : (t218 != a0) = false := bne_eq_false_iff_eq.mpr c10
          clear c10
          (first | rw [c10b0] | (simp only [i64_w, i32_w]; rw [c10b0]) | skip)
          have H' := Aside0.mk H
          clear H
          go_wp2_with (first | ((with_reducible refine gate_callee (f := 40) rfl ?_); refine goesL_ (some 33) rfl rfl Try.func40 (by kernel_rfl) rfl #[.int .i64 t216, .int .i64 a1] rfl (by (try simp only [List.map_toArray, List.map_cons, List.map_nil]); first | done | rfl | (simp only [List.length_drop, List.length_take]; rfl)) ?_; (with_reducible refine (fixnum_Sub.calls t216 a1 t218 true _ A8.out).mono ?_); rintro e w' ⟨rfl, ⟨nd, rfl⟩⟩; refine ⟨_, rfl, ?_⟩))
          go_meet
          case rel => exact ⟨_, H', ⟨by first | omega | exact Nat.le_refl _⟩, ⟨by repeat (first | (with_reducible first | exact HB.out | apply below_alloc | apply pw_below_drewN | apply below_drew1) | exact HB.out)⟩⟩
        · rw [if_neg c10] at H
          have c10b0 : (t218 == a0) = false := beq_eq_false_iff_ne.mpr c10
          have c10b1 : (t218 != a0) = true := bne_iff_ne.mpr c10
          (first | rw [c10b0] | (simp only [i64_w, i32_w]; rw [c10b0]) | skip)
          obtain rfl := Option.some.inj H
          go_wp2_with (first | ((with_reducible refine gate_callee (f := 40) rfl ?_); refine goesL_ (some 33) rfl rfl Try.func40 (by kernel_rfl) rfl #[.int .i64 t216, .int .i64 a1] rfl (by (try simp only [List.map_toArray, List.map_cons, List.map_nil]); first | done | rfl | (simp only [List.length_drop, List.length_take]; rfl)) ?_; (with_reducible refine (fixnum_Sub.calls t216 a1 t218 true _ A8.out).mono ?_); rintro e w' ⟨rfl, ⟨nd, rfl⟩⟩; refine ⟨_, rfl, ?_⟩))
          go_ret
          exact ⟨by first | rfl | (simp [errW_none, errW_some] <;> rfl) | (simp [*, errW_none, errW_some] <;> rfl), by repeat (first | (with_reducible first | exact HB.out | apply below_alloc | apply pw_below_drewN | apply below_drew1) | exact HB.out)⟩
      · replace c9 := Bool.eq_false_iff.mpr c9
        subst c9
        have H1 : (some false) = some r := by rw [if_neg (show ¬ (false = true) by decide)] at H; exact H
        clear H
        have H := H1
        clear H1
        obtain rfl := Option.some.inj H
        go_wp2_with (first | ((with_reducible refine gate_callee (f := 40) rfl ?_); refine goesL_ (some 33) rfl rfl Try.func40 (by kernel_rfl) rfl #[.int .i64 t216, .int .i64 a1] rfl (by (try simp only [List.map_toArray, List.map_cons, List.map_nil]); first | done | rfl | (simp only [List.length_drop, List.length_take]; rfl)) ?_; (with_reducible refine (fixnum_Sub.calls t216 a1 t218 false _ A8.out).mono ?_); rintro e w' ⟨rfl, ⟨nd, rfl⟩⟩; refine ⟨_, rfl, ?_⟩))
        go_ret
        exact ⟨by first | rfl | (simp [errW_none, errW_some] <;> rfl) | (simp [*, errW_none, errW_some] <;> rfl), by repeat (first | (with_reducible first | exact HB.out | apply below_alloc | apply pw_below_drewN | apply below_drew1) | exact HB.out)⟩
    · replace c7 := Bool.eq_false_iff.mpr c7
      subst c7
      have H1 : (tripwirelaw01_FixnumBack.j0 k a0 a1 t215) = some r := by rw [if_neg (show ¬ (false = true) by decide)] at H; exact H
      clear H
      have H := H1
      clear H1
      have H' := Aside0.mk H
      clear H
      go_wp2
      go_meet
      case rel => exact ⟨_, H', ⟨by first | omega | exact Nat.le_refl _⟩, ⟨by repeat (first | (with_reducible first | exact HB.out | apply below_alloc | apply pw_below_drewN | apply below_drew1) | exact HB.out)⟩⟩
  case rest =>
    clear HC5
    try clear c1
    try clear p2
    try clear c3
    try clear c4
    try clear c7
    try clear c9
    try clear c10
    try clear c10b0
    try clear c10b1
    obtain ⟨kq, HA, HJ4, HB⟩ := hcut
    cases kq with
    | zero => exact absurd HA.out (by simp [tripwirelaw01_FixnumBack.j0])
    | succ kj4 =>
      have H := HA.out
      clear HA
      simp only [tripwirelaw01_FixnumBack.j0] at H
      replace H := Option.bind_eq_some_iff.mp H
      obtain ⟨⟨t220, t221⟩, A110, H⟩ := H
      replace H : (if t221 = true then (tripwirelaw01_FixnumBack.j1 kj4 a0 a1 t215 t220 (a1 != 0)) else (tripwirelaw01_FixnumBack.j1 kj4 a0 a1 t215 t220 false)) = some r := H
      have A11 := Aside0.mk A110
      clear A110
      have HC12 := Aside0.mk H
      clear H
      go_upto_region 8 with (first | ((with_reducible refine gate_callee (f := 42) rfl ?_); refine goesL_ (some 46) rfl rfl Try.func42 (by kernel_rfl) rfl #[.int .i64 a0, .int .i64 a1] rfl (by (try simp only [List.map_toArray, List.map_cons, List.map_nil]); first | done | rfl | (simp only [List.length_drop, List.length_take]; rfl)) ?_; (with_reducible refine (fixnum_Mul.calls a0 a1 t220 t221 _ A11.out).mono ?_); rintro e w' ⟨rfl, ⟨nd, rfl⟩⟩; refine ⟨_, rfl, ?_⟩))
      (try simp only [Act.put, List.setIfInBounds_toArray, List.set_cons_zero, List.set_cons_succ])
      go_cut [53] (fun v53 wc => ∃ (kq : Nat) (x53_11 : Bool), v53 = .bool x53_11 ∧ Aside0 (tripwirelaw01_FixnumBack.j1 kq a0 a1 t215 t220 x53_11 = some r) ∧ Aside0 (kq ≤ kj4) ∧ Aside0 (Below w.heap.size w wc))
      case first =>
        have H := HC12.out
        clear HC12
        by_cases c13 : t221 = true
        · subst c13
          have H1 : (tripwirelaw01_FixnumBack.j1 kj4 a0 a1 t215 t220 (a1 != 0)) = some r := by rw [if_pos rfl] at H; exact H
          clear H
          have H := H1
          clear H1
          have H' := Aside0.mk H
          clear H
          go_wp2
          go_meet
          case rel => exact ⟨_, ((a1 != 0)), (by first | rfl | (simp; done) | (simp [*]; done)), H', ⟨by have := HJ4.out; first | omega | exact Nat.le_refl _⟩, ⟨by repeat (first | (with_reducible first | exact HB.out | apply below_alloc | apply pw_below_drewN | apply below_drew1) | exact HB.out)⟩⟩
        · replace c13 := Bool.eq_false_iff.mpr c13
          subst c13
          have H1 : (tripwirelaw01_FixnumBack.j1 kj4 a0 a1 t215 t220 false) = some r := by rw [if_neg (show ¬ (false = true) by decide)] at H; exact H
          clear H
          have H := H1
          clear H1
          have H' := Aside0.mk H
          clear H
          go_wp2
          go_meet
          case rel => exact ⟨_, (false), (by first | rfl | (simp; done) | (simp [*]; done)), H', ⟨by have := HJ4.out; first | omega | exact Nat.le_refl _⟩, ⟨by repeat (first | (with_reducible first | exact HB.out | apply below_alloc | apply pw_below_drewN | apply below_drew1) | exact HB.out)⟩⟩
      case rest =>
        clear HC12
        try clear c1
        try clear p2
        try clear c3
        try clear c4
        try clear c7
        try clear c9
        try clear c10
        try clear c10b0
        try clear c10b1
        try clear c11
        try clear c13
        try clear p2
        obtain ⟨kq, x53_11, rfl, HA, HJ11, HB⟩ := hcut
        cases kq with
        | zero => exact absurd HA.out (by simp [tripwirelaw01_FixnumBack.j1])
        | succ kj11 =>
          have H := HA.out
          clear HA
          simp only [tripwirelaw01_FixnumBack.j1] at H
          have HC14 := Aside0.mk H
          clear H
          go_upto_if 53 with (fail)
          go_cut [] (fun wc => ∃ (kq : Nat), Aside0 (tripwirelaw01_FixnumBack.j2 kq a0 a1 t215 = some r) ∧ Aside0 (kq ≤ kj11) ∧ Aside0 (Below w.heap.size w wc))
          case first =>
            have H := HC14.out
            clear HC14
            by_cases c15 : x53_11 = true
            · subst c15
              have H1 : ((fixnum_Div.f t220 a1).bind fun bt222 => (if bt222.2 = true then (if bt222.1 = a0 then (tripwirelaw01_FixnumBack.j2 kj11 a0 a1 t215) else (if t220 = (-9223372036854775808) then (if a1 = (-1) then (tripwirelaw01_FixnumBack.j2 kj11 a0 a1 t215) else (some false)) else (some false))) else (if t220 = (-9223372036854775808) then (if a1 = (-1) then (tripwirelaw01_FixnumBack.j2 kj11 a0 a1 t215) else (some false)) else (some false)))) = some r := by rw [if_pos rfl] at H; exact H
              clear H
              have H := H1
              clear H1
              replace H := Option.bind_eq_some_iff.mp H
              obtain ⟨⟨t222, t223⟩, A160, H⟩ := H
              replace H : (if t223 = true then (if t222 = a0 then (tripwirelaw01_FixnumBack.j2 kj11 a0 a1 t215) else (if t220 = (-9223372036854775808) then (if a1 = (-1) then (tripwirelaw01_FixnumBack.j2 kj11 a0 a1 t215) else (some false)) else (some false))) else (if t220 = (-9223372036854775808) then (if a1 = (-1) then (tripwirelaw01_FixnumBack.j2 kj11 a0 a1 t215) else (some false)) else (some false))) = some r := H
              have A16 := Aside0.mk A160
              clear A160
              by_cases c17 : t223 = true
              · subst c17
                have H1 : (if t222 = a0 then (tripwirelaw01_FixnumBack.j2 kj11 a0 a1 t215) else (if t220 = (-9223372036854775808) then (if a1 = (-1) then (tripwirelaw01_FixnumBack.j2 kj11 a0 a1 t215) else (some false)) else (some false))) = some r := by rw [if_pos rfl] at H; exact H
                clear H
                have H := H1
                clear H1
                by_cases c18 : t222 = a0
                · rw [if_pos c18] at H
                  have c18b0 : (t222 == a0) = true := beq_iff_eq.mpr c18
                  have c18b1 : (t222 != a0) = false := bne_eq_false_iff_eq.mpr c18
                  clear c18
                  (first | rw [c18b0] | (simp only [i64_w, i32_w]; rw [c18b0]) | skip)
                  have H' := Aside0.mk H
                  clear H
                  go_wp2_with (first | ((with_reducible refine gate_callee (f := 44) rfl ?_); refine goesL_ (some 57) rfl rfl Try.func44 (by kernel_rfl) rfl #[.int .i64 t220, .int .i64 a1] rfl (by (try simp only [List.map_toArray, List.map_cons, List.map_nil]); first | done | rfl | (simp only [List.length_drop, List.length_take]; rfl)) ?_; (with_reducible refine (fixnum_Div.calls t220 a1 t222 true _ A16.out).mono ?_); rintro e w' ⟨rfl, ⟨nd, rfl⟩⟩; refine ⟨_, rfl, ?_⟩))
                  go_meet
                  case rel => exact ⟨_, H', ⟨by have := HJ4.out; have := HJ11.out; first | omega | exact Nat.le_refl _⟩, ⟨by repeat (first | (with_reducible first | exact HB.out | apply below_alloc | apply pw_below_drewN | apply below_drew1) | exact HB.out)⟩⟩
                · rw [if_neg c18] at H
                  have c18b0 : (t222 == a0) = false := beq_eq_false_iff_ne.mpr c18
                  have c18b1 : (t222 != a0) = true := bne_iff_ne.mpr c18
                  (first | rw [c18b0] | (simp only [i64_w, i32_w]; rw [c18b0]) | skip)
                  by_cases c19 : t220 = (-9223372036854775808)
                  · rw [if_pos c19] at H
                    have c19b0 : (t220 == (-9223372036854775808)) = true := beq_iff_eq.mpr c19
                    have c19b1 : (t220 != (-9223372036854775808)) = false := bne_eq_false_iff_eq.mpr c19
                    clear c19
                    by_cases c20 : a1 = (-1)
                    · rw [if_pos c20] at H
                      have c20b0 : (a1 == (-1)) = true := beq_iff_eq.mpr c20
                      have c20b1 : (a1 != (-1)) = false := bne_eq_false_iff_eq.mpr c20
                      clear c20
                      have H' := Aside0.mk H
                      clear H
                      go_wp2_with (first | ((with_reducible refine gate_callee (f := 44) rfl ?_); refine goesL_ (some 57) rfl rfl Try.func44 (by kernel_rfl) rfl #[.int .i64 t220, .int .i64 a1] rfl (by (try simp only [List.map_toArray, List.map_cons, List.map_nil]); first | done | rfl | (simp only [List.length_drop, List.length_take]; rfl)) ?_; (with_reducible refine (fixnum_Div.calls t220 a1 t222 true _ A16.out).mono ?_); rintro e w' ⟨rfl, ⟨nd, rfl⟩⟩; refine ⟨_, rfl, ?_⟩))
                      go_meet
                      case rel => exact ⟨_, H', ⟨by have := HJ4.out; have := HJ11.out; first | omega | exact Nat.le_refl _⟩, ⟨by repeat (first | (with_reducible first | exact HB.out | apply below_alloc | apply pw_below_drewN | apply below_drew1) | exact HB.out)⟩⟩
                    · rw [if_neg c20] at H
                      have c20b0 : (a1 == (-1)) = false := beq_eq_false_iff_ne.mpr c20
                      have c20b1 : (a1 != (-1)) = true := bne_iff_ne.mpr c20
                      obtain rfl := Option.some.inj H
                      go_wp2_with (first | ((with_reducible refine gate_callee (f := 44) rfl ?_); refine goesL_ (some 57) rfl rfl Try.func44 (by kernel_rfl) rfl #[.int .i64 t220, .int .i64 a1] rfl (by (try simp only [List.map_toArray, List.map_cons, List.map_nil]); first | done | rfl | (simp only [List.length_drop, List.length_take]; rfl)) ?_; (with_reducible refine (fixnum_Div.calls t220 a1 t222 true _ A16.out).mono ?_); rintro e w' ⟨rfl, ⟨nd, rfl⟩⟩; refine ⟨_, rfl, ?_⟩))
                      go_ret
                      exact ⟨by first | rfl | (simp [errW_none, errW_some] <;> rfl) | (simp [*, errW_none, errW_some] <;> rfl), by repeat (first | (with_reducible first | exact HB.out | apply below_alloc | apply pw_below_drewN | apply below_drew1) | exact HB.out)⟩
                  · rw [if_neg c19] at H
                    have c19b0 : (t220 == (-9223372036854775808)) = false := beq_eq_false_iff_ne.mpr c19
                    have c19b1 : (t220 != (-9223372036854775808)) = true := bne_iff_ne.mpr c19
                    obtain rfl := Option.some.inj H
                    go_wp2_with (first | ((with_reducible refine gate_callee (f := 44) rfl ?_); refine goesL_ (some 57) rfl rfl Try.func44 (by kernel_rfl) rfl #[.int .i64 t220, .int .i64 a1] rfl (by (try simp only [List.map_toArray, List.map_cons, List.map_nil]); first | done | rfl | (simp only [List.length_drop, List.length_take]; rfl)) ?_; (with_reducible refine (fixnum_Div.calls t220 a1 t222 true _ A16.out).mono ?_); rintro e w' ⟨rfl, ⟨nd, rfl⟩⟩; refine ⟨_, rfl, ?_⟩))
                    go_ret
                    exact ⟨by first | rfl | (simp [errW_none, errW_some] <;> rfl) | (simp [*, errW_none, errW_some] <;> rfl), by repeat (first | (with_reducible first | exact HB.out | apply below_alloc | apply pw_below_drewN | apply below_drew1) | exact HB.out)⟩
              · replace c17 := Bool.eq_false_iff.mpr c17
                subst c17
                have H1 : (if t220 = (-9223372036854775808) then (if a1 = (-1) then (tripwirelaw01_FixnumBack.j2 kj11 a0 a1 t215) else (some false)) else (some false)) = some r := by rw [if_neg (show ¬ (false = true) by decide)] at H; exact H
                clear H
                have H := H1
                clear H1
                by_cases c21 : t220 = (-9223372036854775808)
                · rw [if_pos c21] at H
                  have c21b0 : (t220 == (-9223372036854775808)) = true := beq_iff_eq.mpr c21
                  have c21b1 : (t220 != (-9223372036854775808)) = false := bne_eq_false_iff_eq.mpr c21
                  clear c21
                  by_cases c22 : a1 = (-1)
                  · rw [if_pos c22] at H
                    have c22b0 : (a1 == (-1)) = true := beq_iff_eq.mpr c22
                    have c22b1 : (a1 != (-1)) = false := bne_eq_false_iff_eq.mpr c22
                    clear c22
                    have H' := Aside0.mk H
                    clear H
                    go_wp2_with (first | ((with_reducible refine gate_callee (f := 44) rfl ?_); refine goesL_ (some 57) rfl rfl Try.func44 (by kernel_rfl) rfl #[.int .i64 t220, .int .i64 a1] rfl (by (try simp only [List.map_toArray, List.map_cons, List.map_nil]); first | done | rfl | (simp only [List.length_drop, List.length_take]; rfl)) ?_; (with_reducible refine (fixnum_Div.calls t220 a1 t222 false _ A16.out).mono ?_); rintro e w' ⟨rfl, ⟨nd, rfl⟩⟩; refine ⟨_, rfl, ?_⟩))
                    go_meet
                    case rel => exact ⟨_, H', ⟨by have := HJ4.out; have := HJ11.out; first | omega | exact Nat.le_refl _⟩, ⟨by repeat (first | (with_reducible first | exact HB.out | apply below_alloc | apply pw_below_drewN | apply below_drew1) | exact HB.out)⟩⟩
                  · rw [if_neg c22] at H
                    have c22b0 : (a1 == (-1)) = false := beq_eq_false_iff_ne.mpr c22
                    have c22b1 : (a1 != (-1)) = true := bne_iff_ne.mpr c22
                    obtain rfl := Option.some.inj H
                    go_wp2_with (first | ((with_reducible refine gate_callee (f := 44) rfl ?_); refine goesL_ (some 57) rfl rfl Try.func44 (by kernel_rfl) rfl #[.int .i64 t220, .int .i64 a1] rfl (by (try simp only [List.map_toArray, List.map_cons, List.map_nil]); first | done | rfl | (simp only [List.length_drop, List.length_take]; rfl)) ?_; (with_reducible refine (fixnum_Div.calls t220 a1 t222 false _ A16.out).mono ?_); rintro e w' ⟨rfl, ⟨nd, rfl⟩⟩; refine ⟨_, rfl, ?_⟩))
                    go_ret
                    exact ⟨by first | rfl | (simp [errW_none, errW_some] <;> rfl) | (simp [*, errW_none, errW_some] <;> rfl), by repeat (first | (with_reducible first | exact HB.out | apply below_alloc | apply pw_below_drewN | apply below_drew1) | exact HB.out)⟩
                · rw [if_neg c21] at H
                  have c21b0 : (t220 == (-9223372036854775808)) = false := beq_eq_false_iff_ne.mpr c21
                  have c21b1 : (t220 != (-9223372036854775808)) = true := bne_iff_ne.mpr c21
                  obtain rfl := Option.some.inj H
                  go_wp2_with (first | ((with_reducible refine gate_callee (f := 44) rfl ?_); refine goesL_ (some 57) rfl rfl Try.func44 (by kernel_rfl) rfl #[.int .i64 t220, .int .i64 a1] rfl (by (try simp only [List.map_toArray, List.map_cons, List.map_nil]); first | done | rfl | (simp only [List.length_drop, List.length_take]; rfl)) ?_; (with_reducible refine (fixnum_Div.calls t220 a1 t222 false _ A16.out).mono ?_); rintro e w' ⟨rfl, ⟨nd, rfl⟩⟩; refine ⟨_, rfl, ?_⟩))
                  go_ret
                  exact ⟨by first | rfl | (simp [errW_none, errW_some] <;> rfl) | (simp [*, errW_none, errW_some] <;> rfl), by repeat (first | (with_reducible first | exact HB.out | apply below_alloc | apply pw_below_drewN | apply below_drew1) | exact HB.out)⟩
            · replace c15 := Bool.eq_false_iff.mpr c15
              subst c15
              have H1 : (tripwirelaw01_FixnumBack.j2 kj11 a0 a1 t215) = some r := by rw [if_neg (show ¬ (false = true) by decide)] at H; exact H
              clear H
              have H := H1
              clear H1
              have H' := Aside0.mk H
              clear H
              go_wp2
              go_meet
              case rel => exact ⟨_, H', ⟨by have := HJ4.out; have := HJ11.out; first | omega | exact Nat.le_refl _⟩, ⟨by repeat (first | (with_reducible first | exact HB.out | apply below_alloc | apply pw_below_drewN | apply below_drew1) | exact HB.out)⟩⟩
          case rest =>
            clear HC14
            try clear c1
            try clear c2
            try clear p2
            try clear c3
            try clear c4
            try clear c7
            try clear c9
            try clear c10
            try clear c10b0
            try clear c10b1
            try clear c11
            try clear c13
            try clear c15
            try clear c17
            try clear c18
            try clear c18b0
            try clear c18b1
            try clear c19
            try clear c19b0
            try clear c19b1
            try clear c20
            try clear c20b0
            try clear c20b1
            try clear c21
            try clear c21b0
            try clear c21b1
            try clear c22
            try clear c22b0
            try clear c22b1
            try clear p2
            obtain ⟨kq, HA, HJ13, HB⟩ := hcut
            cases kq with
            | zero => exact absurd HA.out (by simp [tripwirelaw01_FixnumBack.j2])
            | succ kj13 =>
              have H := HA.out
              clear HA
              simp only [tripwirelaw01_FixnumBack.j2] at H
              replace H := Option.bind_eq_some_iff.mp H
              obtain ⟨⟨t224, t225⟩, A230, H⟩ := H
              replace H : ((fixnum_Mod.f a0 a1).bind fun bt226 => (if t225 = true then ((fixnum_Mul.f t224 a1).bind fun bt228 => ((fixnum_Add.f bt228.1 bt226.1).bind fun bt230 => (if bt226.2 = true then (if bt228.2 = true then (if bt230.2 = true then (if bt230.1 = a0 then (if bt226.1 > 0 then (if a0 < 0 then (tripwirelaw01_FixnumBack.j3 kj13 a0 a1 t215 t225 bt226.2 true) else (if bt226.1 < 0 then (tripwirelaw01_FixnumBack.j3 kj13 a0 a1 t215 t225 bt226.2 (decide (a0 > 0))) else (tripwirelaw01_FixnumBack.j3 kj13 a0 a1 t215 t225 bt226.2 false))) else (if bt226.1 < 0 then (tripwirelaw01_FixnumBack.j3 kj13 a0 a1 t215 t225 bt226.2 (decide (a0 > 0))) else (tripwirelaw01_FixnumBack.j3 kj13 a0 a1 t215 t225 bt226.2 false))) else (tripwirelaw01_FixnumBack.j3 kj13 a0 a1 t215 t225 bt226.2 true)) else (tripwirelaw01_FixnumBack.j3 kj13 a0 a1 t215 t225 bt226.2 true)) else (tripwirelaw01_FixnumBack.j3 kj13 a0 a1 t215 t225 bt226.2 true)) else (tripwirelaw01_FixnumBack.j3 kj13 a0 a1 t215 t225 bt226.2 true)))) else ((fixnum_MulDiv.f kj13 a0 a1 a1).bind fun bt234 => (if a1 = 0 then (if t215 = true then (if bt226.2 = true then (some false) else (some (!bt234.2))) else (some false)) else (if t215 = true then (if bt234.2 = true then (some (bt234.1 == a0)) else (some false)) else (some false)))))) = some r := H
              have A23 := Aside0.mk A230
              clear A230
              replace H := Option.bind_eq_some_iff.mp H
              obtain ⟨⟨t226, t227⟩, A240, H⟩ := H
              replace H : (if t225 = true then ((fixnum_Mul.f t224 a1).bind fun bt228 => ((fixnum_Add.f bt228.1 t226).bind fun bt230 => (if t227 = true then (if bt228.2 = true then (if bt230.2 = true then (if bt230.1 = a0 then (if t226 > 0 then (if a0 < 0 then (tripwirelaw01_FixnumBack.j3 kj13 a0 a1 t215 t225 t227 true) else (if t226 < 0 then (tripwirelaw01_FixnumBack.j3 kj13 a0 a1 t215 t225 t227 (decide (a0 > 0))) else (tripwirelaw01_FixnumBack.j3 kj13 a0 a1 t215 t225 t227 false))) else (if t226 < 0 then (tripwirelaw01_FixnumBack.j3 kj13 a0 a1 t215 t225 t227 (decide (a0 > 0))) else (tripwirelaw01_FixnumBack.j3 kj13 a0 a1 t215 t225 t227 false))) else (tripwirelaw01_FixnumBack.j3 kj13 a0 a1 t215 t225 t227 true)) else (tripwirelaw01_FixnumBack.j3 kj13 a0 a1 t215 t225 t227 true)) else (tripwirelaw01_FixnumBack.j3 kj13 a0 a1 t215 t225 t227 true)) else (tripwirelaw01_FixnumBack.j3 kj13 a0 a1 t215 t225 t227 true)))) else ((fixnum_MulDiv.f kj13 a0 a1 a1).bind fun bt234 => (if a1 = 0 then (if t215 = true then (if t227 = true then (some false) else (some (!bt234.2))) else (some false)) else (if t215 = true then (if bt234.2 = true then (some (bt234.1 == a0)) else (some false)) else (some false))))) = some r := H
              have A24 := Aside0.mk A240
              clear A240
              by_cases c25 : t225 = true
              · subst c25
                have H1 : ((fixnum_Mul.f t224 a1).bind fun bt228 => ((fixnum_Add.f bt228.1 t226).bind fun bt230 => (if t227 = true then (if bt228.2 = true then (if bt230.2 = true then (if bt230.1 = a0 then (if t226 > 0 then (if a0 < 0 then (tripwirelaw01_FixnumBack.j3 kj13 a0 a1 t215 true t227 true) else (if t226 < 0 then (tripwirelaw01_FixnumBack.j3 kj13 a0 a1 t215 true t227 (decide (a0 > 0))) else (tripwirelaw01_FixnumBack.j3 kj13 a0 a1 t215 true t227 false))) else (if t226 < 0 then (tripwirelaw01_FixnumBack.j3 kj13 a0 a1 t215 true t227 (decide (a0 > 0))) else (tripwirelaw01_FixnumBack.j3 kj13 a0 a1 t215 true t227 false))) else (tripwirelaw01_FixnumBack.j3 kj13 a0 a1 t215 true t227 true)) else (tripwirelaw01_FixnumBack.j3 kj13 a0 a1 t215 true t227 true)) else (tripwirelaw01_FixnumBack.j3 kj13 a0 a1 t215 true t227 true)) else (tripwirelaw01_FixnumBack.j3 kj13 a0 a1 t215 true t227 true)))) = some r := by rw [if_pos rfl] at H; exact H
                clear H
                have H := H1
                clear H1
                replace H := Option.bind_eq_some_iff.mp H
                obtain ⟨⟨t228, t229⟩, A260, H⟩ := H
                replace H : ((fixnum_Add.f t228 t226).bind fun bt230 => (if t227 = true then (if t229 = true then (if bt230.2 = true then (if bt230.1 = a0 then (if t226 > 0 then (if a0 < 0 then (tripwirelaw01_FixnumBack.j3 kj13 a0 a1 t215 true t227 true) else (if t226 < 0 then (tripwirelaw01_FixnumBack.j3 kj13 a0 a1 t215 true t227 (decide (a0 > 0))) else (tripwirelaw01_FixnumBack.j3 kj13 a0 a1 t215 true t227 false))) else (if t226 < 0 then (tripwirelaw01_FixnumBack.j3 kj13 a0 a1 t215 true t227 (decide (a0 > 0))) else (tripwirelaw01_FixnumBack.j3 kj13 a0 a1 t215 true t227 false))) else (tripwirelaw01_FixnumBack.j3 kj13 a0 a1 t215 true t227 true)) else (tripwirelaw01_FixnumBack.j3 kj13 a0 a1 t215 true t227 true)) else (tripwirelaw01_FixnumBack.j3 kj13 a0 a1 t215 true t227 true)) else (tripwirelaw01_FixnumBack.j3 kj13 a0 a1 t215 true t227 true))) = some r := H
                have A26 := Aside0.mk A260
                clear A260
                replace H := Option.bind_eq_some_iff.mp H
                obtain ⟨⟨t230, t231⟩, A270, H⟩ := H
                replace H : (if t227 = true then (if t229 = true then (if t231 = true then (if t230 = a0 then (if t226 > 0 then (if a0 < 0 then (tripwirelaw01_FixnumBack.j3 kj13 a0 a1 t215 true t227 true) else (if t226 < 0 then (tripwirelaw01_FixnumBack.j3 kj13 a0 a1 t215 true t227 (decide (a0 > 0))) else (tripwirelaw01_FixnumBack.j3 kj13 a0 a1 t215 true t227 false))) else (if t226 < 0 then (tripwirelaw01_FixnumBack.j3 kj13 a0 a1 t215 true t227 (decide (a0 > 0))) else (tripwirelaw01_FixnumBack.j3 kj13 a0 a1 t215 true t227 false))) else (tripwirelaw01_FixnumBack.j3 kj13 a0 a1 t215 true t227 true)) else (tripwirelaw01_FixnumBack.j3 kj13 a0 a1 t215 true t227 true)) else (tripwirelaw01_FixnumBack.j3 kj13 a0 a1 t215 true t227 true)) else (tripwirelaw01_FixnumBack.j3 kj13 a0 a1 t215 true t227 true)) = some r := H
                have A27 := Aside0.mk A270
                clear A270
                have HC28 := Aside0.mk H
                clear H
                go_upto_region 17 with (first | ((with_reducible refine gate_callee (f := 44) rfl ?_); refine goesL_ (some 78) rfl rfl Try.func44 (by kernel_rfl) rfl #[.int .i64 a0, .int .i64 a1] rfl (by (try simp only [List.map_toArray, List.map_cons, List.map_nil]); first | done | rfl | (simp only [List.length_drop, List.length_take]; rfl)) ?_; (with_reducible refine (fixnum_Div.calls a0 a1 t224 true _ A23.out).mono ?_); rintro e w' ⟨rfl, ⟨nd, rfl⟩⟩; refine ⟨_, rfl, ?_⟩) | ((with_reducible refine gate_callee (f := 46) rfl ?_); refine goesL_ (some 84) rfl rfl Try.func46 (by kernel_rfl) rfl #[.int .i64 a0, .int .i64 a1] rfl (by (try simp only [List.map_toArray, List.map_cons, List.map_nil]); first | done | rfl | (simp only [List.length_drop, List.length_take]; rfl)) ?_; (with_reducible refine (fixnum_Mod.calls a0 a1 t226 t227 _ A24.out).mono ?_); rintro e w' ⟨rfl, ⟨nd, rfl⟩⟩; refine ⟨_, rfl, ?_⟩) | ((with_reducible refine gate_callee (f := 42) rfl ?_); refine goesL_ (some 91) rfl rfl Try.func42 (by kernel_rfl) rfl #[.int .i64 t224, .int .i64 a1] rfl (by (try simp only [List.map_toArray, List.map_cons, List.map_nil]); first | done | rfl | (simp only [List.length_drop, List.length_take]; rfl)) ?_; (with_reducible refine (fixnum_Mul.calls t224 a1 t228 t229 _ A26.out).mono ?_); rintro e w' ⟨rfl, ⟨nd, rfl⟩⟩; refine ⟨_, rfl, ?_⟩) | ((with_reducible refine gate_callee (f := 38) rfl ?_); refine goesL_ (some 97) rfl rfl Try.func38 (by kernel_rfl) rfl #[.int .i64 t228, .int .i64 t226] rfl (by (try simp only [List.map_toArray, List.map_cons, List.map_nil]); first | done | rfl | (simp only [List.length_drop, List.length_take]; rfl)) ?_; (with_reducible refine (fixnum_Add.calls t228 t226 t230 t231 _ A27.out).mono ?_); rintro e w' ⟨rfl, ⟨nd, rfl⟩⟩; refine ⟨_, rfl, ?_⟩))
                (try simp only [Act.put, List.setIfInBounds_toArray, List.set_cons_zero, List.set_cons_succ])
                go_cut [130] (fun v130 wc => ∃ (kq : Nat) (x130_27 : Bool), v130 = .bool x130_27 ∧ Aside0 (tripwirelaw01_FixnumBack.j3 kq a0 a1 t215 true t227 x130_27 = some r) ∧ Aside0 (kq ≤ kj13) ∧ Aside0 (Below w.heap.size w wc))
                case first =>
                  have H := HC28.out
                  clear HC28
                  by_cases c29 : t227 = true
                  · subst c29
                    have H1 : (if t229 = true then (if t231 = true then (if t230 = a0 then (if t226 > 0 then (if a0 < 0 then (tripwirelaw01_FixnumBack.j3 kj13 a0 a1 t215 true true true) else (if t226 < 0 then (tripwirelaw01_FixnumBack.j3 kj13 a0 a1 t215 true true (decide (a0 > 0))) else (tripwirelaw01_FixnumBack.j3 kj13 a0 a1 t215 true true false))) else (if t226 < 0 then (tripwirelaw01_FixnumBack.j3 kj13 a0 a1 t215 true true (decide (a0 > 0))) else (tripwirelaw01_FixnumBack.j3 kj13 a0 a1 t215 true true false))) else (tripwirelaw01_FixnumBack.j3 kj13 a0 a1 t215 true true true)) else (tripwirelaw01_FixnumBack.j3 kj13 a0 a1 t215 true true true)) else (tripwirelaw01_FixnumBack.j3 kj13 a0 a1 t215 true true true)) = some r := by rw [if_pos rfl] at H; exact H
                    clear H
                    have H := H1
                    clear H1
                    by_cases c30 : t229 = true
                    · subst c30
                      have H1 : (if t231 = true then (if t230 = a0 then (if t226 > 0 then (if a0 < 0 then (tripwirelaw01_FixnumBack.j3 kj13 a0 a1 t215 true true true) else (if t226 < 0 then (tripwirelaw01_FixnumBack.j3 kj13 a0 a1 t215 true true (decide (a0 > 0))) else (tripwirelaw01_FixnumBack.j3 kj13 a0 a1 t215 true true false))) else (if t226 < 0 then (tripwirelaw01_FixnumBack.j3 kj13 a0 a1 t215 true true (decide (a0 > 0))) else (tripwirelaw01_FixnumBack.j3 kj13 a0 a1 t215 true true false))) else (tripwirelaw01_FixnumBack.j3 kj13 a0 a1 t215 true true true)) else (tripwirelaw01_FixnumBack.j3 kj13 a0 a1 t215 true true true)) = some r := by rw [if_pos rfl] at H; exact H
                      clear H
                      have H := H1
                      clear H1
                      by_cases c31 : t231 = true
                      · subst c31
                        have H1 : (if t230 = a0 then (if t226 > 0 then (if a0 < 0 then (tripwirelaw01_FixnumBack.j3 kj13 a0 a1 t215 true true true) else (if t226 < 0 then (tripwirelaw01_FixnumBack.j3 kj13 a0 a1 t215 true true (decide (a0 > 0))) else (tripwirelaw01_FixnumBack.j3 kj13 a0 a1 t215 true true false))) else (if t226 < 0 then (tripwirelaw01_FixnumBack.j3 kj13 a0 a1 t215 true true (decide (a0 > 0))) else (tripwirelaw01_FixnumBack.j3 kj13 a0 a1 t215 true true false))) else (tripwirelaw01_FixnumBack.j3 kj13 a0 a1 t215 true true true)) = some r := by rw [if_pos rfl] at H; exact H
                        clear H
                        have H := H1
                        clear H1
                        by_cases c32 : t230 = a0
                        · rw [if_pos c32] at H
                          have c32b0 : (t230 == a0) = true := beq_iff_eq.mpr c32
                          have c32b1 : (t230 != a0) = false := bne_eq_false_iff_eq.mpr c32
                          clear c32
                          (first | rw [c32b0] | (simp only [i64_w, i32_w]; rw [c32b0]) | skip)
                          by_cases c33 : t226 > 0
                          · rw [if_pos c33] at H
                            have c33b0 : decide (0 < t226) = true := decide_eq_true c33
                            clear c33
                            by_cases c34 : a0 < 0
                            · rw [if_pos c34] at H
                              have c34b0 : decide (a0 < 0) = true := decide_eq_true c34
                              clear c34
                              have H' := Aside0.mk H
                              clear H
                              go_wp2
                              go_meet
                              case rel => exact ⟨_, (true), (by first | rfl | (simp; done) | (simp [*]; done)), H', ⟨by have := HJ4.out; have := HJ11.out; have := HJ13.out; first | omega | exact Nat.le_refl _⟩, ⟨by repeat (first | (with_reducible first | exact HB.out | apply below_alloc | apply pw_below_drewN | apply below_drew1) | exact HB.out)⟩⟩
                            · rw [if_neg c34] at H
                              have c34b0 : decide (a0 < 0) = false := decide_eq_false c34
                              clear c34
                              by_cases c35 : t226 < 0
                              · rw [if_pos c35] at H
                                have c35b0 : decide (t226 < 0) = true := decide_eq_true c35
                                clear c35
                                have H' := Aside0.mk H
                                clear H
                                go_wp2
                                go_meet
                                case rel => exact ⟨_, (decide (a0 > 0)), (by first | rfl | (simp; done) | (simp [*]; done)), H', ⟨by have := HJ4.out; have := HJ11.out; have := HJ13.out; first | omega | exact Nat.le_refl _⟩, ⟨by repeat (first | (with_reducible first | exact HB.out | apply below_alloc | apply pw_below_drewN | apply below_drew1) | exact HB.out)⟩⟩
                              · rw [if_neg c35] at H
                                have c35b0 : decide (t226 < 0) = false := decide_eq_false c35
                                clear c35
                                have H' := Aside0.mk H
                                clear H
                                go_wp2
                                go_meet
                                case rel => exact ⟨_, (false), (by first | rfl | (simp; done) | (simp [*]; done)), H', ⟨by have := HJ4.out; have := HJ11.out; have := HJ13.out; first | omega | exact Nat.le_refl _⟩, ⟨by repeat (first | (with_reducible first | exact HB.out | apply below_alloc | apply pw_below_drewN | apply below_drew1) | exact HB.out)⟩⟩
                          · rw [if_neg c33] at H
                            have c33b0 : decide (0 < t226) = false := decide_eq_false c33
                            clear c33
                            by_cases c36 : t226 < 0
                            · rw [if_pos c36] at H
                              have c36b0 : decide (t226 < 0) = true := decide_eq_true c36
                              clear c36
                              have H' := Aside0.mk H
                              clear H
                              go_wp2
                              go_meet
                              case rel => exact ⟨_, (decide (a0 > 0)), (by first | rfl | (simp; done) | (simp [*]; done)), H', ⟨by have := HJ4.out; have := HJ11.out; have := HJ13.out; first | omega | exact Nat.le_refl _⟩, ⟨by repeat (first | (with_reducible first | exact HB.out | apply below_alloc | apply pw_below_drewN | apply below_drew1) | exact HB.out)⟩⟩
                            · rw [if_neg c36] at H
                              have c36b0 : decide (t226 < 0) = false := decide_eq_false c36
                              clear c36
                              have H' := Aside0.mk H
                              clear H
                              go_wp2
                              go_meet
                              case rel => exact ⟨_, (false), (by first | rfl | (simp; done) | (simp [*]; done)), H', ⟨by have := HJ4.out; have := HJ11.out; have := HJ13.out; first | omega | exact Nat.le_refl _⟩, ⟨by repeat (first | (with_reducible first | exact HB.out | apply below_alloc | apply pw_below_drewN | apply below_drew1) | exact HB.out)⟩⟩
                        · rw [if_neg c32] at H
                          have c32b0 : (t230 == a0) = false := beq_eq_false_iff_ne.mpr c32
                          have c32b1 : (t230 != a0) = true := bne_iff_ne.mpr c32
                          (first | rw [c32b0] | (simp only [i64_w, i32_w]; rw [c32b0]) | skip)
                          have H' := Aside0.mk H
                          clear H
                          go_wp2
                          go_meet
                          case rel => exact ⟨_, (true), (by first | rfl | (simp; done) | (simp [*]; done)), H', ⟨by have := HJ4.out; have := HJ11.out; have := HJ13.out; first | omega | exact Nat.le_refl _⟩, ⟨by repeat (first | (with_reducible first | exact HB.out | apply below_alloc | apply pw_below_drewN | apply below_drew1) | exact HB.out)⟩⟩
                      · replace c31 := Bool.eq_false_iff.mpr c31
                        subst c31
                        have H1 : (tripwirelaw01_FixnumBack.j3 kj13 a0 a1 t215 true true true) = some r := by rw [if_neg (show ¬ (false = true) by decide)] at H; exact H
                        clear H
                        have H := H1
                        clear H1
                        have H' := Aside0.mk H
                        clear H
                        go_wp2
                        go_meet
                        case rel => exact ⟨_, (true), (by first | rfl | (simp; done) | (simp [*]; done)), H', ⟨by have := HJ4.out; have := HJ11.out; have := HJ13.out; first | omega | exact Nat.le_refl _⟩, ⟨by repeat (first | (with_reducible first | exact HB.out | apply below_alloc | apply pw_below_drewN | apply below_drew1) | exact HB.out)⟩⟩
                    · replace c30 := Bool.eq_false_iff.mpr c30
                      subst c30
                      have H1 : (tripwirelaw01_FixnumBack.j3 kj13 a0 a1 t215 true true true) = some r := by rw [if_neg (show ¬ (false = true) by decide)] at H; exact H
                      clear H
                      have H := H1
                      clear H1
                      have H' := Aside0.mk H
                      clear H
                      go_wp2
                      go_meet
                      case rel => exact ⟨_, (true), (by first | rfl | (simp; done) | (simp [*]; done)), H', ⟨by have := HJ4.out; have := HJ11.out; have := HJ13.out; first | omega | exact Nat.le_refl _⟩, ⟨by repeat (first | (with_reducible first | exact HB.out | apply below_alloc | apply pw_below_drewN | apply below_drew1) | exact HB.out)⟩⟩
                  · replace c29 := Bool.eq_false_iff.mpr c29
                    subst c29
                    have H1 : (tripwirelaw01_FixnumBack.j3 kj13 a0 a1 t215 true false true) = some r := by rw [if_neg (show ¬ (false = true) by decide)] at H; exact H
                    clear H
                    have H := H1
                    clear H1
                    have H' := Aside0.mk H
                    clear H
                    go_wp2
                    go_meet
                    case rel => exact ⟨_, (true), (by first | rfl | (simp; done) | (simp [*]; done)), H', ⟨by have := HJ4.out; have := HJ11.out; have := HJ13.out; first | omega | exact Nat.le_refl _⟩, ⟨by repeat (first | (with_reducible first | exact HB.out | apply below_alloc | apply pw_below_drewN | apply below_drew1) | exact HB.out)⟩⟩
                case rest =>
                  clear HC28
                  try clear c1
                  try clear c2
                  try clear p2
                  try clear c3
                  try clear c4
                  try clear c7
                  try clear c9
                  try clear c10
                  try clear c10b0
                  try clear c10b1
                  try clear c11
                  try clear c13
                  try clear c15
                  try clear c17
                  try clear c18
                  try clear c18b0
                  try clear c18b1
                  try clear c19
                  try clear c19b0
                  try clear c19b1
                  try clear c20
                  try clear c20b0
                  try clear c20b1
                  try clear c21
                  try clear c21b0
                  try clear c21b1
                  try clear c22
                  try clear c22b0
                  try clear c22b1
                  try clear c25
                  try clear c29
                  try clear c30
                  try clear c31
                  try clear c32
                  try clear c32b0
                  try clear c32b1
                  try clear c33
                  try clear c33b0
                  try clear c34
                  try clear c34b0
                  try clear c35
                  try clear c35b0
                  try clear c36
                  try clear c36b0
                  try clear p2
                  obtain ⟨kq, x130_27, rfl, HA, HJ27, HB⟩ := hcut
                  cases kq with
                  | zero => exact absurd HA.out (by simp [tripwirelaw01_FixnumBack.j3])
                  | succ kj27 =>
                    have H := HA.out
                    clear HA
                    simp only [tripwirelaw01_FixnumBack.j3] at H
                    by_cases c37 : x130_27 = true
                    · subst c37
                      have H1 : (some false) = some r := by rw [if_pos rfl] at H; exact H
                      clear H
                      have H := H1
                      clear H1
                      obtain rfl := Option.some.inj H
                      go_wp2
                      go_ret
                      exact ⟨by first | rfl | (simp [errW_none, errW_some] <;> rfl) | (simp [*, errW_none, errW_some] <;> rfl), by repeat (first | (with_reducible first | exact HB.out | apply below_alloc | apply pw_below_drewN | apply below_drew1) | exact HB.out)⟩
                    · replace c37 := Bool.eq_false_iff.mpr c37
                      subst c37
                      have H1 : ((fixnum_MulDiv.f kj27 a0 a1 a1).bind fun bt232 => (if a1 = 0 then (if t215 = true then (if true = true then (some false) else (if t227 = true then (some false) else (some (!bt232.2)))) else (some false)) else (if t215 = true then (if bt232.2 = true then (some (bt232.1 == a0)) else (some false)) else (some false)))) = some r := by rw [if_neg (show ¬ (false = true) by decide)] at H; exact H
                      clear H
                      have H := H1
                      clear H1
                      replace H := Option.bind_eq_some_iff.mp H
                      obtain ⟨⟨t232, t233⟩, A380, H⟩ := H
                      replace H : (if a1 = 0 then (if t215 = true then (if true = true then (some false) else (if t227 = true then (some false) else (some (!t233)))) else (some false)) else (if t215 = true then (if t233 = true then (some (t232 == a0)) else (some false)) else (some false))) = some r := H
                      have A38 := Aside0.mk A380
                      clear A380
                      by_cases c39 : a1 = 0
                      · rw [if_pos c39] at H
                        have c39b0 : (a1 == 0) = true := beq_iff_eq.mpr c39
                        have c39b1 : (a1 != 0) = false := bne_eq_false_iff_eq.mpr c39
                        clear c39
                        by_cases c40 : t215 = true
                        · subst c40
                          have H1 : (if true = true then (some false) else (if t227 = true then (some false) else (some (!t233)))) = some r := by rw [if_pos rfl] at H; exact H
                          clear H
                          have H := H1
                          clear H1
                          by_cases c41 : true = true
                          · clear c41
                            have H1 : (some false) = some r := by rw [if_pos rfl] at H; exact H
                            clear H
                            have H := H1
                            clear H1
                            obtain rfl := Option.some.inj H
                            go_wp2_with (first | ((with_reducible refine gate_callee (f := 50) rfl ?_); refine goesL_ (some 135) rfl rfl Try.func50 (by kernel_rfl) rfl #[.int .i64 a0, .int .i64 a1, .int .i64 a1] rfl (by (try simp only [List.map_toArray, List.map_cons, List.map_nil]); first | done | rfl | (simp only [List.length_drop, List.length_take]; rfl)) ?_; (with_reducible refine (fixnum_MulDiv.calls kj27 a0 a1 a1 t232 t233 _ A38.out).mono ?_); rintro e w' ⟨rfl, ⟨nd, rfl⟩⟩; refine ⟨_, rfl, ?_⟩))
                            go_ret
                            exact ⟨by first | rfl | (simp [errW_none, errW_some] <;> rfl) | (simp [*, errW_none, errW_some] <;> rfl), by repeat (first | (with_reducible first | exact HB.out | apply below_alloc | apply pw_below_drewN | apply below_drew1) | exact HB.out)⟩
                          · exact absurd rfl c41
                        · replace c40 := Bool.eq_false_iff.mpr c40
                          subst c40
                          have H1 : (some false) = some r := by rw [if_neg (show ¬ (false = true) by decide)] at H; exact H
                          clear H
                          have H := H1
                          clear H1
                          obtain rfl := Option.some.inj H
                          go_wp2_with (first | ((with_reducible refine gate_callee (f := 50) rfl ?_); refine goesL_ (some 135) rfl rfl Try.func50 (by kernel_rfl) rfl #[.int .i64 a0, .int .i64 a1, .int .i64 a1] rfl (by (try simp only [List.map_toArray, List.map_cons, List.map_nil]); first | done | rfl | (simp only [List.length_drop, List.length_take]; rfl)) ?_; (with_reducible refine (fixnum_MulDiv.calls kj27 a0 a1 a1 t232 t233 _ A38.out).mono ?_); rintro e w' ⟨rfl, ⟨nd, rfl⟩⟩; refine ⟨_, rfl, ?_⟩))
                          go_ret
                          exact ⟨by first | rfl | (simp [errW_none, errW_some] <;> rfl) | (simp [*, errW_none, errW_some] <;> rfl), by repeat (first | (with_reducible first | exact HB.out | apply below_alloc | apply pw_below_drewN | apply below_drew1) | exact HB.out)⟩
                      · rw [if_neg c39] at H
                        have c39b0 : (a1 == 0) = false := beq_eq_false_iff_ne.mpr c39
                        have c39b1 : (a1 != 0) = true := bne_iff_ne.mpr c39
                        by_cases c43 : t215 = true
                        · subst c43
                          have H1 : (if t233 = true then (some (t232 == a0)) else (some false)) = some r := by rw [if_pos rfl] at H; exact H
                          clear H
                          have H := H1
                          clear H1
                          by_cases c44 : t233 = true
                          · subst c44
                            have H1 : (some (t232 == a0)) = some r := by rw [if_pos rfl] at H; exact H
                            clear H
                            have H := H1
                            clear H1
                            obtain rfl := Option.some.inj H
                            go_wp2_with (first | ((with_reducible refine gate_callee (f := 50) rfl ?_); refine goesL_ (some 135) rfl rfl Try.func50 (by kernel_rfl) rfl #[.int .i64 a0, .int .i64 a1, .int .i64 a1] rfl (by (try simp only [List.map_toArray, List.map_cons, List.map_nil]); first | done | rfl | (simp only [List.length_drop, List.length_take]; rfl)) ?_; (with_reducible refine (fixnum_MulDiv.calls kj27 a0 a1 a1 t232 true _ A38.out).mono ?_); rintro e w' ⟨rfl, ⟨nd, rfl⟩⟩; refine ⟨_, rfl, ?_⟩))
                            go_ret
                            exact ⟨by first | rfl | (simp [errW_none, errW_some] <;> rfl) | (simp [*, errW_none, errW_some] <;> rfl), by repeat (first | (with_reducible first | exact HB.out | apply below_alloc | apply pw_below_drewN | apply below_drew1) | exact HB.out)⟩
                          · replace c44 := Bool.eq_false_iff.mpr c44
                            subst c44
                            have H1 : (some false) = some r := by rw [if_neg (show ¬ (false = true) by decide)] at H; exact H
                            clear H
                            have H := H1
                            clear H1
                            obtain rfl := Option.some.inj H
                            go_wp2_with (first | ((with_reducible refine gate_callee (f := 50) rfl ?_); refine goesL_ (some 135) rfl rfl Try.func50 (by kernel_rfl) rfl #[.int .i64 a0, .int .i64 a1, .int .i64 a1] rfl (by (try simp only [List.map_toArray, List.map_cons, List.map_nil]); first | done | rfl | (simp only [List.length_drop, List.length_take]; rfl)) ?_; (with_reducible refine (fixnum_MulDiv.calls kj27 a0 a1 a1 t232 false _ A38.out).mono ?_); rintro e w' ⟨rfl, ⟨nd, rfl⟩⟩; refine ⟨_, rfl, ?_⟩))
                            go_ret
                            exact ⟨by first | rfl | (simp [errW_none, errW_some] <;> rfl) | (simp [*, errW_none, errW_some] <;> rfl), by repeat (first | (with_reducible first | exact HB.out | apply below_alloc | apply pw_below_drewN | apply below_drew1) | exact HB.out)⟩
                        · replace c43 := Bool.eq_false_iff.mpr c43
                          subst c43
                          have H1 : (some false) = some r := by rw [if_neg (show ¬ (false = true) by decide)] at H; exact H
                          clear H
                          have H := H1
                          clear H1
                          obtain rfl := Option.some.inj H
                          go_wp2_with (first | ((with_reducible refine gate_callee (f := 50) rfl ?_); refine goesL_ (some 135) rfl rfl Try.func50 (by kernel_rfl) rfl #[.int .i64 a0, .int .i64 a1, .int .i64 a1] rfl (by (try simp only [List.map_toArray, List.map_cons, List.map_nil]); first | done | rfl | (simp only [List.length_drop, List.length_take]; rfl)) ?_; (with_reducible refine (fixnum_MulDiv.calls kj27 a0 a1 a1 t232 t233 _ A38.out).mono ?_); rintro e w' ⟨rfl, ⟨nd, rfl⟩⟩; refine ⟨_, rfl, ?_⟩))
                          go_ret
                          exact ⟨by first | rfl | (simp [errW_none, errW_some] <;> rfl) | (simp [*, errW_none, errW_some] <;> rfl), by repeat (first | (with_reducible first | exact HB.out | apply below_alloc | apply pw_below_drewN | apply below_drew1) | exact HB.out)⟩
              · replace c25 := Bool.eq_false_iff.mpr c25
                subst c25
                have H1 : ((fixnum_MulDiv.f kj13 a0 a1 a1).bind fun bt234 => (if a1 = 0 then (if t215 = true then (if t227 = true then (some false) else (some (!bt234.2))) else (some false)) else (if t215 = true then (if bt234.2 = true then (some (bt234.1 == a0)) else (some false)) else (some false)))) = some r := by rw [if_neg (show ¬ (false = true) by decide)] at H; exact H
                clear H
                have H := H1
                clear H1
                replace H := Option.bind_eq_some_iff.mp H
                obtain ⟨⟨t234, t235⟩, A450, H⟩ := H
                replace H : (if a1 = 0 then (if t215 = true then (if t227 = true then (some false) else (some (!t235))) else (some false)) else (if t215 = true then (if t235 = true then (some (t234 == a0)) else (some false)) else (some false))) = some r := H
                have A45 := Aside0.mk A450
                clear A450
                by_cases c46 : a1 = 0
                · rw [if_pos c46] at H
                  have c46b0 : (a1 == 0) = true := beq_iff_eq.mpr c46
                  have c46b1 : (a1 != 0) = false := bne_eq_false_iff_eq.mpr c46
                  clear c46
                  by_cases c47 : t215 = true
                  · subst c47
                    have H1 : (if t227 = true then (some false) else (some (!t235))) = some r := by rw [if_pos rfl] at H; exact H
                    clear H
                    have H := H1
                    clear H1
                    by_cases c48 : t227 = true
                    · subst c48
                      have H1 : (some false) = some r := by rw [if_pos rfl] at H; exact H
                      clear H
                      have H := H1
                      clear H1
                      obtain rfl := Option.some.inj H
                      go_wp2_with (first | ((with_reducible refine gate_callee (f := 44) rfl ?_); refine goesL_ (some 78) rfl rfl Try.func44 (by kernel_rfl) rfl #[.int .i64 a0, .int .i64 a1] rfl (by (try simp only [List.map_toArray, List.map_cons, List.map_nil]); first | done | rfl | (simp only [List.length_drop, List.length_take]; rfl)) ?_; (with_reducible refine (fixnum_Div.calls a0 a1 t224 false _ A23.out).mono ?_); rintro e w' ⟨rfl, ⟨nd, rfl⟩⟩; refine ⟨_, rfl, ?_⟩) | ((with_reducible refine gate_callee (f := 46) rfl ?_); refine goesL_ (some 84) rfl rfl Try.func46 (by kernel_rfl) rfl #[.int .i64 a0, .int .i64 a1] rfl (by (try simp only [List.map_toArray, List.map_cons, List.map_nil]); first | done | rfl | (simp only [List.length_drop, List.length_take]; rfl)) ?_; (with_reducible refine (fixnum_Mod.calls a0 a1 t226 true _ A24.out).mono ?_); rintro e w' ⟨rfl, ⟨nd, rfl⟩⟩; refine ⟨_, rfl, ?_⟩) | ((with_reducible refine gate_callee (f := 50) rfl ?_); refine goesL_ (some 135) rfl rfl Try.func50 (by kernel_rfl) rfl #[.int .i64 a0, .int .i64 a1, .int .i64 a1] rfl (by (try simp only [List.map_toArray, List.map_cons, List.map_nil]); first | done | rfl | (simp only [List.length_drop, List.length_take]; rfl)) ?_; (with_reducible refine (fixnum_MulDiv.calls kj13 a0 a1 a1 t234 t235 _ A45.out).mono ?_); rintro e w' ⟨rfl, ⟨nd, rfl⟩⟩; refine ⟨_, rfl, ?_⟩))
                      go_ret
                      exact ⟨by first | rfl | (simp [errW_none, errW_some] <;> rfl) | (simp [*, errW_none, errW_some] <;> rfl), by repeat (first | (with_reducible first | exact HB.out | apply below_alloc | apply pw_below_drewN | apply below_drew1) | exact HB.out)⟩
                    · replace c48 := Bool.eq_false_iff.mpr c48
                      subst c48
                      have H1 : (some (!t235)) = some r := by rw [if_neg (show ¬ (false = true) by decide)] at H; exact H
                      clear H
                      have H := H1
                      clear H1
                      obtain rfl := Option.some.inj H
                      go_wp2_with (first | ((with_reducible refine gate_callee (f := 44) rfl ?_); refine goesL_ (some 78) rfl rfl Try.func44 (by kernel_rfl) rfl #[.int .i64 a0, .int .i64 a1] rfl (by (try simp only [List.map_toArray, List.map_cons, List.map_nil]); first | done | rfl | (simp only [List.length_drop, List.length_take]; rfl)) ?_; (with_reducible refine (fixnum_Div.calls a0 a1 t224 false _ A23.out).mono ?_); rintro e w' ⟨rfl, ⟨nd, rfl⟩⟩; refine ⟨_, rfl, ?_⟩) | ((with_reducible refine gate_callee (f := 46) rfl ?_); refine goesL_ (some 84) rfl rfl Try.func46 (by kernel_rfl) rfl #[.int .i64 a0, .int .i64 a1] rfl (by (try simp only [List.map_toArray, List.map_cons, List.map_nil]); first | done | rfl | (simp only [List.length_drop, List.length_take]; rfl)) ?_; (with_reducible refine (fixnum_Mod.calls a0 a1 t226 false _ A24.out).mono ?_); rintro e w' ⟨rfl, ⟨nd, rfl⟩⟩; refine ⟨_, rfl, ?_⟩) | ((with_reducible refine gate_callee (f := 50) rfl ?_); refine goesL_ (some 135) rfl rfl Try.func50 (by kernel_rfl) rfl #[.int .i64 a0, .int .i64 a1, .int .i64 a1] rfl (by (try simp only [List.map_toArray, List.map_cons, List.map_nil]); first | done | rfl | (simp only [List.length_drop, List.length_take]; rfl)) ?_; (with_reducible refine (fixnum_MulDiv.calls kj13 a0 a1 a1 t234 t235 _ A45.out).mono ?_); rintro e w' ⟨rfl, ⟨nd, rfl⟩⟩; refine ⟨_, rfl, ?_⟩))
                      go_ret
                      exact ⟨by first | rfl | (simp [errW_none, errW_some] <;> rfl) | (simp [*, errW_none, errW_some] <;> rfl), by repeat (first | (with_reducible first | exact HB.out | apply below_alloc | apply pw_below_drewN | apply below_drew1) | exact HB.out)⟩
                  · replace c47 := Bool.eq_false_iff.mpr c47
                    subst c47
                    have H1 : (some false) = some r := by rw [if_neg (show ¬ (false = true) by decide)] at H; exact H
                    clear H
                    have H := H1
                    clear H1
                    obtain rfl := Option.some.inj H
                    go_wp2_with (first | ((with_reducible refine gate_callee (f := 44) rfl ?_); refine goesL_ (some 78) rfl rfl Try.func44 (by kernel_rfl) rfl #[.int .i64 a0, .int .i64 a1] rfl (by (try simp only [List.map_toArray, List.map_cons, List.map_nil]); first | done | rfl | (simp only [List.length_drop, List.length_take]; rfl)) ?_; (with_reducible refine (fixnum_Div.calls a0 a1 t224 false _ A23.out).mono ?_); rintro e w' ⟨rfl, ⟨nd, rfl⟩⟩; refine ⟨_, rfl, ?_⟩) | ((with_reducible refine gate_callee (f := 46) rfl ?_); refine goesL_ (some 84) rfl rfl Try.func46 (by kernel_rfl) rfl #[.int .i64 a0, .int .i64 a1] rfl (by (try simp only [List.map_toArray, List.map_cons, List.map_nil]); first | done | rfl | (simp only [List.length_drop, List.length_take]; rfl)) ?_; (with_reducible refine (fixnum_Mod.calls a0 a1 t226 t227 _ A24.out).mono ?_); rintro e w' ⟨rfl, ⟨nd, rfl⟩⟩; refine ⟨_, rfl, ?_⟩) | ((with_reducible refine gate_callee (f := 50) rfl ?_); refine goesL_ (some 135) rfl rfl Try.func50 (by kernel_rfl) rfl #[.int .i64 a0, .int .i64 a1, .int .i64 a1] rfl (by (try simp only [List.map_toArray, List.map_cons, List.map_nil]); first | done | rfl | (simp only [List.length_drop, List.length_take]; rfl)) ?_; (with_reducible refine (fixnum_MulDiv.calls kj13 a0 a1 a1 t234 t235 _ A45.out).mono ?_); rintro e w' ⟨rfl, ⟨nd, rfl⟩⟩; refine ⟨_, rfl, ?_⟩))
                    go_ret
                    exact ⟨by first | rfl | (simp [errW_none, errW_some] <;> rfl) | (simp [*, errW_none, errW_some] <;> rfl), by repeat (first | (with_reducible first | exact HB.out | apply below_alloc | apply pw_below_drewN | apply below_drew1) | exact HB.out)⟩
                · rw [if_neg c46] at H
                  have c46b0 : (a1 == 0) = false := beq_eq_false_iff_ne.mpr c46
                  have c46b1 : (a1 != 0) = true := bne_iff_ne.mpr c46
                  by_cases c49 : t215 = true
                  · subst c49
                    have H1 : (if t235 = true then (some (t234 == a0)) else (some false)) = some r := by rw [if_pos rfl] at H; exact H
                    clear H
                    have H := H1
                    clear H1
                    by_cases c50 : t235 = true
                    · subst c50
                      have H1 : (some (t234 == a0)) = some r := by rw [if_pos rfl] at H; exact H
                      clear H
                      have H := H1
                      clear H1
                      obtain rfl := Option.some.inj H
                      go_wp2_with (first | ((with_reducible refine gate_callee (f := 44) rfl ?_); refine goesL_ (some 78) rfl rfl Try.func44 (by kernel_rfl) rfl #[.int .i64 a0, .int .i64 a1] rfl (by (try simp only [List.map_toArray, List.map_cons, List.map_nil]); first | done | rfl | (simp only [List.length_drop, List.length_take]; rfl)) ?_; (with_reducible refine (fixnum_Div.calls a0 a1 t224 false _ A23.out).mono ?_); rintro e w' ⟨rfl, ⟨nd, rfl⟩⟩; refine ⟨_, rfl, ?_⟩) | ((with_reducible refine gate_callee (f := 46) rfl ?_); refine goesL_ (some 84) rfl rfl Try.func46 (by kernel_rfl) rfl #[.int .i64 a0, .int .i64 a1] rfl (by (try simp only [List.map_toArray, List.map_cons, List.map_nil]); first | done | rfl | (simp only [List.length_drop, List.length_take]; rfl)) ?_; (with_reducible refine (fixnum_Mod.calls a0 a1 t226 t227 _ A24.out).mono ?_); rintro e w' ⟨rfl, ⟨nd, rfl⟩⟩; refine ⟨_, rfl, ?_⟩) | ((with_reducible refine gate_callee (f := 50) rfl ?_); refine goesL_ (some 135) rfl rfl Try.func50 (by kernel_rfl) rfl #[.int .i64 a0, .int .i64 a1, .int .i64 a1] rfl (by (try simp only [List.map_toArray, List.map_cons, List.map_nil]); first | done | rfl | (simp only [List.length_drop, List.length_take]; rfl)) ?_; (with_reducible refine (fixnum_MulDiv.calls kj13 a0 a1 a1 t234 true _ A45.out).mono ?_); rintro e w' ⟨rfl, ⟨nd, rfl⟩⟩; refine ⟨_, rfl, ?_⟩))
                      go_ret
                      exact ⟨by first | rfl | (simp [errW_none, errW_some] <;> rfl) | (simp [*, errW_none, errW_some] <;> rfl), by repeat (first | (with_reducible first | exact HB.out | apply below_alloc | apply pw_below_drewN | apply below_drew1) | exact HB.out)⟩
                    · replace c50 := Bool.eq_false_iff.mpr c50
                      subst c50
                      have H1 : (some false) = some r := by rw [if_neg (show ¬ (false = true) by decide)] at H; exact H
                      clear H
                      have H := H1
                      clear H1
                      obtain rfl := Option.some.inj H
                      go_wp2_with (first | ((with_reducible refine gate_callee (f := 44) rfl ?_); refine goesL_ (some 78) rfl rfl Try.func44 (by kernel_rfl) rfl #[.int .i64 a0, .int .i64 a1] rfl (by (try simp only [List.map_toArray, List.map_cons, List.map_nil]); first | done | rfl | (simp only [List.length_drop, List.length_take]; rfl)) ?_; (with_reducible refine (fixnum_Div.calls a0 a1 t224 false _ A23.out).mono ?_); rintro e w' ⟨rfl, ⟨nd, rfl⟩⟩; refine ⟨_, rfl, ?_⟩) | ((with_reducible refine gate_callee (f := 46) rfl ?_); refine goesL_ (some 84) rfl rfl Try.func46 (by kernel_rfl) rfl #[.int .i64 a0, .int .i64 a1] rfl (by (try simp only [List.map_toArray, List.map_cons, List.map_nil]); first | done | rfl | (simp only [List.length_drop, List.length_take]; rfl)) ?_; (with_reducible refine (fixnum_Mod.calls a0 a1 t226 t227 _ A24.out).mono ?_); rintro e w' ⟨rfl, ⟨nd, rfl⟩⟩; refine ⟨_, rfl, ?_⟩) | ((with_reducible refine gate_callee (f := 50) rfl ?_); refine goesL_ (some 135) rfl rfl Try.func50 (by kernel_rfl) rfl #[.int .i64 a0, .int .i64 a1, .int .i64 a1] rfl (by (try simp only [List.map_toArray, List.map_cons, List.map_nil]); first | done | rfl | (simp only [List.length_drop, List.length_take]; rfl)) ?_; (with_reducible refine (fixnum_MulDiv.calls kj13 a0 a1 a1 t234 false _ A45.out).mono ?_); rintro e w' ⟨rfl, ⟨nd, rfl⟩⟩; refine ⟨_, rfl, ?_⟩))
                      go_ret
                      exact ⟨by first | rfl | (simp [errW_none, errW_some] <;> rfl) | (simp [*, errW_none, errW_some] <;> rfl), by repeat (first | (with_reducible first | exact HB.out | apply below_alloc | apply pw_below_drewN | apply below_drew1) | exact HB.out)⟩
                  · replace c49 := Bool.eq_false_iff.mpr c49
                    subst c49
                    have H1 : (some false) = some r := by rw [if_neg (show ¬ (false = true) by decide)] at H; exact H
                    clear H
                    have H := H1
                    clear H1
                    obtain rfl := Option.some.inj H
                    go_wp2_with (first | ((with_reducible refine gate_callee (f := 44) rfl ?_); refine goesL_ (some 78) rfl rfl Try.func44 (by kernel_rfl) rfl #[.int .i64 a0, .int .i64 a1] rfl (by (try simp only [List.map_toArray, List.map_cons, List.map_nil]); first | done | rfl | (simp only [List.length_drop, List.length_take]; rfl)) ?_; (with_reducible refine (fixnum_Div.calls a0 a1 t224 false _ A23.out).mono ?_); rintro e w' ⟨rfl, ⟨nd, rfl⟩⟩; refine ⟨_, rfl, ?_⟩) | ((with_reducible refine gate_callee (f := 46) rfl ?_); refine goesL_ (some 84) rfl rfl Try.func46 (by kernel_rfl) rfl #[.int .i64 a0, .int .i64 a1] rfl (by (try simp only [List.map_toArray, List.map_cons, List.map_nil]); first | done | rfl | (simp only [List.length_drop, List.length_take]; rfl)) ?_; (with_reducible refine (fixnum_Mod.calls a0 a1 t226 t227 _ A24.out).mono ?_); rintro e w' ⟨rfl, ⟨nd, rfl⟩⟩; refine ⟨_, rfl, ?_⟩) | ((with_reducible refine gate_callee (f := 50) rfl ?_); refine goesL_ (some 135) rfl rfl Try.func50 (by kernel_rfl) rfl #[.int .i64 a0, .int .i64 a1, .int .i64 a1] rfl (by (try simp only [List.map_toArray, List.map_cons, List.map_nil]); first | done | rfl | (simp only [List.length_drop, List.length_take]; rfl)) ?_; (with_reducible refine (fixnum_MulDiv.calls kj13 a0 a1 a1 t234 t235 _ A45.out).mono ?_); rintro e w' ⟨rfl, ⟨nd, rfl⟩⟩; refine ⟨_, rfl, ?_⟩))
                    go_ret
                    exact ⟨by first | rfl | (simp [errW_none, errW_some] <;> rfl) | (simp [*, errW_none, errW_some] <;> rfl), by repeat (first | (with_reducible first | exact HB.out | apply below_alloc | apply pw_below_drewN | apply below_drew1) | exact HB.out)⟩

/-- THE ONE PURE STATEMENT of tripwirelaw01_FixnumBack: yours. -/
def tripwirelaw01_FixnumBack.Pure : Prop := ∀ (a0 : Int) (a1 : Int), (Lit.int .i64 a0).wf = true → (Lit.int .i64 a1).wf = true → ∃ k, tripwirelaw01_FixnumBack.f k a0 a1 = some true
theorem tripwirelaw01_FixnumBack.walk (P : tripwirelaw01_FixnumBack.Pure) (a0 : Int) (a1 : Int) (w : World) (w0 : (Lit.int .i64 a0).wf = true) (w1 : (Lit.int .i64 a1).wf = true) :
    Calls Try.prog 11 #[.int .i64 a0, .int .i64 a1] w fun e w' => e = .returned (.bool true) ∧ Below w.heap.size w w' := by
  obtain ⟨k, h⟩ := P a0 a1 w0 w1
  refine (tripwirelaw01_FixnumBack.calls k a0 a1 true w h).mono ?_
  rintro e w' ⟨rfl, hd⟩
  exact ⟨rfl, hd⟩

end Go.Proofs.Ytcninjadeagenaa.HFixnum
