/- Go functions as Lean functions, each with a proof that the Go code comes to just its answers; a part of the proofs of the laws of the family Wire. No condition but those that each theorem names. Written by a program of this session (hprint.py). -/
import Derived.Test.YtcninjadeagenaaHWirex0
import Derived.Test.YtcninjadeagenaaHWirex1
import Derived.Test.YtcninjadeagenaaHWirex2
import Derived.Test.YtcninjadeagenaaHWirex3
namespace Go.Proofs.Ytcninjadeagenaa.HWire
open Go.RowKit Go.Proofs.YtcninjadeagenaaW.PrintWords Go.Proofs.YtcninjadeagenaaW.PrintLast Go.Proofs.YtcninjadeagenaaW.PrintMore
attribute [local go_sem] max2_int min2_int max_two min_two max_three min_three max_four min_four   -- for this text's walks alone
set_option linter.unusedVariables false
set_option linter.unusedSimpArgs false

/-! ### tripwirelaw03_WireBack: function 4 -/
def tripwirelaw03_WireBack.j0 : Nat → ByteArray → ByteArray → ByteArray → Bool → Bool → Option (Bool)
  | 0, _, _, _, _, _ => none
  | k + 1, x0, x2, x4, x11, x18 => if (x2.size : Int) > 65536 then ((wire_Frame.f k x2).bind fun bt187 => (if x11 = true then (if x18 = true then (if bt187.1.toList = ([] : List UInt8) then (some (bt187.2 == 31)) else (some false)) else (some false)) else (some false))) else ((wire_PutText.f k x0 x2).bind fun t189 => (if t189.size + x4.size ≤ 9223372036854775807 then ((wire_TakeText.f k (t189 ++ x4) (x0.size : Int)).bind fun bt190 => (if bt190.1.toList = x2.toList then (if bt190.2.1 = (t189.size : Int) then ((wire_Frame.f k x2).bind fun bt193 => (if x0.size + bt193.1.size ≤ 9223372036854775807 then (if (x0 ++ bt193.1).size + x4.size ≤ 9223372036854775807 then ((wire_Unframe.f k ((x0 ++ bt193.1) ++ x4) (x0.size : Int)).bind fun bt195 => (if x11 = true then (if x18 = true then (if bt190.2.2 = 0 then (if bt193.2 = 0 then (if bt195.1.toList = x2.toList then (if bt195.2.1 = (wrap64 ((x0.size : Int) + (bt193.1.size : Int))) then (some (bt195.2.2 == 0)) else (some false)) else (some false)) else (some false)) else (some false)) else (some false)) else (some false))) else (none)) else (none))) else ((wire_Frame.f k x2).bind fun bt198 => (if x0.size + bt198.1.size ≤ 9223372036854775807 then (if (x0 ++ bt198.1).size + x4.size ≤ 9223372036854775807 then ((wire_Unframe.f k ((x0 ++ bt198.1) ++ x4) (x0.size : Int)).bind fun bt200 => (if x11 = true then (if x18 = true then (some false) else (some false)) else (some false))) else (none)) else (none)))) else ((wire_Frame.f k x2).bind fun bt203 => (if x0.size + bt203.1.size ≤ 9223372036854775807 then (if (x0 ++ bt203.1).size + x4.size ≤ 9223372036854775807 then ((wire_Unframe.f k ((x0 ++ bt203.1) ++ x4) (x0.size : Int)).bind fun bt205 => (if x11 = true then (if x18 = true then (some false) else (some false)) else (some false))) else (none)) else (none))))) else (none)))
def tripwirelaw03_WireBack.f (k : Nat) (a0 : ByteArray) (a1 : Int) (a2 : ByteArray) (a3 : Int) (a4 : ByteArray) : Option (Bool) := (tripwirelaw03_works.f k).bind fun t175 => (if (wrap64 ((wrap64 ((a0.size : Int) + (a2.size : Int))) + (a4.size : Int))) > 33554431 then (some t175) else ((wire_Put.f k a0 (([a1] : List Int))).bind fun t179 => (if t179.size + a4.size ≤ 9223372036854775807 then ((wire_Take.f k (t179 ++ a4) (a0.size : Int)).bind fun bt180 => ((wire_Zig.f a3).bind fun t183 => ((wire_Zag.f t183).bind fun t184 => ((wire_Zag.f a1).bind fun t185 => ((wire_Zig.f t185).bind fun t186 => (if bt180.1 = a1 then (if bt180.2.1 = (t179.size : Int) then (if bt180.2.2 = 0 then (if t184 = a3 then (tripwirelaw03_WireBack.j0 k a0 a2 a4 t175 (t186 == a1)) else (tripwirelaw03_WireBack.j0 k a0 a2 a4 t175 false)) else (tripwirelaw03_WireBack.j0 k a0 a2 a4 t175 false)) else (tripwirelaw03_WireBack.j0 k a0 a2 a4 t175 false)) else (tripwirelaw03_WireBack.j0 k a0 a2 a4 t175 false))))))) else (none))))
theorem tripwirelaw03_WireBack.mono_l : ∀ k, (∀ y0 y1 y2 y3 y4, LeO (tripwirelaw03_WireBack.j0 k y0 y1 y2 y3 y4) (tripwirelaw03_WireBack.j0 (k + 1) y0 y1 y2 y3 y4))
  | 0 => fun _ _ _ _ _ r h => by simp [tripwirelaw03_WireBack.j0] at h
  | k + 1 => by
    have ih0 := tripwirelaw03_WireBack.mono_l k
    · intro y0 y1 y2 y3 y4
      unfold tripwirelaw03_WireBack.j0
      repeat' first
      | (with_reducible exact ih0 _ _ _ _ _)
      | (with_reducible exact tripwirelaw03_works.mono _)
      | (with_reducible exact wire_Frame.mono _ _)
      | (with_reducible exact wire_Put.mono _ _ _)
      | (with_reducible exact wire_PutText.mono _ _ _)
      | (with_reducible exact wire_Take.mono _ _ _)
      | (with_reducible exact wire_TakeText.mono _ _ _)
      | (with_reducible exact wire_Unframe.mono _ _ _)
      | (with_reducible exact LeO.refl _)
      | (with_reducible exact LeO.none _)
      | (with_reducible refine LeO.ite ?_ ?_)
      | (with_reducible refine LeO.bind ?_ (fun _ => ?_))
      | exact ih0 _ _ _ _ _
      | exact tripwirelaw03_works.mono _
      | exact wire_Frame.mono _ _
      | exact wire_Put.mono _ _ _
      | exact wire_PutText.mono _ _ _
      | exact wire_Take.mono _ _ _
      | exact wire_TakeText.mono _ _ _
      | exact wire_Unframe.mono _ _ _
      | exact LeO.none _
      | refine LeO.ite ?_ ?_
      | refine LeO.bind ?_ (fun _ => ?_)
theorem tripwirelaw03_WireBack.mono : ∀ a0 a1 a2 a3 a4 k, LeO (tripwirelaw03_WireBack.f k a0 a1 a2 a3 a4) (tripwirelaw03_WireBack.f (k + 1) a0 a1 a2 a3 a4) := by
  intro a0 a1 a2 a3 a4 k
  have ih0 := tripwirelaw03_WireBack.mono_l k
  unfold tripwirelaw03_WireBack.f
  repeat' first
      | (with_reducible exact ih0 _ _ _ _ _)
      | (with_reducible exact tripwirelaw03_works.mono _)
      | (with_reducible exact wire_Frame.mono _ _)
      | (with_reducible exact wire_Put.mono _ _ _)
      | (with_reducible exact wire_PutText.mono _ _ _)
      | (with_reducible exact wire_Take.mono _ _ _)
      | (with_reducible exact wire_TakeText.mono _ _ _)
      | (with_reducible exact wire_Unframe.mono _ _ _)
      | (with_reducible exact LeO.refl _)
      | (with_reducible exact LeO.none _)
      | (with_reducible refine LeO.ite ?_ ?_)
      | (with_reducible refine LeO.bind ?_ (fun _ => ?_))
      | exact ih0 _ _ _ _ _
      | exact tripwirelaw03_works.mono _
      | exact wire_Frame.mono _ _
      | exact wire_Put.mono _ _ _
      | exact wire_PutText.mono _ _ _
      | exact wire_Take.mono _ _ _
      | exact wire_TakeText.mono _ _ _
      | exact wire_Unframe.mono _ _ _
      | exact LeO.none _
      | refine LeO.ite ?_ ?_
      | refine LeO.bind ?_ (fun _ => ?_)
set_option maxHeartbeats 8000000 in
set_option maxRecDepth 100000 in
theorem tripwirelaw03_WireBack.calls (k : Nat) (a0 : ByteArray) (a1 : Int) (a2 : ByteArray) (a3 : Int) (a4 : ByteArray) (r : Bool) (w : World) (h : tripwirelaw03_WireBack.f k a0 a1 a2 a3 a4 = some r) :
    Calls Try.prog 4 #[.string a0, .int .u64 a1, .string a2, .int .i64 a3, .string a4] w fun e w' => e = .returned (.bool r) ∧ Below w.heap.size w w' := by
  have HB := Aside0.mk (Below.refl w.heap.size w)
  have H : ((tripwirelaw03_works.f k).bind fun t175 => (if (wrap64 ((wrap64 ((a0.size : Int) + (a2.size : Int))) + (a4.size : Int))) > 33554431 then (some t175) else ((wire_Put.f k a0 (([a1] : List Int))).bind fun t179 => (if t179.size + a4.size ≤ 9223372036854775807 then ((wire_Take.f k (t179 ++ a4) (a0.size : Int)).bind fun bt180 => ((wire_Zig.f a3).bind fun t183 => ((wire_Zag.f t183).bind fun t184 => ((wire_Zag.f a1).bind fun t185 => ((wire_Zig.f t185).bind fun t186 => (if bt180.1 = a1 then (if bt180.2.1 = (t179.size : Int) then (if bt180.2.2 = 0 then (if t184 = a3 then (tripwirelaw03_WireBack.j0 k a0 a2 a4 t175 (t186 == a1)) else (tripwirelaw03_WireBack.j0 k a0 a2 a4 t175 false)) else (tripwirelaw03_WireBack.j0 k a0 a2 a4 t175 false)) else (tripwirelaw03_WireBack.j0 k a0 a2 a4 t175 false)) else (tripwirelaw03_WireBack.j0 k a0 a2 a4 t175 false))))))) else (none))))) = some r := h
  clear h
  replace H := Option.bind_eq_some_iff.mp H
  obtain ⟨t175, A60, H⟩ := H
  replace H : (if (wrap64 ((wrap64 ((a0.size : Int) + (a2.size : Int))) + (a4.size : Int))) > 33554431 then (some t175) else ((wire_Put.f k a0 (([a1] : List Int))).bind fun t179 => (if t179.size + a4.size ≤ 9223372036854775807 then ((wire_Take.f k (t179 ++ a4) (a0.size : Int)).bind fun bt180 => ((wire_Zig.f a3).bind fun t183 => ((wire_Zag.f t183).bind fun t184 => ((wire_Zag.f a1).bind fun t185 => ((wire_Zig.f t185).bind fun t186 => (if bt180.1 = a1 then (if bt180.2.1 = (t179.size : Int) then (if bt180.2.2 = 0 then (if t184 = a3 then (tripwirelaw03_WireBack.j0 k a0 a2 a4 t175 (t186 == a1)) else (tripwirelaw03_WireBack.j0 k a0 a2 a4 t175 false)) else (tripwirelaw03_WireBack.j0 k a0 a2 a4 t175 false)) else (tripwirelaw03_WireBack.j0 k a0 a2 a4 t175 false)) else (tripwirelaw03_WireBack.j0 k a0 a2 a4 t175 false))))))) else (none)))) = some r := H
  have A6 := Aside0.mk A60
  clear A60
  by_cases c7 : (wrap64 ((wrap64 ((a0.size : Int) + (a2.size : Int))) + (a4.size : Int))) > 33554431
  · rw [if_pos c7] at H
    have c7b0 : decide (33554431 < (wrap64 ((wrap64 ((a0.size : Int) + (a2.size : Int))) + (a4.size : Int)))) = true := decide_eq_true c7
    clear c7
    obtain rfl := Option.some.inj H
    go_enter Try.func4, Try.ntmps4
    go_wp2_with (first | ((with_reducible refine gate_callee (f := 14) rfl ?_); refine goesL_ (some 26) rfl rfl Try.func14 (by kernel_rfl) rfl #[] rfl (by (try simp only [List.map_toArray, List.map_cons, List.map_nil]); first | done | rfl | (simp only [List.length_drop, List.length_take]; rfl)) ?_; (with_reducible refine (tripwirelaw03_works.calls k  t175 _ A6.out).mono ?_); rintro e w8 ⟨rfl, hb⟩; refine ⟨_, rfl, ?_⟩; have n0_ := Aside0.mk (below_step (by repeat (first | (with_reducible first | exact HB.out | apply below_alloc | apply pw_below_drewN | apply below_drew1) | exact HB.out)) hb); clear HB; have HB := n0_; clear n0_; (try clear hb); (try clear hb2); (try clear hk); (try clear hi)))
    go_ret
    exact ⟨by first | rfl | (simp [errW_none, errW_some] <;> rfl) | (simp [*, errW_none, errW_some] <;> rfl), by repeat (first | (with_reducible first | exact HB.out | apply below_alloc | apply pw_below_drewN | apply below_drew1) | exact HB.out)⟩
  · rw [if_neg c7] at H
    have c7b0 : decide (33554431 < (wrap64 ((wrap64 ((a0.size : Int) + (a2.size : Int))) + (a4.size : Int)))) = false := decide_eq_false c7
    clear c7
    obtain ⟨y176, hy176⟩ : ∃ y_ : List Int, y_ = (([a1] : List Int)) := ⟨_, rfl⟩
    replace H : ((wire_Put.f k a0 y176).bind fun t179 => (if t179.size + a4.size ≤ 9223372036854775807 then ((wire_Take.f k (t179 ++ a4) (a0.size : Int)).bind fun bt180 => ((wire_Zig.f a3).bind fun t183 => ((wire_Zag.f t183).bind fun t184 => ((wire_Zag.f a1).bind fun t185 => ((wire_Zig.f t185).bind fun t186 => (if bt180.1 = a1 then (if bt180.2.1 = (t179.size : Int) then (if bt180.2.2 = 0 then (if t184 = a3 then (tripwirelaw03_WireBack.j0 k a0 a2 a4 t175 (t186 == a1)) else (tripwirelaw03_WireBack.j0 k a0 a2 a4 t175 false)) else (tripwirelaw03_WireBack.j0 k a0 a2 a4 t175 false)) else (tripwirelaw03_WireBack.j0 k a0 a2 a4 t175 false)) else (tripwirelaw03_WireBack.j0 k a0 a2 a4 t175 false))))))) else (none))) = some r := by first | (rw [hy176]; with_reducible exact H) | (have H2_ := (Option.bind_some _ _).symm.trans H; rw [hy176]; with_reducible exact H2_) | (have H2_ := (Option.bind_some _ _).symm.trans H; with_reducible exact H2_) | with_reducible exact H | (rw [hy176]; exact H) | exact H
    have Ny176 := Aside0.mk hy176
    clear hy176
    replace H := Option.bind_eq_some_iff.mp H
    obtain ⟨t179, A90, H⟩ := H
    replace H : (if t179.size + a4.size ≤ 9223372036854775807 then ((wire_Take.f k (t179 ++ a4) (a0.size : Int)).bind fun bt180 => ((wire_Zig.f a3).bind fun t183 => ((wire_Zag.f t183).bind fun t184 => ((wire_Zag.f a1).bind fun t185 => ((wire_Zig.f t185).bind fun t186 => (if bt180.1 = a1 then (if bt180.2.1 = (t179.size : Int) then (if bt180.2.2 = 0 then (if t184 = a3 then (tripwirelaw03_WireBack.j0 k a0 a2 a4 t175 (t186 == a1)) else (tripwirelaw03_WireBack.j0 k a0 a2 a4 t175 false)) else (tripwirelaw03_WireBack.j0 k a0 a2 a4 t175 false)) else (tripwirelaw03_WireBack.j0 k a0 a2 a4 t175 false)) else (tripwirelaw03_WireBack.j0 k a0 a2 a4 t175 false))))))) else (none)) = some r := H
    have A9 := Aside0.mk A90
    clear A90
    by_cases c10 : t179.size + a4.size ≤ 9223372036854775807
    · rw [if_pos c10] at H
      have c10b0 := eq_true c10
      have c10b1 : decide (t179.size + a4.size ≤ 9223372036854775807) = true := decide_eq_true c10
      try have c10b2 : (9223372036854775807 < t179.size + a4.size) = False := eq_false (Nat.not_lt.2 c10)
      replace H := Option.bind_eq_some_iff.mp H
      obtain ⟨⟨t180, t181, t182⟩, A110, H⟩ := H
      replace H : ((wire_Zig.f a3).bind fun t183 => ((wire_Zag.f t183).bind fun t184 => ((wire_Zag.f a1).bind fun t185 => ((wire_Zig.f t185).bind fun t186 => (if t180 = a1 then (if t181 = (t179.size : Int) then (if t182 = 0 then (if t184 = a3 then (tripwirelaw03_WireBack.j0 k a0 a2 a4 t175 (t186 == a1)) else (tripwirelaw03_WireBack.j0 k a0 a2 a4 t175 false)) else (tripwirelaw03_WireBack.j0 k a0 a2 a4 t175 false)) else (tripwirelaw03_WireBack.j0 k a0 a2 a4 t175 false)) else (tripwirelaw03_WireBack.j0 k a0 a2 a4 t175 false)))))) = some r := H
      have A11 := Aside0.mk A110
      clear A110
      replace H := Option.bind_eq_some_iff.mp H
      obtain ⟨t183, A120, H⟩ := H
      replace H : ((wire_Zag.f t183).bind fun t184 => ((wire_Zag.f a1).bind fun t185 => ((wire_Zig.f t185).bind fun t186 => (if t180 = a1 then (if t181 = (t179.size : Int) then (if t182 = 0 then (if t184 = a3 then (tripwirelaw03_WireBack.j0 k a0 a2 a4 t175 (t186 == a1)) else (tripwirelaw03_WireBack.j0 k a0 a2 a4 t175 false)) else (tripwirelaw03_WireBack.j0 k a0 a2 a4 t175 false)) else (tripwirelaw03_WireBack.j0 k a0 a2 a4 t175 false)) else (tripwirelaw03_WireBack.j0 k a0 a2 a4 t175 false))))) = some r := H
      have A12 := Aside0.mk A120
      clear A120
      replace H := Option.bind_eq_some_iff.mp H
      obtain ⟨t184, A130, H⟩ := H
      replace H : ((wire_Zag.f a1).bind fun t185 => ((wire_Zig.f t185).bind fun t186 => (if t180 = a1 then (if t181 = (t179.size : Int) then (if t182 = 0 then (if t184 = a3 then (tripwirelaw03_WireBack.j0 k a0 a2 a4 t175 (t186 == a1)) else (tripwirelaw03_WireBack.j0 k a0 a2 a4 t175 false)) else (tripwirelaw03_WireBack.j0 k a0 a2 a4 t175 false)) else (tripwirelaw03_WireBack.j0 k a0 a2 a4 t175 false)) else (tripwirelaw03_WireBack.j0 k a0 a2 a4 t175 false)))) = some r := H
      have A13 := Aside0.mk A130
      clear A130
      replace H := Option.bind_eq_some_iff.mp H
      obtain ⟨t185, A140, H⟩ := H
      replace H : ((wire_Zig.f t185).bind fun t186 => (if t180 = a1 then (if t181 = (t179.size : Int) then (if t182 = 0 then (if t184 = a3 then (tripwirelaw03_WireBack.j0 k a0 a2 a4 t175 (t186 == a1)) else (tripwirelaw03_WireBack.j0 k a0 a2 a4 t175 false)) else (tripwirelaw03_WireBack.j0 k a0 a2 a4 t175 false)) else (tripwirelaw03_WireBack.j0 k a0 a2 a4 t175 false)) else (tripwirelaw03_WireBack.j0 k a0 a2 a4 t175 false))) = some r := H
      have A14 := Aside0.mk A140
      clear A140
      replace H := Option.bind_eq_some_iff.mp H
      obtain ⟨t186, A150, H⟩ := H
      replace H : (if t180 = a1 then (if t181 = (t179.size : Int) then (if t182 = 0 then (if t184 = a3 then (tripwirelaw03_WireBack.j0 k a0 a2 a4 t175 (t186 == a1)) else (tripwirelaw03_WireBack.j0 k a0 a2 a4 t175 false)) else (tripwirelaw03_WireBack.j0 k a0 a2 a4 t175 false)) else (tripwirelaw03_WireBack.j0 k a0 a2 a4 t175 false)) else (tripwirelaw03_WireBack.j0 k a0 a2 a4 t175 false)) = some r := H
      have A15 := Aside0.mk A150
      clear A150
      have HC16 := Aside0.mk H
      clear H
      go_enter Try.func4, Try.ntmps4
      go_upto_region 8 with (first | ((with_reducible refine gate_callee (f := 14) rfl ?_); refine goesL_ (some 26) rfl rfl Try.func14 (by kernel_rfl) rfl #[] rfl (by (try simp only [List.map_toArray, List.map_cons, List.map_nil]); first | done | rfl | (simp only [List.length_drop, List.length_take]; rfl)) ?_; (with_reducible refine (tripwirelaw03_works.calls k  t175 _ A6.out).mono ?_); rintro e w17 ⟨rfl, hb⟩; refine ⟨_, rfl, ?_⟩; have n0_ := Aside0.mk (below_step (by repeat (first | (with_reducible first | exact HB.out | apply below_alloc | apply pw_below_drewN | apply below_drew1) | exact HB.out)) hb); clear HB; have HB := n0_; clear n0_; (try clear hb); (try clear hb2); (try clear hk); (try clear hi)) | ((with_reducible refine gate_dst (N := 39) rfl ?_); (try (refine gate_guard (by rfl) ?_; dsimp only)); refine Kd.R_lit (Kd.int .u64) _ 23 ?hg (N := 39) ?hd (xs := ([a1] : List Int)) (inner := [.int .u64 a1]) (ok := fun _ => True) (okp := fun _ => True) ?hr ?hp (fun _ hk => hk) trivial (Below.refl _ _) (Nat.le_refl _) (by simp) ?_; (case hd => rfl); (case hg => rfl); (case hr => first | (go_simp; done) | (go_simp; rfl)); (case hp => exact (Reps.one (show Kd.M (Kd.int .u64) _ _ _ a1 [.int .u64 a1] from rfl) (Reps.none _ _))); intro v177 w18 ho19 hb hg_ hnew_; clear hg_ hnew_; (first | rw [← Ny176.out] at ho19 | (simp only [Int.reduceToNat] at ho19; rw [← Ny176.out] at ho19)); have n0_ := Aside0.mk (Kd.R_lower ho19 (below_size (by repeat (first | (with_reducible first | exact HB.out | apply below_alloc | apply pw_below_drewN | apply below_drew1) | exact HB.out)))); have n1_ := Aside0.mk (below_step (by repeat (first | (with_reducible first | exact HB.out | apply below_alloc | apply pw_below_drewN | apply below_drew1) | exact HB.out)) hb); clear HB; have HO178 := n0_; have HB := n1_; clear n0_ n1_; clear hb ho19; obtain ⟨Ao20, co20, eo20⟩ := Kd.R_slice HO178.out; subst eo20) | ((with_reducible refine gate_callee (f := 21) rfl ?_); refine goesL_ (some 40) rfl rfl Try.func21 (by kernel_rfl) rfl #[.string a0, .slice Ao20 y176.length co20] rfl (by (try simp only [List.map_toArray, List.map_cons, List.map_nil]); first | done | rfl | (simp only [List.length_drop, List.length_take]; rfl)) ?_; (with_reducible refine (wire_Put.calls k a0 _ _ y176 t179 _ ?side1 ?side2 A9.out).mono ?_); (case side1 => repeat (first | exact (Kd.R_reads' HO178.out).2.2 | (with_reducible refine Kd.C_alloc ?_ _) | (with_reducible refine Kd.C_drewN ?_ _) | (with_reducible refine Kd.C_drew ?_))); (case side2 => exact (Kd.R_reads' HO178.out).2.1); rintro e w21 ⟨rfl, hb⟩; refine ⟨_, rfl, ?_⟩; have n0_ := Aside0.mk (Kd.R_below (by (with_reducible repeat (first | apply Kd.R_alloc | apply Kd.R_drewN | apply Kd.R_drew)); exact HO178.out) hb); have n1_ := Aside0.mk (below_step (by repeat (first | (with_reducible first | exact HB.out | apply below_alloc | apply pw_below_drewN | apply below_drew1) | exact HB.out)) hb); clear HO178; clear HB; have HO178 := n0_; have HB := n1_; clear n0_ n1_; (try clear hb); (try clear hb2); (try clear hk); (try clear hi)) | ((with_reducible refine gate_callee (f := 15) rfl ?_); refine goesL_ (some 47) rfl rfl Try.func15 (by kernel_rfl) rfl #[.string (t179 ++ a4), .int .i64 (a0.size : Int)] rfl (by (try simp only [List.map_toArray, List.map_cons, List.map_nil]); first | done | rfl | (simp only [List.length_drop, List.length_take]; rfl)) ?_; (with_reducible refine (wire_Take.calls k (t179 ++ a4) (a0.size : Int) t180 t181 t182 _ A11.out).mono ?_); rintro e w' ⟨rfl, ⟨nd, rfl⟩⟩; refine ⟨_, rfl, ?_⟩) | ((with_reducible refine gate_callee (f := 23) rfl ?_); refine goesL_ (some 52) rfl rfl Try.func23 (by kernel_rfl) rfl #[.int .i64 a3] rfl (by (try simp only [List.map_toArray, List.map_cons, List.map_nil]); first | done | rfl | (simp only [List.length_drop, List.length_take]; rfl)) ?_; (with_reducible refine (wire_Zig.calls a3 t183 _ A12.out).mono ?_); rintro e w' ⟨rfl, ⟨nd, rfl⟩⟩; refine ⟨_, rfl, ?_⟩) | ((with_reducible refine gate_callee (f := 22) rfl ?_); refine goesL_ (some 53) rfl rfl Try.func22 (by kernel_rfl) rfl #[.int .u64 t183] rfl (by (try simp only [List.map_toArray, List.map_cons, List.map_nil]); first | done | rfl | (simp only [List.length_drop, List.length_take]; rfl)) ?_; (with_reducible refine (wire_Zag.calls t183 t184 _ A13.out).mono ?_); rintro e w' ⟨rfl, ⟨nd, rfl⟩⟩; refine ⟨_, rfl, ?_⟩) | ((with_reducible refine gate_callee (f := 22) rfl ?_); refine goesL_ (some 55) rfl rfl Try.func22 (by kernel_rfl) rfl #[.int .u64 a1] rfl (by (try simp only [List.map_toArray, List.map_cons, List.map_nil]); first | done | rfl | (simp only [List.length_drop, List.length_take]; rfl)) ?_; (with_reducible refine (wire_Zag.calls a1 t185 _ A14.out).mono ?_); rintro e w' ⟨rfl, ⟨nd, rfl⟩⟩; refine ⟨_, rfl, ?_⟩) | ((with_reducible refine gate_callee (f := 23) rfl ?_); refine goesL_ (some 56) rfl rfl Try.func23 (by kernel_rfl) rfl #[.int .i64 t185] rfl (by (try simp only [List.map_toArray, List.map_cons, List.map_nil]); first | done | rfl | (simp only [List.length_drop, List.length_take]; rfl)) ?_; (with_reducible refine (wire_Zig.calls t185 t186 _ A15.out).mono ?_); rintro e w' ⟨rfl, ⟨nd, rfl⟩⟩; refine ⟨_, rfl, ?_⟩))
      (try simp only [Act.put, List.setIfInBounds_toArray, List.set_cons_zero, List.set_cons_succ])
      go_cut [18] (fun v18 wc => ∃ (kq : Nat) (x18_15 : Bool), v18 = .bool x18_15 ∧ Aside0 (tripwirelaw03_WireBack.j0 kq a0 a2 a4 t175 x18_15 = some r) ∧ Aside0 (kq ≤ k) ∧ Aside0 (Below w.heap.size w wc))
      case first =>
        have H := HC16.out
        clear HC16
        by_cases c22 : t180 = a1
        · rw [if_pos c22] at H
          have c22b0 : (t180 == a1) = true := beq_iff_eq.mpr c22
          have c22b1 : (t180 != a1) = false := bne_eq_false_iff_eq.mpr c22
          clear c22
          (first | rw [c22b0] | (simp only [i64_w, i32_w]; rw [c22b0]) | skip)
          by_cases c23 : t181 = (t179.size : Int)
          · rw [if_pos c23] at H
            have c23b0 : (t181 == (t179.size : Int)) = true := beq_iff_eq.mpr c23
            have c23b1 : (t181 != (t179.size : Int)) = false := bne_eq_false_iff_eq.mpr c23
            clear c23
            by_cases c24 : t182 = 0
            · rw [if_pos c24] at H
              have c24b0 : (t182 == 0) = true := beq_iff_eq.mpr c24
              have c24b1 : (t182 != 0) = false := bne_eq_false_iff_eq.mpr c24
              clear c24
              by_cases c25 : t184 = a3
              · rw [if_pos c25] at H
                have c25b0 : (t184 == a3) = true := beq_iff_eq.mpr c25
                have c25b1 : (t184 != a3) = false := bne_eq_false_iff_eq.mpr c25
                clear c25
                have H' := Aside0.mk H
                clear H
                go_wp2
                go_meet
                case rel => exact ⟨_, ((t186 == a1)), (by first | rfl | (simp; done) | (simp [*]; done)), H', ⟨by first | omega | exact Nat.le_refl _⟩, ⟨by repeat (first | (with_reducible first | exact HB.out | apply below_alloc | apply pw_below_drewN | apply below_drew1) | exact HB.out)⟩⟩
              · rw [if_neg c25] at H
                have c25b0 : (t184 == a3) = false := beq_eq_false_iff_ne.mpr c25
                have c25b1 : (t184 != a3) = true := bne_iff_ne.mpr c25
                have H' := Aside0.mk H
                clear H
                go_wp2
                go_meet
                case rel => exact ⟨_, (false), (by first | rfl | (simp; done) | (simp [*]; done)), H', ⟨by first | omega | exact Nat.le_refl _⟩, ⟨by repeat (first | (with_reducible first | exact HB.out | apply below_alloc | apply pw_below_drewN | apply below_drew1) | exact HB.out)⟩⟩
            · rw [if_neg c24] at H
              have c24b0 : (t182 == 0) = false := beq_eq_false_iff_ne.mpr c24
              have c24b1 : (t182 != 0) = true := bne_iff_ne.mpr c24
              have H' := Aside0.mk H
              clear H
              go_wp2
              go_meet
              case rel => exact ⟨_, (false), (by first | rfl | (simp; done) | (simp [*]; done)), H', ⟨by first | omega | exact Nat.le_refl _⟩, ⟨by repeat (first | (with_reducible first | exact HB.out | apply below_alloc | apply pw_below_drewN | apply below_drew1) | exact HB.out)⟩⟩
          · rw [if_neg c23] at H
            have c23b0 : (t181 == (t179.size : Int)) = false := beq_eq_false_iff_ne.mpr c23
            have c23b1 : (t181 != (t179.size : Int)) = true := bne_iff_ne.mpr c23
            have H' := Aside0.mk H
            clear H
            go_wp2
            go_meet
            case rel => exact ⟨_, (false), (by first | rfl | (simp; done) | (simp [*]; done)), H', ⟨by first | omega | exact Nat.le_refl _⟩, ⟨by repeat (first | (with_reducible first | exact HB.out | apply below_alloc | apply pw_below_drewN | apply below_drew1) | exact HB.out)⟩⟩
        · rw [if_neg c22] at H
          have c22b0 : (t180 == a1) = false := beq_eq_false_iff_ne.mpr c22
          have c22b1 : (t180 != a1) = true := bne_iff_ne.mpr c22
          (first | rw [c22b0] | (simp only [i64_w, i32_w]; rw [c22b0]) | skip)
          have H' := Aside0.mk H
          clear H
          go_wp2
          go_meet
          case rel => exact ⟨_, (false), (by first | rfl | (simp; done) | (simp [*]; done)), H', ⟨by first | omega | exact Nat.le_refl _⟩, ⟨by repeat (first | (with_reducible first | exact HB.out | apply below_alloc | apply pw_below_drewN | apply below_drew1) | exact HB.out)⟩⟩
      case rest =>
        clear HC16
        try clear c1
        try clear c2
        try clear p2
        try clear c4
        try clear p6
        try clear c7
        try clear c7b0
        try clear c10
        try clear c10b0
        try clear c10b1
        try clear c10b2
        try clear c14
        try clear c15
        try clear c21
        try clear c22
        try clear c22b0
        try clear c22b1
        try clear c23
        try clear c23b0
        try clear c23b1
        try clear c24
        try clear c24b0
        try clear c24b1
        try clear c25
        try clear c25b0
        try clear c25b1
        obtain ⟨kq, x18_15, rfl, HA, HJ15, HB⟩ := hcut
        cases kq with
        | zero => exact absurd HA.out (by simp [tripwirelaw03_WireBack.j0])
        | succ kj15 =>
          have H := HA.out
          clear HA
          simp only [tripwirelaw03_WireBack.j0] at H
          by_cases c26 : (a2.size : Int) > 65536
          · rw [if_pos c26] at H
            have c26b0 : decide (65536 < (a2.size : Int)) = true := decide_eq_true c26
            have c26b1 : decide (65536 < a2.size) = true := decide_eq_true (by omega)
            clear c26
            replace H := Option.bind_eq_some_iff.mp H
            obtain ⟨⟨t187, t188⟩, A270, H⟩ := H
            replace H : (if t175 = true then (if x18_15 = true then (if t187.toList = ([] : List UInt8) then (some (t188 == 31)) else (some false)) else (some false)) else (some false)) = some r := H
            have A27 := Aside0.mk A270
            clear A270
            by_cases c28 : t175 = true
            · subst c28
              have H1 : (if x18_15 = true then (if t187.toList = ([] : List UInt8) then (some (t188 == 31)) else (some false)) else (some false)) = some r := by rw [if_pos rfl] at H; exact H
              clear H
              have H := H1
              clear H1
              by_cases c29 : x18_15 = true
              · subst c29
                have H1 : (if t187.toList = ([] : List UInt8) then (some (t188 == 31)) else (some false)) = some r := by rw [if_pos rfl] at H; exact H
                clear H
                have H := H1
                clear H1
                by_cases c30 : t187.toList = ([] : List UInt8)
                · rw [if_pos c30] at H
                  have c30b0 : (t187.toList == ([] : List UInt8)) = true := beq_iff_eq.mpr c30
                  have c30b1 : (t187.toList != ([] : List UInt8)) = false := bne_eq_false_iff_eq.mpr c30
                  clear c30
                  obtain rfl := Option.some.inj H
                  go_wp2_with (first | ((with_reducible refine gate_callee (f := 24) rfl ?_); refine goesL_ (some 85) rfl rfl Try.func24 (by kernel_rfl) rfl #[.string a2] rfl (by (try simp only [List.map_toArray, List.map_cons, List.map_nil]); first | done | rfl | (simp only [List.length_drop, List.length_take]; rfl)) ?_; (with_reducible refine (wire_Frame.calls kj15 a2 t187 t188 _ A27.out).mono ?_); rintro e w31 ⟨rfl, hb⟩; refine ⟨_, rfl, ?_⟩; have n0_ := Aside0.mk (below_step (by repeat (first | (with_reducible first | exact HB.out | apply below_alloc | apply pw_below_drewN | apply below_drew1) | exact HB.out)) hb); clear HB; have HB := n0_; clear n0_; (try clear hb); (try clear hb2); (try clear hk); (try clear hi)))
                  go_ret
                  exact ⟨by first | rfl | (simp [errW_none, errW_some] <;> rfl) | (simp [*, errW_none, errW_some] <;> rfl), by repeat (first | (with_reducible first | exact HB.out | apply below_alloc | apply pw_below_drewN | apply below_drew1) | exact HB.out)⟩
                · rw [if_neg c30] at H
                  have c30b0 : (t187.toList == ([] : List UInt8)) = false := beq_eq_false_iff_ne.mpr c30
                  have c30b1 : (t187.toList != ([] : List UInt8)) = true := bne_iff_ne.mpr c30
                  obtain rfl := Option.some.inj H
                  go_wp2_with (first | ((with_reducible refine gate_callee (f := 24) rfl ?_); refine goesL_ (some 85) rfl rfl Try.func24 (by kernel_rfl) rfl #[.string a2] rfl (by (try simp only [List.map_toArray, List.map_cons, List.map_nil]); first | done | rfl | (simp only [List.length_drop, List.length_take]; rfl)) ?_; (with_reducible refine (wire_Frame.calls kj15 a2 t187 t188 _ A27.out).mono ?_); rintro e w32 ⟨rfl, hb⟩; refine ⟨_, rfl, ?_⟩; have n0_ := Aside0.mk (below_step (by repeat (first | (with_reducible first | exact HB.out | apply below_alloc | apply pw_below_drewN | apply below_drew1) | exact HB.out)) hb); clear HB; have HB := n0_; clear n0_; (try clear hb); (try clear hb2); (try clear hk); (try clear hi)))
                  go_ret
                  exact ⟨by first | rfl | (simp [errW_none, errW_some] <;> rfl) | (simp [*, errW_none, errW_some] <;> rfl), by repeat (first | (with_reducible first | exact HB.out | apply below_alloc | apply pw_below_drewN | apply below_drew1) | exact HB.out)⟩
              · replace c29 := Bool.eq_false_iff.mpr c29
                subst c29
                have H1 : (some false) = some r := by rw [if_neg (show ¬ (false = true) by decide)] at H; exact H
                clear H
                have H := H1
                clear H1
                obtain rfl := Option.some.inj H
                go_wp2_with (first | ((with_reducible refine gate_callee (f := 24) rfl ?_); refine goesL_ (some 85) rfl rfl Try.func24 (by kernel_rfl) rfl #[.string a2] rfl (by (try simp only [List.map_toArray, List.map_cons, List.map_nil]); first | done | rfl | (simp only [List.length_drop, List.length_take]; rfl)) ?_; (with_reducible refine (wire_Frame.calls kj15 a2 t187 t188 _ A27.out).mono ?_); rintro e w33 ⟨rfl, hb⟩; refine ⟨_, rfl, ?_⟩; have n0_ := Aside0.mk (below_step (by repeat (first | (with_reducible first | exact HB.out | apply below_alloc | apply pw_below_drewN | apply below_drew1) | exact HB.out)) hb); clear HB; have HB := n0_; clear n0_; (try clear hb); (try clear hb2); (try clear hk); (try clear hi)))
                go_ret
                exact ⟨by first | rfl | (simp [errW_none, errW_some] <;> rfl) | (simp [*, errW_none, errW_some] <;> rfl), by repeat (first | (with_reducible first | exact HB.out | apply below_alloc | apply pw_below_drewN | apply below_drew1) | exact HB.out)⟩
            · replace c28 := Bool.eq_false_iff.mpr c28
              subst c28
              have H1 : (some false) = some r := by rw [if_neg (show ¬ (false = true) by decide)] at H; exact H
              clear H
              have H := H1
              clear H1
              obtain rfl := Option.some.inj H
              go_wp2_with (first | ((with_reducible refine gate_callee (f := 24) rfl ?_); refine goesL_ (some 85) rfl rfl Try.func24 (by kernel_rfl) rfl #[.string a2] rfl (by (try simp only [List.map_toArray, List.map_cons, List.map_nil]); first | done | rfl | (simp only [List.length_drop, List.length_take]; rfl)) ?_; (with_reducible refine (wire_Frame.calls kj15 a2 t187 t188 _ A27.out).mono ?_); rintro e w34 ⟨rfl, hb⟩; refine ⟨_, rfl, ?_⟩; have n0_ := Aside0.mk (below_step (by repeat (first | (with_reducible first | exact HB.out | apply below_alloc | apply pw_below_drewN | apply below_drew1) | exact HB.out)) hb); clear HB; have HB := n0_; clear n0_; (try clear hb); (try clear hb2); (try clear hk); (try clear hi)))
              go_ret
              exact ⟨by first | rfl | (simp [errW_none, errW_some] <;> rfl) | (simp [*, errW_none, errW_some] <;> rfl), by repeat (first | (with_reducible first | exact HB.out | apply below_alloc | apply pw_below_drewN | apply below_drew1) | exact HB.out)⟩
          · rw [if_neg c26] at H
            have c26b0 : decide (65536 < (a2.size : Int)) = false := decide_eq_false c26
            have c26b1 : decide (65536 < a2.size) = false := decide_eq_false (by omega)
            clear c26
            replace H := Option.bind_eq_some_iff.mp H
            obtain ⟨t189, A350, H⟩ := H
            replace H : (if t189.size + a4.size ≤ 9223372036854775807 then ((wire_TakeText.f kj15 (t189 ++ a4) (a0.size : Int)).bind fun bt190 => (if bt190.1.toList = a2.toList then (if bt190.2.1 = (t189.size : Int) then ((wire_Frame.f kj15 a2).bind fun bt193 => (if a0.size + bt193.1.size ≤ 9223372036854775807 then (if (a0 ++ bt193.1).size + a4.size ≤ 9223372036854775807 then ((wire_Unframe.f kj15 ((a0 ++ bt193.1) ++ a4) (a0.size : Int)).bind fun bt195 => (if t175 = true then (if x18_15 = true then (if bt190.2.2 = 0 then (if bt193.2 = 0 then (if bt195.1.toList = a2.toList then (if bt195.2.1 = (wrap64 ((a0.size : Int) + (bt193.1.size : Int))) then (some (bt195.2.2 == 0)) else (some false)) else (some false)) else (some false)) else (some false)) else (some false)) else (some false))) else (none)) else (none))) else ((wire_Frame.f kj15 a2).bind fun bt198 => (if a0.size + bt198.1.size ≤ 9223372036854775807 then (if (a0 ++ bt198.1).size + a4.size ≤ 9223372036854775807 then ((wire_Unframe.f kj15 ((a0 ++ bt198.1) ++ a4) (a0.size : Int)).bind fun bt200 => (if t175 = true then (if x18_15 = true then (some false) else (some false)) else (some false))) else (none)) else (none)))) else ((wire_Frame.f kj15 a2).bind fun bt203 => (if a0.size + bt203.1.size ≤ 9223372036854775807 then (if (a0 ++ bt203.1).size + a4.size ≤ 9223372036854775807 then ((wire_Unframe.f kj15 ((a0 ++ bt203.1) ++ a4) (a0.size : Int)).bind fun bt205 => (if t175 = true then (if x18_15 = true then (some false) else (some false)) else (some false))) else (none)) else (none))))) else (none)) = some r := H
            have A35 := Aside0.mk A350
            clear A350
            by_cases c36 : t189.size + a4.size ≤ 9223372036854775807
            · rw [if_pos c36] at H
              have c36b0 := eq_true c36
              have c36b1 : decide (t189.size + a4.size ≤ 9223372036854775807) = true := decide_eq_true c36
              try have c36b2 : (9223372036854775807 < t189.size + a4.size) = False := eq_false (Nat.not_lt.2 c36)
              replace H := Option.bind_eq_some_iff.mp H
              obtain ⟨⟨t190, t191, t192⟩, A370, H⟩ := H
              replace H : (if t190.toList = a2.toList then (if t191 = (t189.size : Int) then ((wire_Frame.f kj15 a2).bind fun bt193 => (if a0.size + bt193.1.size ≤ 9223372036854775807 then (if (a0 ++ bt193.1).size + a4.size ≤ 9223372036854775807 then ((wire_Unframe.f kj15 ((a0 ++ bt193.1) ++ a4) (a0.size : Int)).bind fun bt195 => (if t175 = true then (if x18_15 = true then (if t192 = 0 then (if bt193.2 = 0 then (if bt195.1.toList = a2.toList then (if bt195.2.1 = (wrap64 ((a0.size : Int) + (bt193.1.size : Int))) then (some (bt195.2.2 == 0)) else (some false)) else (some false)) else (some false)) else (some false)) else (some false)) else (some false))) else (none)) else (none))) else ((wire_Frame.f kj15 a2).bind fun bt198 => (if a0.size + bt198.1.size ≤ 9223372036854775807 then (if (a0 ++ bt198.1).size + a4.size ≤ 9223372036854775807 then ((wire_Unframe.f kj15 ((a0 ++ bt198.1) ++ a4) (a0.size : Int)).bind fun bt200 => (if t175 = true then (if x18_15 = true then (some false) else (some false)) else (some false))) else (none)) else (none)))) else ((wire_Frame.f kj15 a2).bind fun bt203 => (if a0.size + bt203.1.size ≤ 9223372036854775807 then (if (a0 ++ bt203.1).size + a4.size ≤ 9223372036854775807 then ((wire_Unframe.f kj15 ((a0 ++ bt203.1) ++ a4) (a0.size : Int)).bind fun bt205 => (if t175 = true then (if x18_15 = true then (some false) else (some false)) else (some false))) else (none)) else (none)))) = some r := H
              have A37 := Aside0.mk A370
              clear A370
              by_cases c38 : t190.toList = a2.toList
              · rw [if_pos c38] at H
                have c38b0 : (t190.toList == a2.toList) = true := beq_iff_eq.mpr c38
                have c38b1 : (t190.toList != a2.toList) = false := bne_eq_false_iff_eq.mpr c38
                clear c38
                by_cases c39 : t191 = (t189.size : Int)
                · rw [if_pos c39] at H
                  have c39b0 : (t191 == (t189.size : Int)) = true := beq_iff_eq.mpr c39
                  have c39b1 : (t191 != (t189.size : Int)) = false := bne_eq_false_iff_eq.mpr c39
                  clear c39
                  replace H := Option.bind_eq_some_iff.mp H
                  obtain ⟨⟨t193, t194⟩, A400, H⟩ := H
                  replace H : (if a0.size + t193.size ≤ 9223372036854775807 then (if (a0 ++ t193).size + a4.size ≤ 9223372036854775807 then ((wire_Unframe.f kj15 ((a0 ++ t193) ++ a4) (a0.size : Int)).bind fun bt195 => (if t175 = true then (if x18_15 = true then (if t192 = 0 then (if t194 = 0 then (if bt195.1.toList = a2.toList then (if bt195.2.1 = (wrap64 ((a0.size : Int) + (t193.size : Int))) then (some (bt195.2.2 == 0)) else (some false)) else (some false)) else (some false)) else (some false)) else (some false)) else (some false))) else (none)) else (none)) = some r := H
                  have A40 := Aside0.mk A400
                  clear A400
                  by_cases c41 : a0.size + t193.size ≤ 9223372036854775807
                  · rw [if_pos c41] at H
                    have c41b0 := eq_true c41
                    have c41b1 : decide (a0.size + t193.size ≤ 9223372036854775807) = true := decide_eq_true c41
                    try have c41b2 : (9223372036854775807 < a0.size + t193.size) = False := eq_false (Nat.not_lt.2 c41)
                    by_cases c42 : (a0 ++ t193).size + a4.size ≤ 9223372036854775807
                    · rw [if_pos c42] at H
                      have c42b0 := eq_true c42
                      have c42b1 : decide ((a0 ++ t193).size + a4.size ≤ 9223372036854775807) = true := decide_eq_true c42
                      try have c42b2 : (9223372036854775807 < (a0 ++ t193).size + a4.size) = False := eq_false (Nat.not_lt.2 c42)
                      replace H := Option.bind_eq_some_iff.mp H
                      obtain ⟨⟨t195, t196, t197⟩, A430, H⟩ := H
                      replace H : (if t175 = true then (if x18_15 = true then (if t192 = 0 then (if t194 = 0 then (if t195.toList = a2.toList then (if t196 = (wrap64 ((a0.size : Int) + (t193.size : Int))) then (some (t197 == 0)) else (some false)) else (some false)) else (some false)) else (some false)) else (some false)) else (some false)) = some r := H
                      have A43 := Aside0.mk A430
                      clear A430
                      by_cases c44 : t175 = true
                      · subst c44
                        have H1 : (if x18_15 = true then (if t192 = 0 then (if t194 = 0 then (if t195.toList = a2.toList then (if t196 = (wrap64 ((a0.size : Int) + (t193.size : Int))) then (some (t197 == 0)) else (some false)) else (some false)) else (some false)) else (some false)) else (some false)) = some r := by rw [if_pos rfl] at H; exact H
                        clear H
                        have H := H1
                        clear H1
                        by_cases c45 : x18_15 = true
                        · subst c45
                          have H1 : (if t192 = 0 then (if t194 = 0 then (if t195.toList = a2.toList then (if t196 = (wrap64 ((a0.size : Int) + (t193.size : Int))) then (some (t197 == 0)) else (some false)) else (some false)) else (some false)) else (some false)) = some r := by rw [if_pos rfl] at H; exact H
                          clear H
                          have H := H1
                          clear H1
                          by_cases c46 : t192 = 0
                          · rw [if_pos c46] at H
                            have c46b0 : (t192 == 0) = true := beq_iff_eq.mpr c46
                            have c46b1 : (t192 != 0) = false := bne_eq_false_iff_eq.mpr c46
                            clear c46
                            by_cases c47 : t194 = 0
                            · rw [if_pos c47] at H
                              have c47b0 : (t194 == 0) = true := beq_iff_eq.mpr c47
                              have c47b1 : (t194 != 0) = false := bne_eq_false_iff_eq.mpr c47
                              clear c47
                              by_cases c48 : t195.toList = a2.toList
                              · rw [if_pos c48] at H
                                have c48b0 : (t195.toList == a2.toList) = true := beq_iff_eq.mpr c48
                                have c48b1 : (t195.toList != a2.toList) = false := bne_eq_false_iff_eq.mpr c48
                                clear c48
                                by_cases c49 : t196 = (wrap64 ((a0.size : Int) + (t193.size : Int)))
                                · rw [if_pos c49] at H
                                  have c49b0 : (t196 == (wrap64 ((a0.size : Int) + (t193.size : Int)))) = true := beq_iff_eq.mpr c49
                                  have c49e_ : wrap64 ((a0.size : Int) + (t193.size : Int)) = ((a0.size : Int) + (t193.size : Int)) := (by unfold wrap64; omega)
                                  have c49b5 : (t196 == ((a0.size : Int) + (t193.size : Int))) = true := (by have h_ := c49b0; rw [c49e_] at h_; exact h_)
                                  clear c49e_
                                  have c49b1 : (t196 != (wrap64 ((a0.size : Int) + (t193.size : Int)))) = false := bne_eq_false_iff_eq.mpr c49
                                  clear c49
                                  obtain rfl := Option.some.inj H
                                  go_wp2_with (first | ((with_reducible refine gate_callee (f := 25) rfl ?_); refine goesL_ (some 102) rfl rfl Try.func25 (by kernel_rfl) rfl #[.string a0, .string a2] rfl (by (try simp only [List.map_toArray, List.map_cons, List.map_nil]); first | done | rfl | (simp only [List.length_drop, List.length_take]; rfl)) ?_; (with_reducible refine (wire_PutText.calls kj15 a0 a2 t189 _ A35.out).mono ?_); rintro e w50 ⟨rfl, hb⟩; refine ⟨_, rfl, ?_⟩; have n0_ := Aside0.mk (below_step (by repeat (first | (with_reducible first | exact HB.out | apply below_alloc | apply pw_below_drewN | apply below_drew1) | exact HB.out)) hb); clear HB; have HB := n0_; clear n0_; (try clear hb); (try clear hb2); (try clear hk); (try clear hi)) | ((with_reducible refine gate_callee (f := 17) rfl ?_); refine goesL_ (some 109) rfl rfl Try.func17 (by kernel_rfl) rfl #[.string (t189 ++ a4), .int .i64 (a0.size : Int)] rfl (by (try simp only [List.map_toArray, List.map_cons, List.map_nil]); first | done | rfl | (simp only [List.length_drop, List.length_take]; rfl)) ?_; (with_reducible refine (wire_TakeText.calls kj15 (t189 ++ a4) (a0.size : Int) t190 t191 t192 _ A37.out).mono ?_); rintro e w' ⟨rfl, ⟨nd, rfl⟩⟩; refine ⟨_, rfl, ?_⟩) | ((with_reducible refine gate_callee (f := 24) rfl ?_); refine goesL_ (some 128) rfl rfl Try.func24 (by kernel_rfl) rfl #[.string a2] rfl (by (try simp only [List.map_toArray, List.map_cons, List.map_nil]); first | done | rfl | (simp only [List.length_drop, List.length_take]; rfl)) ?_; (with_reducible refine (wire_Frame.calls kj15 a2 t193 t194 _ A40.out).mono ?_); rintro e w51 ⟨rfl, hb⟩; refine ⟨_, rfl, ?_⟩; have n0_ := Aside0.mk (below_step (by repeat (first | (with_reducible first | exact HB.out | apply below_alloc | apply pw_below_drewN | apply below_drew1) | exact HB.out)) hb); clear HB; have HB := n0_; clear n0_; (try clear hb); (try clear hb2); (try clear hk); (try clear hi)) | ((with_reducible refine gate_callee (f := 19) rfl ?_); refine goesL_ (some 139) rfl rfl Try.func19 (by kernel_rfl) rfl #[.string ((a0 ++ t193) ++ a4), .int .i64 (a0.size : Int)] rfl (by (try simp only [List.map_toArray, List.map_cons, List.map_nil]); first | done | rfl | (simp only [List.length_drop, List.length_take]; rfl)) ?_; (with_reducible refine (wire_Unframe.calls kj15 ((a0 ++ t193) ++ a4) (a0.size : Int) t195 t196 t197 _ A43.out).mono ?_); rintro e w52 ⟨rfl, hb⟩; refine ⟨_, rfl, ?_⟩; have n0_ := Aside0.mk (below_step (by repeat (first | (with_reducible first | exact HB.out | apply below_alloc | apply pw_below_drewN | apply below_drew1) | exact HB.out)) hb); clear HB; have HB := n0_; clear n0_; (try clear hb); (try clear hb2); (try clear hk); (try clear hi)))
                                  go_ret
                                  exact ⟨by first | rfl | (simp [errW_none, errW_some] <;> rfl) | (simp [*, errW_none, errW_some] <;> rfl), by repeat (first | (with_reducible first | exact HB.out | apply below_alloc | apply pw_below_drewN | apply below_drew1) | exact HB.out)⟩
                                · rw [if_neg c49] at H
                                  have c49b0 : (t196 == (wrap64 ((a0.size : Int) + (t193.size : Int)))) = false := beq_eq_false_iff_ne.mpr c49
                                  have c49e_ : wrap64 ((a0.size : Int) + (t193.size : Int)) = ((a0.size : Int) + (t193.size : Int)) := (by unfold wrap64; omega)
                                  have c49b5 : (t196 == ((a0.size : Int) + (t193.size : Int))) = false := (by have h_ := c49b0; rw [c49e_] at h_; exact h_)
                                  clear c49e_
                                  have c49b1 : (t196 != (wrap64 ((a0.size : Int) + (t193.size : Int)))) = true := bne_iff_ne.mpr c49
                                  obtain rfl := Option.some.inj H
                                  go_wp2_with (first | ((with_reducible refine gate_callee (f := 25) rfl ?_); refine goesL_ (some 102) rfl rfl Try.func25 (by kernel_rfl) rfl #[.string a0, .string a2] rfl (by (try simp only [List.map_toArray, List.map_cons, List.map_nil]); first | done | rfl | (simp only [List.length_drop, List.length_take]; rfl)) ?_; (with_reducible refine (wire_PutText.calls kj15 a0 a2 t189 _ A35.out).mono ?_); rintro e w53 ⟨rfl, hb⟩; refine ⟨_, rfl, ?_⟩; have n0_ := Aside0.mk (below_step (by repeat (first | (with_reducible first | exact HB.out | apply below_alloc | apply pw_below_drewN | apply below_drew1) | exact HB.out)) hb); clear HB; have HB := n0_; clear n0_; (try clear hb); (try clear hb2); (try clear hk); (try clear hi)) | ((with_reducible refine gate_callee (f := 17) rfl ?_); refine goesL_ (some 109) rfl rfl Try.func17 (by kernel_rfl) rfl #[.string (t189 ++ a4), .int .i64 (a0.size : Int)] rfl (by (try simp only [List.map_toArray, List.map_cons, List.map_nil]); first | done | rfl | (simp only [List.length_drop, List.length_take]; rfl)) ?_; (with_reducible refine (wire_TakeText.calls kj15 (t189 ++ a4) (a0.size : Int) t190 t191 t192 _ A37.out).mono ?_); rintro e w' ⟨rfl, ⟨nd, rfl⟩⟩; refine ⟨_, rfl, ?_⟩) | ((with_reducible refine gate_callee (f := 24) rfl ?_); refine goesL_ (some 128) rfl rfl Try.func24 (by kernel_rfl) rfl #[.string a2] rfl (by (try simp only [List.map_toArray, List.map_cons, List.map_nil]); first | done | rfl | (simp only [List.length_drop, List.length_take]; rfl)) ?_; (with_reducible refine (wire_Frame.calls kj15 a2 t193 t194 _ A40.out).mono ?_); rintro e w54 ⟨rfl, hb⟩; refine ⟨_, rfl, ?_⟩; have n0_ := Aside0.mk (below_step (by repeat (first | (with_reducible first | exact HB.out | apply below_alloc | apply pw_below_drewN | apply below_drew1) | exact HB.out)) hb); clear HB; have HB := n0_; clear n0_; (try clear hb); (try clear hb2); (try clear hk); (try clear hi)) | ((with_reducible refine gate_callee (f := 19) rfl ?_); refine goesL_ (some 139) rfl rfl Try.func19 (by kernel_rfl) rfl #[.string ((a0 ++ t193) ++ a4), .int .i64 (a0.size : Int)] rfl (by (try simp only [List.map_toArray, List.map_cons, List.map_nil]); first | done | rfl | (simp only [List.length_drop, List.length_take]; rfl)) ?_; (with_reducible refine (wire_Unframe.calls kj15 ((a0 ++ t193) ++ a4) (a0.size : Int) t195 t196 t197 _ A43.out).mono ?_); rintro e w55 ⟨rfl, hb⟩; refine ⟨_, rfl, ?_⟩; have n0_ := Aside0.mk (below_step (by repeat (first | (with_reducible first | exact HB.out | apply below_alloc | apply pw_below_drewN | apply below_drew1) | exact HB.out)) hb); clear HB; have HB := n0_; clear n0_; (try clear hb); (try clear hb2); (try clear hk); (try clear hi)))
                                  go_ret
                                  exact ⟨by first | rfl | (simp [errW_none, errW_some] <;> rfl) | (simp [*, errW_none, errW_some] <;> rfl), by repeat (first | (with_reducible first | exact HB.out | apply below_alloc | apply pw_below_drewN | apply below_drew1) | exact HB.out)⟩
                              · rw [if_neg c48] at H
                                have c48b0 : (t195.toList == a2.toList) = false := beq_eq_false_iff_ne.mpr c48
                                have c48b1 : (t195.toList != a2.toList) = true := bne_iff_ne.mpr c48
                                obtain rfl := Option.some.inj H
                                go_wp2_with (first | ((with_reducible refine gate_callee (f := 25) rfl ?_); refine goesL_ (some 102) rfl rfl Try.func25 (by kernel_rfl) rfl #[.string a0, .string a2] rfl (by (try simp only [List.map_toArray, List.map_cons, List.map_nil]); first | done | rfl | (simp only [List.length_drop, List.length_take]; rfl)) ?_; (with_reducible refine (wire_PutText.calls kj15 a0 a2 t189 _ A35.out).mono ?_); rintro e w56 ⟨rfl, hb⟩; refine ⟨_, rfl, ?_⟩; have n0_ := Aside0.mk (below_step (by repeat (first | (with_reducible first | exact HB.out | apply below_alloc | apply pw_below_drewN | apply below_drew1) | exact HB.out)) hb); clear HB; have HB := n0_; clear n0_; (try clear hb); (try clear hb2); (try clear hk); (try clear hi)) | ((with_reducible refine gate_callee (f := 17) rfl ?_); refine goesL_ (some 109) rfl rfl Try.func17 (by kernel_rfl) rfl #[.string (t189 ++ a4), .int .i64 (a0.size : Int)] rfl (by (try simp only [List.map_toArray, List.map_cons, List.map_nil]); first | done | rfl | (simp only [List.length_drop, List.length_take]; rfl)) ?_; (with_reducible refine (wire_TakeText.calls kj15 (t189 ++ a4) (a0.size : Int) t190 t191 t192 _ A37.out).mono ?_); rintro e w' ⟨rfl, ⟨nd, rfl⟩⟩; refine ⟨_, rfl, ?_⟩) | ((with_reducible refine gate_callee (f := 24) rfl ?_); refine goesL_ (some 128) rfl rfl Try.func24 (by kernel_rfl) rfl #[.string a2] rfl (by (try simp only [List.map_toArray, List.map_cons, List.map_nil]); first | done | rfl | (simp only [List.length_drop, List.length_take]; rfl)) ?_; (with_reducible refine (wire_Frame.calls kj15 a2 t193 t194 _ A40.out).mono ?_); rintro e w57 ⟨rfl, hb⟩; refine ⟨_, rfl, ?_⟩; have n0_ := Aside0.mk (below_step (by repeat (first | (with_reducible first | exact HB.out | apply below_alloc | apply pw_below_drewN | apply below_drew1) | exact HB.out)) hb); clear HB; have HB := n0_; clear n0_; (try clear hb); (try clear hb2); (try clear hk); (try clear hi)) | ((with_reducible refine gate_callee (f := 19) rfl ?_); refine goesL_ (some 139) rfl rfl Try.func19 (by kernel_rfl) rfl #[.string ((a0 ++ t193) ++ a4), .int .i64 (a0.size : Int)] rfl (by (try simp only [List.map_toArray, List.map_cons, List.map_nil]); first | done | rfl | (simp only [List.length_drop, List.length_take]; rfl)) ?_; (with_reducible refine (wire_Unframe.calls kj15 ((a0 ++ t193) ++ a4) (a0.size : Int) t195 t196 t197 _ A43.out).mono ?_); rintro e w58 ⟨rfl, hb⟩; refine ⟨_, rfl, ?_⟩; have n0_ := Aside0.mk (below_step (by repeat (first | (with_reducible first | exact HB.out | apply below_alloc | apply pw_below_drewN | apply below_drew1) | exact HB.out)) hb); clear HB; have HB := n0_; clear n0_; (try clear hb); (try clear hb2); (try clear hk); (try clear hi)))
                                go_ret
                                exact ⟨by first | rfl | (simp [errW_none, errW_some] <;> rfl) | (simp [*, errW_none, errW_some] <;> rfl), by repeat (first | (with_reducible first | exact HB.out | apply below_alloc | apply pw_below_drewN | apply below_drew1) | exact HB.out)⟩
                            · rw [if_neg c47] at H
                              have c47b0 : (t194 == 0) = false := beq_eq_false_iff_ne.mpr c47
                              have c47b1 : (t194 != 0) = true := bne_iff_ne.mpr c47
                              obtain rfl := Option.some.inj H
                              go_wp2_with (first | ((with_reducible refine gate_callee (f := 25) rfl ?_); refine goesL_ (some 102) rfl rfl Try.func25 (by kernel_rfl) rfl #[.string a0, .string a2] rfl (by (try simp only [List.map_toArray, List.map_cons, List.map_nil]); first | done | rfl | (simp only [List.length_drop, List.length_take]; rfl)) ?_; (with_reducible refine (wire_PutText.calls kj15 a0 a2 t189 _ A35.out).mono ?_); rintro e w59 ⟨rfl, hb⟩; refine ⟨_, rfl, ?_⟩; have n0_ := Aside0.mk (below_step (by repeat (first | (with_reducible first | exact HB.out | apply below_alloc | apply pw_below_drewN | apply below_drew1) | exact HB.out)) hb); clear HB; have HB := n0_; clear n0_; (try clear hb); (try clear hb2); (try clear hk); (try clear hi)) | ((with_reducible refine gate_callee (f := 17) rfl ?_); refine goesL_ (some 109) rfl rfl Try.func17 (by kernel_rfl) rfl #[.string (t189 ++ a4), .int .i64 (a0.size : Int)] rfl (by (try simp only [List.map_toArray, List.map_cons, List.map_nil]); first | done | rfl | (simp only [List.length_drop, List.length_take]; rfl)) ?_; (with_reducible refine (wire_TakeText.calls kj15 (t189 ++ a4) (a0.size : Int) t190 t191 t192 _ A37.out).mono ?_); rintro e w' ⟨rfl, ⟨nd, rfl⟩⟩; refine ⟨_, rfl, ?_⟩) | ((with_reducible refine gate_callee (f := 24) rfl ?_); refine goesL_ (some 128) rfl rfl Try.func24 (by kernel_rfl) rfl #[.string a2] rfl (by (try simp only [List.map_toArray, List.map_cons, List.map_nil]); first | done | rfl | (simp only [List.length_drop, List.length_take]; rfl)) ?_; (with_reducible refine (wire_Frame.calls kj15 a2 t193 t194 _ A40.out).mono ?_); rintro e w60 ⟨rfl, hb⟩; refine ⟨_, rfl, ?_⟩; have n0_ := Aside0.mk (below_step (by repeat (first | (with_reducible first | exact HB.out | apply below_alloc | apply pw_below_drewN | apply below_drew1) | exact HB.out)) hb); clear HB; have HB := n0_; clear n0_; (try clear hb); (try clear hb2); (try clear hk); (try clear hi)) | ((with_reducible refine gate_callee (f := 19) rfl ?_); refine goesL_ (some 139) rfl rfl Try.func19 (by kernel_rfl) rfl #[.string ((a0 ++ t193) ++ a4), .int .i64 (a0.size : Int)] rfl (by (try simp only [List.map_toArray, List.map_cons, List.map_nil]); first | done | rfl | (simp only [List.length_drop, List.length_take]; rfl)) ?_; (with_reducible refine (wire_Unframe.calls kj15 ((a0 ++ t193) ++ a4) (a0.size : Int) t195 t196 t197 _ A43.out).mono ?_); rintro e w61 ⟨rfl, hb⟩; refine ⟨_, rfl, ?_⟩; have n0_ := Aside0.mk (below_step (by repeat (first | (with_reducible first | exact HB.out | apply below_alloc | apply pw_below_drewN | apply below_drew1) | exact HB.out)) hb); clear HB; have HB := n0_; clear n0_; (try clear hb); (try clear hb2); (try clear hk); (try clear hi)))
                              go_ret
                              exact ⟨by first | rfl | (simp [errW_none, errW_some] <;> rfl) | (simp [*, errW_none, errW_some] <;> rfl), by repeat (first | (with_reducible first | exact HB.out | apply below_alloc | apply pw_below_drewN | apply below_drew1) | exact HB.out)⟩
                          · rw [if_neg c46] at H
                            have c46b0 : (t192 == 0) = false := beq_eq_false_iff_ne.mpr c46
                            have c46b1 : (t192 != 0) = true := bne_iff_ne.mpr c46
                            obtain rfl := Option.some.inj H
                            go_wp2_with (first | ((with_reducible refine gate_callee (f := 25) rfl ?_); refine goesL_ (some 102) rfl rfl Try.func25 (by kernel_rfl) rfl #[.string a0, .string a2] rfl (by (try simp only [List.map_toArray, List.map_cons, List.map_nil]); first | done | rfl | (simp only [List.length_drop, List.length_take]; rfl)) ?_; (with_reducible refine (wire_PutText.calls kj15 a0 a2 t189 _ A35.out).mono ?_); rintro e w62 ⟨rfl, hb⟩; refine ⟨_, rfl, ?_⟩; have n0_ := Aside0.mk (below_step (by repeat (first | (with_reducible first | exact HB.out | apply below_alloc | apply pw_below_drewN | apply below_drew1) | exact HB.out)) hb); clear HB; have HB := n0_; clear n0_; (try clear hb); (try clear hb2); (try clear hk); (try clear hi)) | ((with_reducible refine gate_callee (f := 17) rfl ?_); refine goesL_ (some 109) rfl rfl Try.func17 (by kernel_rfl) rfl #[.string (t189 ++ a4), .int .i64 (a0.size : Int)] rfl (by (try simp only [List.map_toArray, List.map_cons, List.map_nil]); first | done | rfl | (simp only [List.length_drop, List.length_take]; rfl)) ?_; (with_reducible refine (wire_TakeText.calls kj15 (t189 ++ a4) (a0.size : Int) t190 t191 t192 _ A37.out).mono ?_); rintro e w' ⟨rfl, ⟨nd, rfl⟩⟩; refine ⟨_, rfl, ?_⟩) | ((with_reducible refine gate_callee (f := 24) rfl ?_); refine goesL_ (some 128) rfl rfl Try.func24 (by kernel_rfl) rfl #[.string a2] rfl (by (try simp only [List.map_toArray, List.map_cons, List.map_nil]); first | done | rfl | (simp only [List.length_drop, List.length_take]; rfl)) ?_; (with_reducible refine (wire_Frame.calls kj15 a2 t193 t194 _ A40.out).mono ?_); rintro e w63 ⟨rfl, hb⟩; refine ⟨_, rfl, ?_⟩; have n0_ := Aside0.mk (below_step (by repeat (first | (with_reducible first | exact HB.out | apply below_alloc | apply pw_below_drewN | apply below_drew1) | exact HB.out)) hb); clear HB; have HB := n0_; clear n0_; (try clear hb); (try clear hb2); (try clear hk); (try clear hi)) | ((with_reducible refine gate_callee (f := 19) rfl ?_); refine goesL_ (some 139) rfl rfl Try.func19 (by kernel_rfl) rfl #[.string ((a0 ++ t193) ++ a4), .int .i64 (a0.size : Int)] rfl (by (try simp only [List.map_toArray, List.map_cons, List.map_nil]); first | done | rfl | (simp only [List.length_drop, List.length_take]; rfl)) ?_; (with_reducible refine (wire_Unframe.calls kj15 ((a0 ++ t193) ++ a4) (a0.size : Int) t195 t196 t197 _ A43.out).mono ?_); rintro e w64 ⟨rfl, hb⟩; refine ⟨_, rfl, ?_⟩; have n0_ := Aside0.mk (below_step (by repeat (first | (with_reducible first | exact HB.out | apply below_alloc | apply pw_below_drewN | apply below_drew1) | exact HB.out)) hb); clear HB; have HB := n0_; clear n0_; (try clear hb); (try clear hb2); (try clear hk); (try clear hi)))
                            go_ret
                            exact ⟨by first | rfl | (simp [errW_none, errW_some] <;> rfl) | (simp [*, errW_none, errW_some] <;> rfl), by repeat (first | (with_reducible first | exact HB.out | apply below_alloc | apply pw_below_drewN | apply below_drew1) | exact HB.out)⟩
                        · replace c45 := Bool.eq_false_iff.mpr c45
                          subst c45
                          have H1 : (some false) = some r := by rw [if_neg (show ¬ (false = true) by decide)] at H; exact H
                          clear H
                          have H := H1
                          clear H1
                          obtain rfl := Option.some.inj H
                          go_wp2_with (first | ((with_reducible refine gate_callee (f := 25) rfl ?_); refine goesL_ (some 102) rfl rfl Try.func25 (by kernel_rfl) rfl #[.string a0, .string a2] rfl (by (try simp only [List.map_toArray, List.map_cons, List.map_nil]); first | done | rfl | (simp only [List.length_drop, List.length_take]; rfl)) ?_; (with_reducible refine (wire_PutText.calls kj15 a0 a2 t189 _ A35.out).mono ?_); rintro e w65 ⟨rfl, hb⟩; refine ⟨_, rfl, ?_⟩; have n0_ := Aside0.mk (below_step (by repeat (first | (with_reducible first | exact HB.out | apply below_alloc | apply pw_below_drewN | apply below_drew1) | exact HB.out)) hb); clear HB; have HB := n0_; clear n0_; (try clear hb); (try clear hb2); (try clear hk); (try clear hi)) | ((with_reducible refine gate_callee (f := 17) rfl ?_); refine goesL_ (some 109) rfl rfl Try.func17 (by kernel_rfl) rfl #[.string (t189 ++ a4), .int .i64 (a0.size : Int)] rfl (by (try simp only [List.map_toArray, List.map_cons, List.map_nil]); first | done | rfl | (simp only [List.length_drop, List.length_take]; rfl)) ?_; (with_reducible refine (wire_TakeText.calls kj15 (t189 ++ a4) (a0.size : Int) t190 t191 t192 _ A37.out).mono ?_); rintro e w' ⟨rfl, ⟨nd, rfl⟩⟩; refine ⟨_, rfl, ?_⟩) | ((with_reducible refine gate_callee (f := 24) rfl ?_); refine goesL_ (some 128) rfl rfl Try.func24 (by kernel_rfl) rfl #[.string a2] rfl (by (try simp only [List.map_toArray, List.map_cons, List.map_nil]); first | done | rfl | (simp only [List.length_drop, List.length_take]; rfl)) ?_; (with_reducible refine (wire_Frame.calls kj15 a2 t193 t194 _ A40.out).mono ?_); rintro e w66 ⟨rfl, hb⟩; refine ⟨_, rfl, ?_⟩; have n0_ := Aside0.mk (below_step (by repeat (first | (with_reducible first | exact HB.out | apply below_alloc | apply pw_below_drewN | apply below_drew1) | exact HB.out)) hb); clear HB; have HB := n0_; clear n0_; (try clear hb); (try clear hb2); (try clear hk); (try clear hi)) | ((with_reducible refine gate_callee (f := 19) rfl ?_); refine goesL_ (some 139) rfl rfl Try.func19 (by kernel_rfl) rfl #[.string ((a0 ++ t193) ++ a4), .int .i64 (a0.size : Int)] rfl (by (try simp only [List.map_toArray, List.map_cons, List.map_nil]); first | done | rfl | (simp only [List.length_drop, List.length_take]; rfl)) ?_; (with_reducible refine (wire_Unframe.calls kj15 ((a0 ++ t193) ++ a4) (a0.size : Int) t195 t196 t197 _ A43.out).mono ?_); rintro e w67 ⟨rfl, hb⟩; refine ⟨_, rfl, ?_⟩; have n0_ := Aside0.mk (below_step (by repeat (first | (with_reducible first | exact HB.out | apply below_alloc | apply pw_below_drewN | apply below_drew1) | exact HB.out)) hb); clear HB; have HB := n0_; clear n0_; (try clear hb); (try clear hb2); (try clear hk); (try clear hi)))
                          go_ret
                          exact ⟨by first | rfl | (simp [errW_none, errW_some] <;> rfl) | (simp [*, errW_none, errW_some] <;> rfl), by repeat (first | (with_reducible first | exact HB.out | apply below_alloc | apply pw_below_drewN | apply below_drew1) | exact HB.out)⟩
                      · replace c44 := Bool.eq_false_iff.mpr c44
                        subst c44
                        have H1 : (some false) = some r := by rw [if_neg (show ¬ (false = true) by decide)] at H; exact H
                        clear H
                        have H := H1
                        clear H1
                        obtain rfl := Option.some.inj H
                        go_wp2_with (first | ((with_reducible refine gate_callee (f := 25) rfl ?_); refine goesL_ (some 102) rfl rfl Try.func25 (by kernel_rfl) rfl #[.string a0, .string a2] rfl (by (try simp only [List.map_toArray, List.map_cons, List.map_nil]); first | done | rfl | (simp only [List.length_drop, List.length_take]; rfl)) ?_; (with_reducible refine (wire_PutText.calls kj15 a0 a2 t189 _ A35.out).mono ?_); rintro e w68 ⟨rfl, hb⟩; refine ⟨_, rfl, ?_⟩; have n0_ := Aside0.mk (below_step (by repeat (first | (with_reducible first | exact HB.out | apply below_alloc | apply pw_below_drewN | apply below_drew1) | exact HB.out)) hb); clear HB; have HB := n0_; clear n0_; (try clear hb); (try clear hb2); (try clear hk); (try clear hi)) | ((with_reducible refine gate_callee (f := 17) rfl ?_); refine goesL_ (some 109) rfl rfl Try.func17 (by kernel_rfl) rfl #[.string (t189 ++ a4), .int .i64 (a0.size : Int)] rfl (by (try simp only [List.map_toArray, List.map_cons, List.map_nil]); first | done | rfl | (simp only [List.length_drop, List.length_take]; rfl)) ?_; (with_reducible refine (wire_TakeText.calls kj15 (t189 ++ a4) (a0.size : Int) t190 t191 t192 _ A37.out).mono ?_); rintro e w' ⟨rfl, ⟨nd, rfl⟩⟩; refine ⟨_, rfl, ?_⟩) | ((with_reducible refine gate_callee (f := 24) rfl ?_); refine goesL_ (some 128) rfl rfl Try.func24 (by kernel_rfl) rfl #[.string a2] rfl (by (try simp only [List.map_toArray, List.map_cons, List.map_nil]); first | done | rfl | (simp only [List.length_drop, List.length_take]; rfl)) ?_; (with_reducible refine (wire_Frame.calls kj15 a2 t193 t194 _ A40.out).mono ?_); rintro e w69 ⟨rfl, hb⟩; refine ⟨_, rfl, ?_⟩; have n0_ := Aside0.mk (below_step (by repeat (first | (with_reducible first | exact HB.out | apply below_alloc | apply pw_below_drewN | apply below_drew1) | exact HB.out)) hb); clear HB; have HB := n0_; clear n0_; (try clear hb); (try clear hb2); (try clear hk); (try clear hi)) | ((with_reducible refine gate_callee (f := 19) rfl ?_); refine goesL_ (some 139) rfl rfl Try.func19 (by kernel_rfl) rfl #[.string ((a0 ++ t193) ++ a4), .int .i64 (a0.size : Int)] rfl (by (try simp only [List.map_toArray, List.map_cons, List.map_nil]); first | done | rfl | (simp only [List.length_drop, List.length_take]; rfl)) ?_; (with_reducible refine (wire_Unframe.calls kj15 ((a0 ++ t193) ++ a4) (a0.size : Int) t195 t196 t197 _ A43.out).mono ?_); rintro e w70 ⟨rfl, hb⟩; refine ⟨_, rfl, ?_⟩; have n0_ := Aside0.mk (below_step (by repeat (first | (with_reducible first | exact HB.out | apply below_alloc | apply pw_below_drewN | apply below_drew1) | exact HB.out)) hb); clear HB; have HB := n0_; clear n0_; (try clear hb); (try clear hb2); (try clear hk); (try clear hi)))
                        go_ret
                        exact ⟨by first | rfl | (simp [errW_none, errW_some] <;> rfl) | (simp [*, errW_none, errW_some] <;> rfl), by repeat (first | (with_reducible first | exact HB.out | apply below_alloc | apply pw_below_drewN | apply below_drew1) | exact HB.out)⟩
                    · rw [if_neg c42] at H
                      exact absurd H (by simp)
                  · rw [if_neg c41] at H
                    exact absurd H (by simp)
                · rw [if_neg c39] at H
                  have c39b0 : (t191 == (t189.size : Int)) = false := beq_eq_false_iff_ne.mpr c39
                  have c39b1 : (t191 != (t189.size : Int)) = true := bne_iff_ne.mpr c39
                  replace H := Option.bind_eq_some_iff.mp H
                  obtain ⟨⟨t198, t199⟩, A710, H⟩ := H
                  replace H : (if a0.size + t198.size ≤ 9223372036854775807 then (if (a0 ++ t198).size + a4.size ≤ 9223372036854775807 then ((wire_Unframe.f kj15 ((a0 ++ t198) ++ a4) (a0.size : Int)).bind fun bt200 => (if t175 = true then (if x18_15 = true then (some false) else (some false)) else (some false))) else (none)) else (none)) = some r := H
                  have A71 := Aside0.mk A710
                  clear A710
                  by_cases c72 : a0.size + t198.size ≤ 9223372036854775807
                  · rw [if_pos c72] at H
                    have c72b0 := eq_true c72
                    have c72b1 : decide (a0.size + t198.size ≤ 9223372036854775807) = true := decide_eq_true c72
                    try have c72b2 : (9223372036854775807 < a0.size + t198.size) = False := eq_false (Nat.not_lt.2 c72)
                    by_cases c73 : (a0 ++ t198).size + a4.size ≤ 9223372036854775807
                    · rw [if_pos c73] at H
                      have c73b0 := eq_true c73
                      have c73b1 : decide ((a0 ++ t198).size + a4.size ≤ 9223372036854775807) = true := decide_eq_true c73
                      try have c73b2 : (9223372036854775807 < (a0 ++ t198).size + a4.size) = False := eq_false (Nat.not_lt.2 c73)
                      replace H := Option.bind_eq_some_iff.mp H
                      obtain ⟨⟨t200, t201, t202⟩, A740, H⟩ := H
                      replace H : (if t175 = true then (if x18_15 = true then (some false) else (some false)) else (some false)) = some r := H
                      have A74 := Aside0.mk A740
                      clear A740
                      by_cases c75 : t175 = true
                      · subst c75
                        have H1 : (if x18_15 = true then (some false) else (some false)) = some r := by rw [if_pos rfl] at H; exact H
                        clear H
                        have H := H1
                        clear H1
                        by_cases c76 : x18_15 = true
                        · subst c76
                          have H1 : (some false) = some r := by rw [if_pos rfl] at H; exact H
                          clear H
                          have H := H1
                          clear H1
                          obtain rfl := Option.some.inj H
                          go_wp2_with (first | ((with_reducible refine gate_callee (f := 25) rfl ?_); refine goesL_ (some 102) rfl rfl Try.func25 (by kernel_rfl) rfl #[.string a0, .string a2] rfl (by (try simp only [List.map_toArray, List.map_cons, List.map_nil]); first | done | rfl | (simp only [List.length_drop, List.length_take]; rfl)) ?_; (with_reducible refine (wire_PutText.calls kj15 a0 a2 t189 _ A35.out).mono ?_); rintro e w77 ⟨rfl, hb⟩; refine ⟨_, rfl, ?_⟩; have n0_ := Aside0.mk (below_step (by repeat (first | (with_reducible first | exact HB.out | apply below_alloc | apply pw_below_drewN | apply below_drew1) | exact HB.out)) hb); clear HB; have HB := n0_; clear n0_; (try clear hb); (try clear hb2); (try clear hk); (try clear hi)) | ((with_reducible refine gate_callee (f := 17) rfl ?_); refine goesL_ (some 109) rfl rfl Try.func17 (by kernel_rfl) rfl #[.string (t189 ++ a4), .int .i64 (a0.size : Int)] rfl (by (try simp only [List.map_toArray, List.map_cons, List.map_nil]); first | done | rfl | (simp only [List.length_drop, List.length_take]; rfl)) ?_; (with_reducible refine (wire_TakeText.calls kj15 (t189 ++ a4) (a0.size : Int) t190 t191 t192 _ A37.out).mono ?_); rintro e w' ⟨rfl, ⟨nd, rfl⟩⟩; refine ⟨_, rfl, ?_⟩) | ((with_reducible refine gate_callee (f := 24) rfl ?_); refine goesL_ (some 128) rfl rfl Try.func24 (by kernel_rfl) rfl #[.string a2] rfl (by (try simp only [List.map_toArray, List.map_cons, List.map_nil]); first | done | rfl | (simp only [List.length_drop, List.length_take]; rfl)) ?_; (with_reducible refine (wire_Frame.calls kj15 a2 t198 t199 _ A71.out).mono ?_); rintro e w78 ⟨rfl, hb⟩; refine ⟨_, rfl, ?_⟩; have n0_ := Aside0.mk (below_step (by repeat (first | (with_reducible first | exact HB.out | apply below_alloc | apply pw_below_drewN | apply below_drew1) | exact HB.out)) hb); clear HB; have HB := n0_; clear n0_; (try clear hb); (try clear hb2); (try clear hk); (try clear hi)) | ((with_reducible refine gate_callee (f := 19) rfl ?_); refine goesL_ (some 139) rfl rfl Try.func19 (by kernel_rfl) rfl #[.string ((a0 ++ t198) ++ a4), .int .i64 (a0.size : Int)] rfl (by (try simp only [List.map_toArray, List.map_cons, List.map_nil]); first | done | rfl | (simp only [List.length_drop, List.length_take]; rfl)) ?_; (with_reducible refine (wire_Unframe.calls kj15 ((a0 ++ t198) ++ a4) (a0.size : Int) t200 t201 t202 _ A74.out).mono ?_); rintro e w79 ⟨rfl, hb⟩; refine ⟨_, rfl, ?_⟩; have n0_ := Aside0.mk (below_step (by repeat (first | (with_reducible first | exact HB.out | apply below_alloc | apply pw_below_drewN | apply below_drew1) | exact HB.out)) hb); clear HB; have HB := n0_; clear n0_; (try clear hb); (try clear hb2); (try clear hk); (try clear hi)))
                          go_ret
                          exact ⟨by first | rfl | (simp [errW_none, errW_some] <;> rfl) | (simp [*, errW_none, errW_some] <;> rfl), by repeat (first | (with_reducible first | exact HB.out | apply below_alloc | apply pw_below_drewN | apply below_drew1) | exact HB.out)⟩
                        · replace c76 := Bool.eq_false_iff.mpr c76
                          subst c76
                          have H1 : (some false) = some r := by rw [if_neg (show ¬ (false = true) by decide)] at H; exact H
                          clear H
                          have H := H1
                          clear H1
                          obtain rfl := Option.some.inj H
                          go_wp2_with (first | ((with_reducible refine gate_callee (f := 25) rfl ?_); refine goesL_ (some 102) rfl rfl Try.func25 (by kernel_rfl) rfl #[.string a0, .string a2] rfl (by (try simp only [List.map_toArray, List.map_cons, List.map_nil]); first | done | rfl | (simp only [List.length_drop, List.length_take]; rfl)) ?_; (with_reducible refine (wire_PutText.calls kj15 a0 a2 t189 _ A35.out).mono ?_); rintro e w80 ⟨rfl, hb⟩; refine ⟨_, rfl, ?_⟩; have n0_ := Aside0.mk (below_step (by repeat (first | (with_reducible first | exact HB.out | apply below_alloc | apply pw_below_drewN | apply below_drew1) | exact HB.out)) hb); clear HB; have HB := n0_; clear n0_; (try clear hb); (try clear hb2); (try clear hk); (try clear hi)) | ((with_reducible refine gate_callee (f := 17) rfl ?_); refine goesL_ (some 109) rfl rfl Try.func17 (by kernel_rfl) rfl #[.string (t189 ++ a4), .int .i64 (a0.size : Int)] rfl (by (try simp only [List.map_toArray, List.map_cons, List.map_nil]); first | done | rfl | (simp only [List.length_drop, List.length_take]; rfl)) ?_; (with_reducible refine (wire_TakeText.calls kj15 (t189 ++ a4) (a0.size : Int) t190 t191 t192 _ A37.out).mono ?_); rintro e w' ⟨rfl, ⟨nd, rfl⟩⟩; refine ⟨_, rfl, ?_⟩) | ((with_reducible refine gate_callee (f := 24) rfl ?_); refine goesL_ (some 128) rfl rfl Try.func24 (by kernel_rfl) rfl #[.string a2] rfl (by (try simp only [List.map_toArray, List.map_cons, List.map_nil]); first | done | rfl | (simp only [List.length_drop, List.length_take]; rfl)) ?_; (with_reducible refine (wire_Frame.calls kj15 a2 t198 t199 _ A71.out).mono ?_); rintro e w81 ⟨rfl, hb⟩; refine ⟨_, rfl, ?_⟩; have n0_ := Aside0.mk (below_step (by repeat (first | (with_reducible first | exact HB.out | apply below_alloc | apply pw_below_drewN | apply below_drew1) | exact HB.out)) hb); clear HB; have HB := n0_; clear n0_; (try clear hb); (try clear hb2); (try clear hk); (try clear hi)) | ((with_reducible refine gate_callee (f := 19) rfl ?_); refine goesL_ (some 139) rfl rfl Try.func19 (by kernel_rfl) rfl #[.string ((a0 ++ t198) ++ a4), .int .i64 (a0.size : Int)] rfl (by (try simp only [List.map_toArray, List.map_cons, List.map_nil]); first | done | rfl | (simp only [List.length_drop, List.length_take]; rfl)) ?_; (with_reducible refine (wire_Unframe.calls kj15 ((a0 ++ t198) ++ a4) (a0.size : Int) t200 t201 t202 _ A74.out).mono ?_); rintro e w82 ⟨rfl, hb⟩; refine ⟨_, rfl, ?_⟩; have n0_ := Aside0.mk (below_step (by repeat (first | (with_reducible first | exact HB.out | apply below_alloc | apply pw_below_drewN | apply below_drew1) | exact HB.out)) hb); clear HB; have HB := n0_; clear n0_; (try clear hb); (try clear hb2); (try clear hk); (try clear hi)))
                          go_ret
                          exact ⟨by first | rfl | (simp [errW_none, errW_some] <;> rfl) | (simp [*, errW_none, errW_some] <;> rfl), by repeat (first | (with_reducible first | exact HB.out | apply below_alloc | apply pw_below_drewN | apply below_drew1) | exact HB.out)⟩
                      · replace c75 := Bool.eq_false_iff.mpr c75
                        subst c75
                        have H1 : (some false) = some r := by rw [if_neg (show ¬ (false = true) by decide)] at H; exact H
                        clear H
                        have H := H1
                        clear H1
                        obtain rfl := Option.some.inj H
                        go_wp2_with (first | ((with_reducible refine gate_callee (f := 25) rfl ?_); refine goesL_ (some 102) rfl rfl Try.func25 (by kernel_rfl) rfl #[.string a0, .string a2] rfl (by (try simp only [List.map_toArray, List.map_cons, List.map_nil]); first | done | rfl | (simp only [List.length_drop, List.length_take]; rfl)) ?_; (with_reducible refine (wire_PutText.calls kj15 a0 a2 t189 _ A35.out).mono ?_); rintro e w83 ⟨rfl, hb⟩; refine ⟨_, rfl, ?_⟩; have n0_ := Aside0.mk (below_step (by repeat (first | (with_reducible first | exact HB.out | apply below_alloc | apply pw_below_drewN | apply below_drew1) | exact HB.out)) hb); clear HB; have HB := n0_; clear n0_; (try clear hb); (try clear hb2); (try clear hk); (try clear hi)) | ((with_reducible refine gate_callee (f := 17) rfl ?_); refine goesL_ (some 109) rfl rfl Try.func17 (by kernel_rfl) rfl #[.string (t189 ++ a4), .int .i64 (a0.size : Int)] rfl (by (try simp only [List.map_toArray, List.map_cons, List.map_nil]); first | done | rfl | (simp only [List.length_drop, List.length_take]; rfl)) ?_; (with_reducible refine (wire_TakeText.calls kj15 (t189 ++ a4) (a0.size : Int) t190 t191 t192 _ A37.out).mono ?_); rintro e w' ⟨rfl, ⟨nd, rfl⟩⟩; refine ⟨_, rfl, ?_⟩) | ((with_reducible refine gate_callee (f := 24) rfl ?_); refine goesL_ (some 128) rfl rfl Try.func24 (by kernel_rfl) rfl #[.string a2] rfl (by (try simp only [List.map_toArray, List.map_cons, List.map_nil]); first | done | rfl | (simp only [List.length_drop, List.length_take]; rfl)) ?_; (with_reducible refine (wire_Frame.calls kj15 a2 t198 t199 _ A71.out).mono ?_); rintro e w84 ⟨rfl, hb⟩; refine ⟨_, rfl, ?_⟩; have n0_ := Aside0.mk (below_step (by repeat (first | (with_reducible first | exact HB.out | apply below_alloc | apply pw_below_drewN | apply below_drew1) | exact HB.out)) hb); clear HB; have HB := n0_; clear n0_; (try clear hb); (try clear hb2); (try clear hk); (try clear hi)) | ((with_reducible refine gate_callee (f := 19) rfl ?_); refine goesL_ (some 139) rfl rfl Try.func19 (by kernel_rfl) rfl #[.string ((a0 ++ t198) ++ a4), .int .i64 (a0.size : Int)] rfl (by (try simp only [List.map_toArray, List.map_cons, List.map_nil]); first | done | rfl | (simp only [List.length_drop, List.length_take]; rfl)) ?_; (with_reducible refine (wire_Unframe.calls kj15 ((a0 ++ t198) ++ a4) (a0.size : Int) t200 t201 t202 _ A74.out).mono ?_); rintro e w85 ⟨rfl, hb⟩; refine ⟨_, rfl, ?_⟩; have n0_ := Aside0.mk (below_step (by repeat (first | (with_reducible first | exact HB.out | apply below_alloc | apply pw_below_drewN | apply below_drew1) | exact HB.out)) hb); clear HB; have HB := n0_; clear n0_; (try clear hb); (try clear hb2); (try clear hk); (try clear hi)))
                        go_ret
                        exact ⟨by first | rfl | (simp [errW_none, errW_some] <;> rfl) | (simp [*, errW_none, errW_some] <;> rfl), by repeat (first | (with_reducible first | exact HB.out | apply below_alloc | apply pw_below_drewN | apply below_drew1) | exact HB.out)⟩
                    · rw [if_neg c73] at H
                      exact absurd H (by simp)
                  · rw [if_neg c72] at H
                    exact absurd H (by simp)
              · rw [if_neg c38] at H
                have c38b0 : (t190.toList == a2.toList) = false := beq_eq_false_iff_ne.mpr c38
                have c38b1 : (t190.toList != a2.toList) = true := bne_iff_ne.mpr c38
                replace H := Option.bind_eq_some_iff.mp H
                obtain ⟨⟨t203, t204⟩, A860, H⟩ := H
                replace H : (if a0.size + t203.size ≤ 9223372036854775807 then (if (a0 ++ t203).size + a4.size ≤ 9223372036854775807 then ((wire_Unframe.f kj15 ((a0 ++ t203) ++ a4) (a0.size : Int)).bind fun bt205 => (if t175 = true then (if x18_15 = true then (some false) else (some false)) else (some false))) else (none)) else (none)) = some r := H
                have A86 := Aside0.mk A860
                clear A860
                by_cases c87 : a0.size + t203.size ≤ 9223372036854775807
                · rw [if_pos c87] at H
                  have c87b0 := eq_true c87
                  have c87b1 : decide (a0.size + t203.size ≤ 9223372036854775807) = true := decide_eq_true c87
                  try have c87b2 : (9223372036854775807 < a0.size + t203.size) = False := eq_false (Nat.not_lt.2 c87)
                  by_cases c88 : (a0 ++ t203).size + a4.size ≤ 9223372036854775807
                  · rw [if_pos c88] at H
                    have c88b0 := eq_true c88
                    have c88b1 : decide ((a0 ++ t203).size + a4.size ≤ 9223372036854775807) = true := decide_eq_true c88
                    try have c88b2 : (9223372036854775807 < (a0 ++ t203).size + a4.size) = False := eq_false (Nat.not_lt.2 c88)
                    replace H := Option.bind_eq_some_iff.mp H
                    obtain ⟨⟨t205, t206, t207⟩, A890, H⟩ := H
                    replace H : (if t175 = true then (if x18_15 = true then (some false) else (some false)) else (some false)) = some r := H
                    have A89 := Aside0.mk A890
                    clear A890
                    by_cases c90 : t175 = true
                    · subst c90
                      have H1 : (if x18_15 = true then (some false) else (some false)) = some r := by rw [if_pos rfl] at H; exact H
                      clear H
                      have H := H1
                      clear H1
                      by_cases c91 : x18_15 = true
                      · subst c91
                        have H1 : (some false) = some r := by rw [if_pos rfl] at H; exact H
                        clear H
                        have H := H1
                        clear H1
                        obtain rfl := Option.some.inj H
                        go_wp2_with (first | ((with_reducible refine gate_callee (f := 25) rfl ?_); refine goesL_ (some 102) rfl rfl Try.func25 (by kernel_rfl) rfl #[.string a0, .string a2] rfl (by (try simp only [List.map_toArray, List.map_cons, List.map_nil]); first | done | rfl | (simp only [List.length_drop, List.length_take]; rfl)) ?_; (with_reducible refine (wire_PutText.calls kj15 a0 a2 t189 _ A35.out).mono ?_); rintro e w92 ⟨rfl, hb⟩; refine ⟨_, rfl, ?_⟩; have n0_ := Aside0.mk (below_step (by repeat (first | (with_reducible first | exact HB.out | apply below_alloc | apply pw_below_drewN | apply below_drew1) | exact HB.out)) hb); clear HB; have HB := n0_; clear n0_; (try clear hb); (try clear hb2); (try clear hk); (try clear hi)) | ((with_reducible refine gate_callee (f := 17) rfl ?_); refine goesL_ (some 109) rfl rfl Try.func17 (by kernel_rfl) rfl #[.string (t189 ++ a4), .int .i64 (a0.size : Int)] rfl (by (try simp only [List.map_toArray, List.map_cons, List.map_nil]); first | done | rfl | (simp only [List.length_drop, List.length_take]; rfl)) ?_; (with_reducible refine (wire_TakeText.calls kj15 (t189 ++ a4) (a0.size : Int) t190 t191 t192 _ A37.out).mono ?_); rintro e w' ⟨rfl, ⟨nd, rfl⟩⟩; refine ⟨_, rfl, ?_⟩) | ((with_reducible refine gate_callee (f := 24) rfl ?_); refine goesL_ (some 128) rfl rfl Try.func24 (by kernel_rfl) rfl #[.string a2] rfl (by (try simp only [List.map_toArray, List.map_cons, List.map_nil]); first | done | rfl | (simp only [List.length_drop, List.length_take]; rfl)) ?_; (with_reducible refine (wire_Frame.calls kj15 a2 t203 t204 _ A86.out).mono ?_); rintro e w93 ⟨rfl, hb⟩; refine ⟨_, rfl, ?_⟩; have n0_ := Aside0.mk (below_step (by repeat (first | (with_reducible first | exact HB.out | apply below_alloc | apply pw_below_drewN | apply below_drew1) | exact HB.out)) hb); clear HB; have HB := n0_; clear n0_; (try clear hb); (try clear hb2); (try clear hk); (try clear hi)) | ((with_reducible refine gate_callee (f := 19) rfl ?_); refine goesL_ (some 139) rfl rfl Try.func19 (by kernel_rfl) rfl #[.string ((a0 ++ t203) ++ a4), .int .i64 (a0.size : Int)] rfl (by (try simp only [List.map_toArray, List.map_cons, List.map_nil]); first | done | rfl | (simp only [List.length_drop, List.length_take]; rfl)) ?_; (with_reducible refine (wire_Unframe.calls kj15 ((a0 ++ t203) ++ a4) (a0.size : Int) t205 t206 t207 _ A89.out).mono ?_); rintro e w94 ⟨rfl, hb⟩; refine ⟨_, rfl, ?_⟩; have n0_ := Aside0.mk (below_step (by repeat (first | (with_reducible first | exact HB.out | apply below_alloc | apply pw_below_drewN | apply below_drew1) | exact HB.out)) hb); clear HB; have HB := n0_; clear n0_; (try clear hb); (try clear hb2); (try clear hk); (try clear hi)))
                        go_ret
                        exact ⟨by first | rfl | (simp [errW_none, errW_some] <;> rfl) | (simp [*, errW_none, errW_some] <;> rfl), by repeat (first | (with_reducible first | exact HB.out | apply below_alloc | apply pw_below_drewN | apply below_drew1) | exact HB.out)⟩
                      · replace c91 := Bool.eq_false_iff.mpr c91
                        subst c91
                        have H1 : (some false) = some r := by rw [if_neg (show ¬ (false = true) by decide)] at H; exact H
                        clear H
                        have H := H1
                        clear H1
                        obtain rfl := Option.some.inj H
                        go_wp2_with (first | ((with_reducible refine gate_callee (f := 25) rfl ?_); refine goesL_ (some 102) rfl rfl Try.func25 (by kernel_rfl) rfl #[.string a0, .string a2] rfl (by (try simp only [List.map_toArray, List.map_cons, List.map_nil]); first | done | rfl | (simp only [List.length_drop, List.length_take]; rfl)) ?_; (with_reducible refine (wire_PutText.calls kj15 a0 a2 t189 _ A35.out).mono ?_); rintro e w95 ⟨rfl, hb⟩; refine ⟨_, rfl, ?_⟩; have n0_ := Aside0.mk (below_step (by repeat (first | (with_reducible first | exact HB.out | apply below_alloc | apply pw_below_drewN | apply below_drew1) | exact HB.out)) hb); clear HB; have HB := n0_; clear n0_; (try clear hb); (try clear hb2); (try clear hk); (try clear hi)) | ((with_reducible refine gate_callee (f := 17) rfl ?_); refine goesL_ (some 109) rfl rfl Try.func17 (by kernel_rfl) rfl #[.string (t189 ++ a4), .int .i64 (a0.size : Int)] rfl (by (try simp only [List.map_toArray, List.map_cons, List.map_nil]); first | done | rfl | (simp only [List.length_drop, List.length_take]; rfl)) ?_; (with_reducible refine (wire_TakeText.calls kj15 (t189 ++ a4) (a0.size : Int) t190 t191 t192 _ A37.out).mono ?_); rintro e w' ⟨rfl, ⟨nd, rfl⟩⟩; refine ⟨_, rfl, ?_⟩) | ((with_reducible refine gate_callee (f := 24) rfl ?_); refine goesL_ (some 128) rfl rfl Try.func24 (by kernel_rfl) rfl #[.string a2] rfl (by (try simp only [List.map_toArray, List.map_cons, List.map_nil]); first | done | rfl | (simp only [List.length_drop, List.length_take]; rfl)) ?_; (with_reducible refine (wire_Frame.calls kj15 a2 t203 t204 _ A86.out).mono ?_); rintro e w96 ⟨rfl, hb⟩; refine ⟨_, rfl, ?_⟩; have n0_ := Aside0.mk (below_step (by repeat (first | (with_reducible first | exact HB.out | apply below_alloc | apply pw_below_drewN | apply below_drew1) | exact HB.out)) hb); clear HB; have HB := n0_; clear n0_; (try clear hb); (try clear hb2); (try clear hk); (try clear hi)) | ((with_reducible refine gate_callee (f := 19) rfl ?_); refine goesL_ (some 139) rfl rfl Try.func19 (by kernel_rfl) rfl #[.string ((a0 ++ t203) ++ a4), .int .i64 (a0.size : Int)] rfl (by (try simp only [List.map_toArray, List.map_cons, List.map_nil]); first | done | rfl | (simp only [List.length_drop, List.length_take]; rfl)) ?_; (with_reducible refine (wire_Unframe.calls kj15 ((a0 ++ t203) ++ a4) (a0.size : Int) t205 t206 t207 _ A89.out).mono ?_); rintro e w97 ⟨rfl, hb⟩; refine ⟨_, rfl, ?_⟩; have n0_ := Aside0.mk (below_step (by repeat (first | (with_reducible first | exact HB.out | apply below_alloc | apply pw_below_drewN | apply below_drew1) | exact HB.out)) hb); clear HB; have HB := n0_; clear n0_; (try clear hb); (try clear hb2); (try clear hk); (try clear hi)))
                        go_ret
                        exact ⟨by first | rfl | (simp [errW_none, errW_some] <;> rfl) | (simp [*, errW_none, errW_some] <;> rfl), by repeat (first | (with_reducible first | exact HB.out | apply below_alloc | apply pw_below_drewN | apply below_drew1) | exact HB.out)⟩
                    · replace c90 := Bool.eq_false_iff.mpr c90
                      subst c90
                      have H1 : (some false) = some r := by rw [if_neg (show ¬ (false = true) by decide)] at H; exact H
                      clear H
                      have H := H1
                      clear H1
                      obtain rfl := Option.some.inj H
                      go_wp2_with (first | ((with_reducible refine gate_callee (f := 25) rfl ?_); refine goesL_ (some 102) rfl rfl Try.func25 (by kernel_rfl) rfl #[.string a0, .string a2] rfl (by (try simp only [List.map_toArray, List.map_cons, List.map_nil]); first | done | rfl | (simp only [List.length_drop, List.length_take]; rfl)) ?_; (with_reducible refine (wire_PutText.calls kj15 a0 a2 t189 _ A35.out).mono ?_); rintro e w98 ⟨rfl, hb⟩; refine ⟨_, rfl, ?_⟩; have n0_ := Aside0.mk (below_step (by repeat (first | (with_reducible first | exact HB.out | apply below_alloc | apply pw_below_drewN | apply below_drew1) | exact HB.out)) hb); clear HB; have HB := n0_; clear n0_; (try clear hb); (try clear hb2); (try clear hk); (try clear hi)) | ((with_reducible refine gate_callee (f := 17) rfl ?_); refine goesL_ (some 109) rfl rfl Try.func17 (by kernel_rfl) rfl #[.string (t189 ++ a4), .int .i64 (a0.size : Int)] rfl (by (try simp only [List.map_toArray, List.map_cons, List.map_nil]); first | done | rfl | (simp only [List.length_drop, List.length_take]; rfl)) ?_; (with_reducible refine (wire_TakeText.calls kj15 (t189 ++ a4) (a0.size : Int) t190 t191 t192 _ A37.out).mono ?_); rintro e w' ⟨rfl, ⟨nd, rfl⟩⟩; refine ⟨_, rfl, ?_⟩) | ((with_reducible refine gate_callee (f := 24) rfl ?_); refine goesL_ (some 128) rfl rfl Try.func24 (by kernel_rfl) rfl #[.string a2] rfl (by (try simp only [List.map_toArray, List.map_cons, List.map_nil]); first | done | rfl | (simp only [List.length_drop, List.length_take]; rfl)) ?_; (with_reducible refine (wire_Frame.calls kj15 a2 t203 t204 _ A86.out).mono ?_); rintro e w99 ⟨rfl, hb⟩; refine ⟨_, rfl, ?_⟩; have n0_ := Aside0.mk (below_step (by repeat (first | (with_reducible first | exact HB.out | apply below_alloc | apply pw_below_drewN | apply below_drew1) | exact HB.out)) hb); clear HB; have HB := n0_; clear n0_; (try clear hb); (try clear hb2); (try clear hk); (try clear hi)) | ((with_reducible refine gate_callee (f := 19) rfl ?_); refine goesL_ (some 139) rfl rfl Try.func19 (by kernel_rfl) rfl #[.string ((a0 ++ t203) ++ a4), .int .i64 (a0.size : Int)] rfl (by (try simp only [List.map_toArray, List.map_cons, List.map_nil]); first | done | rfl | (simp only [List.length_drop, List.length_take]; rfl)) ?_; (with_reducible refine (wire_Unframe.calls kj15 ((a0 ++ t203) ++ a4) (a0.size : Int) t205 t206 t207 _ A89.out).mono ?_); rintro e w100 ⟨rfl, hb⟩; refine ⟨_, rfl, ?_⟩; have n0_ := Aside0.mk (below_step (by repeat (first | (with_reducible first | exact HB.out | apply below_alloc | apply pw_below_drewN | apply below_drew1) | exact HB.out)) hb); clear HB; have HB := n0_; clear n0_; (try clear hb); (try clear hb2); (try clear hk); (try clear hi)))
                      go_ret
                      exact ⟨by first | rfl | (simp [errW_none, errW_some] <;> rfl) | (simp [*, errW_none, errW_some] <;> rfl), by repeat (first | (with_reducible first | exact HB.out | apply below_alloc | apply pw_below_drewN | apply below_drew1) | exact HB.out)⟩
                  · rw [if_neg c88] at H
                    exact absurd H (by simp)
                · rw [if_neg c87] at H
                  exact absurd H (by simp)
            · rw [if_neg c36] at H
              exact absurd H (by simp)
    · rw [if_neg c10] at H
      exact absurd H (by simp)

/-- THE ONE PURE STATEMENT of tripwirelaw03_WireBack: yours. -/
def tripwirelaw03_WireBack.Pure : Prop := ∀ (a0 : ByteArray) (a1 : Int) (a2 : ByteArray) (a3 : Int) (a4 : ByteArray), a0.size ≤ 140737488351232 → (Lit.int .u64 a1).wf = true → a2.size ≤ 140737488351232 → (Lit.int .i64 a3).wf = true → a4.size ≤ 140737488351232 → ∃ k, tripwirelaw03_WireBack.f k a0 a1 a2 a3 a4 = some true
theorem tripwirelaw03_WireBack.walk (P : tripwirelaw03_WireBack.Pure) (a0 : ByteArray) (a1 : Int) (a2 : ByteArray) (a3 : Int) (a4 : ByteArray) (w : World) (w0 : a0.size ≤ 140737488351232) (w1 : (Lit.int .u64 a1).wf = true) (w2 : a2.size ≤ 140737488351232) (w3 : (Lit.int .i64 a3).wf = true) (w4 : a4.size ≤ 140737488351232) :
    Calls Try.prog 4 #[.string a0, .int .u64 a1, .string a2, .int .i64 a3, .string a4] w fun e w' => e = .returned (.bool true) ∧ Below w.heap.size w w' := by
  obtain ⟨k, h⟩ := P a0 a1 a2 a3 a4 w0 w1 w2 w3 w4
  refine (tripwirelaw03_WireBack.calls k a0 a1 a2 a3 a4 true w h).mono ?_
  rintro e w' ⟨rfl, hd⟩
  exact ⟨rfl, hd⟩

/-! ### bits_Len64: function 61 -/
def bits_Len64.f (a0 : Int) : Option Int := if 0 ≤ a0 then (if a0 ≤ 18446744073709551615 then some (Lib.bitLen a0.toNat : Int) else none) else none
theorem len8_get (i : Int) (h0 : 0 ≤ i) (h : i.toNat < Lib.len8tab.size) : (((Lib.len8tab[i.toNat]'h).toNat : Nat) : Int) = (Lib.bitLen i.toNat : Int) := by
  have h2 := h
  rw [Lib.len8tab_size] at h2
  rw [← Lib.len8_of i h0 (by omega)]
  simp only [Lib.len8, ByteArray.getElem?_lt' _ _ h, Option.getD_some]
set_option maxRecDepth 100000 in
theorem len64_56 (a0 : Int) (w : World) (h0 : 0 ≤ a0) (h1 : a0 ≤ 18446744073709551615) (t1 : 4294967296 ≤ a0) (t2 : 65536 ≤ a0 / 4294967296) (t3 : 256 ≤ a0 / 4294967296 / 65536) :
    Calls Try.prog 61 #[.int .u64 a0] w fun e w' => e = .returned (.int .i64 (Lib.bitLen a0.toNat)) ∧ Drawn0 w w' := by
  have hx0 : 0 ≤ a0 / 4294967296 / 65536 / 256 := by omega
  have hx1 : a0 / 4294967296 / 65536 / 256 ≤ 255 := by omega
  have hv : (56 : Int) + Lib.bitLen (a0 / 4294967296 / 65536 / 256).toNat = Lib.bitLen a0.toNat ∧ Lib.bitLen (a0 / 4294967296 / 65536 / 256).toNat ≤ 8 := by
    have l_ := Lib.bitLen_le8' (a0 / 4294967296 / 65536 / 256) hx0 hx1
    have s_ := Lib.bitLen_shift56 a0.toNat (by omega) (by omega)
    have e_ : (a0 / 4294967296 / 65536 / 256).toNat = a0.toNat / 72057594037927936 := by omega
    rw [e_] at l_ ⊢
    omega
  have HV := Aside0.mk hv
  clear hv hx0 hx1
  go_enter Try.func61, Try.ntmps61
  go_wp2
  · go_ret
    refine ⟨congrArg Ending.returned (congrArg (Value.int IntKind.i64) ?_), Drawn0.refl _⟩
    have hv := HV.out
    rw [len8_get (a0 / 4294967296 / 65536 / 256) (by omega) (by rw [Lib.len8tab_size]; omega)]
    unfold wrap64
    omega
  all_goals
    exfalso
    rename_i hq
    rw [Lib.len8tab_size] at hq
    omega
set_option maxRecDepth 100000 in
theorem len64_48 (a0 : Int) (w : World) (h0 : 0 ≤ a0) (h1 : a0 ≤ 18446744073709551615) (t1 : 4294967296 ≤ a0) (t2 : 65536 ≤ a0 / 4294967296) (t3 : a0 / 4294967296 / 65536 < 256) :
    Calls Try.prog 61 #[.int .u64 a0] w fun e w' => e = .returned (.int .i64 (Lib.bitLen a0.toNat)) ∧ Drawn0 w w' := by
  have hx0 : 0 ≤ a0 / 4294967296 / 65536 := by omega
  have hx1 : a0 / 4294967296 / 65536 ≤ 255 := by omega
  have hv : (48 : Int) + Lib.bitLen (a0 / 4294967296 / 65536).toNat = Lib.bitLen a0.toNat ∧ Lib.bitLen (a0 / 4294967296 / 65536).toNat ≤ 8 := by
    have l_ := Lib.bitLen_le8' (a0 / 4294967296 / 65536) hx0 hx1
    have s_ := Lib.bitLen_shift48 a0.toNat (by omega) (by omega)
    have e_ : (a0 / 4294967296 / 65536).toNat = a0.toNat / 281474976710656 := by omega
    rw [e_] at l_ ⊢
    omega
  have HV := Aside0.mk hv
  clear hv hx0 hx1
  go_enter Try.func61, Try.ntmps61
  go_wp2
  · go_ret
    refine ⟨congrArg Ending.returned (congrArg (Value.int IntKind.i64) ?_), Drawn0.refl _⟩
    have hv := HV.out
    rw [len8_get (a0 / 4294967296 / 65536) (by omega) (by rw [Lib.len8tab_size]; omega)]
    unfold wrap64
    omega
  all_goals
    exfalso
    rename_i hq
    rw [Lib.len8tab_size] at hq
    omega
set_option maxRecDepth 100000 in
theorem len64_40 (a0 : Int) (w : World) (h0 : 0 ≤ a0) (h1 : a0 ≤ 18446744073709551615) (t1 : 4294967296 ≤ a0) (t2 : a0 / 4294967296 < 65536) (t3 : 256 ≤ a0 / 4294967296) :
    Calls Try.prog 61 #[.int .u64 a0] w fun e w' => e = .returned (.int .i64 (Lib.bitLen a0.toNat)) ∧ Drawn0 w w' := by
  have hx0 : 0 ≤ a0 / 4294967296 / 256 := by omega
  have hx1 : a0 / 4294967296 / 256 ≤ 255 := by omega
  have hv : (40 : Int) + Lib.bitLen (a0 / 4294967296 / 256).toNat = Lib.bitLen a0.toNat ∧ Lib.bitLen (a0 / 4294967296 / 256).toNat ≤ 8 := by
    have l_ := Lib.bitLen_le8' (a0 / 4294967296 / 256) hx0 hx1
    have s_ := Lib.bitLen_shift40 a0.toNat (by omega) (by omega)
    have e_ : (a0 / 4294967296 / 256).toNat = a0.toNat / 1099511627776 := by omega
    rw [e_] at l_ ⊢
    omega
  have HV := Aside0.mk hv
  clear hv hx0 hx1
  go_enter Try.func61, Try.ntmps61
  go_wp2
  · go_ret
    refine ⟨congrArg Ending.returned (congrArg (Value.int IntKind.i64) ?_), Drawn0.refl _⟩
    have hv := HV.out
    rw [len8_get (a0 / 4294967296 / 256) (by omega) (by rw [Lib.len8tab_size]; omega)]
    unfold wrap64
    omega
  all_goals
    exfalso
    rename_i hq
    rw [Lib.len8tab_size] at hq
    omega
set_option maxRecDepth 100000 in
theorem len64_32 (a0 : Int) (w : World) (h0 : 0 ≤ a0) (h1 : a0 ≤ 18446744073709551615) (t1 : 4294967296 ≤ a0) (t2 : a0 / 4294967296 < 65536) (t3 : a0 / 4294967296 < 256) :
    Calls Try.prog 61 #[.int .u64 a0] w fun e w' => e = .returned (.int .i64 (Lib.bitLen a0.toNat)) ∧ Drawn0 w w' := by
  have hx0 : 0 ≤ a0 / 4294967296 := by omega
  have hx1 : a0 / 4294967296 ≤ 255 := by omega
  have hv : (32 : Int) + Lib.bitLen (a0 / 4294967296).toNat = Lib.bitLen a0.toNat ∧ Lib.bitLen (a0 / 4294967296).toNat ≤ 8 := by
    have l_ := Lib.bitLen_le8' (a0 / 4294967296) hx0 hx1
    have s_ := Lib.bitLen_shift32 a0.toNat (by omega) (by omega)
    have e_ : (a0 / 4294967296).toNat = a0.toNat / 4294967296 := by omega
    rw [e_] at l_ ⊢
    omega
  have HV := Aside0.mk hv
  clear hv hx0 hx1
  go_enter Try.func61, Try.ntmps61
  go_wp2
  · go_ret
    refine ⟨congrArg Ending.returned (congrArg (Value.int IntKind.i64) ?_), Drawn0.refl _⟩
    have hv := HV.out
    rw [len8_get (a0 / 4294967296) (by omega) (by rw [Lib.len8tab_size]; omega)]
    unfold wrap64
    omega
  all_goals
    exfalso
    rename_i hq
    rw [Lib.len8tab_size] at hq
    omega
set_option maxRecDepth 100000 in
theorem len64_24 (a0 : Int) (w : World) (h0 : 0 ≤ a0) (h1 : a0 ≤ 18446744073709551615) (t1 : a0 < 4294967296) (t2 : 65536 ≤ a0) (t3 : 256 ≤ a0 / 65536) :
    Calls Try.prog 61 #[.int .u64 a0] w fun e w' => e = .returned (.int .i64 (Lib.bitLen a0.toNat)) ∧ Drawn0 w w' := by
  have hx0 : 0 ≤ a0 / 65536 / 256 := by omega
  have hx1 : a0 / 65536 / 256 ≤ 255 := by omega
  have hv : (24 : Int) + Lib.bitLen (a0 / 65536 / 256).toNat = Lib.bitLen a0.toNat ∧ Lib.bitLen (a0 / 65536 / 256).toNat ≤ 8 := by
    have l_ := Lib.bitLen_le8' (a0 / 65536 / 256) hx0 hx1
    have s_ := Lib.bitLen_shift24 a0.toNat (by omega) (by omega)
    have e_ : (a0 / 65536 / 256).toNat = a0.toNat / 16777216 := by omega
    rw [e_] at l_ ⊢
    omega
  have HV := Aside0.mk hv
  clear hv hx0 hx1
  go_enter Try.func61, Try.ntmps61
  go_wp2
  · go_ret
    refine ⟨congrArg Ending.returned (congrArg (Value.int IntKind.i64) ?_), Drawn0.refl _⟩
    have hv := HV.out
    rw [len8_get (a0 / 65536 / 256) (by omega) (by rw [Lib.len8tab_size]; omega)]
    unfold wrap64
    omega
  all_goals
    exfalso
    rename_i hq
    rw [Lib.len8tab_size] at hq
    omega
set_option maxRecDepth 100000 in
theorem len64_16 (a0 : Int) (w : World) (h0 : 0 ≤ a0) (h1 : a0 ≤ 18446744073709551615) (t1 : a0 < 4294967296) (t2 : 65536 ≤ a0) (t3 : a0 / 65536 < 256) :
    Calls Try.prog 61 #[.int .u64 a0] w fun e w' => e = .returned (.int .i64 (Lib.bitLen a0.toNat)) ∧ Drawn0 w w' := by
  have hx0 : 0 ≤ a0 / 65536 := by omega
  have hx1 : a0 / 65536 ≤ 255 := by omega
  have hv : (16 : Int) + Lib.bitLen (a0 / 65536).toNat = Lib.bitLen a0.toNat ∧ Lib.bitLen (a0 / 65536).toNat ≤ 8 := by
    have l_ := Lib.bitLen_le8' (a0 / 65536) hx0 hx1
    have s_ := Lib.bitLen_shift16 a0.toNat (by omega) (by omega)
    have e_ : (a0 / 65536).toNat = a0.toNat / 65536 := by omega
    rw [e_] at l_ ⊢
    omega
  have HV := Aside0.mk hv
  clear hv hx0 hx1
  go_enter Try.func61, Try.ntmps61
  go_wp2
  · go_ret
    refine ⟨congrArg Ending.returned (congrArg (Value.int IntKind.i64) ?_), Drawn0.refl _⟩
    have hv := HV.out
    rw [len8_get (a0 / 65536) (by omega) (by rw [Lib.len8tab_size]; omega)]
    unfold wrap64
    omega
  all_goals
    exfalso
    rename_i hq
    rw [Lib.len8tab_size] at hq
    omega
set_option maxRecDepth 100000 in
theorem len64_8 (a0 : Int) (w : World) (h0 : 0 ≤ a0) (h1 : a0 ≤ 18446744073709551615) (t1 : a0 < 4294967296) (t2 : a0 < 65536) (t3 : 256 ≤ a0) :
    Calls Try.prog 61 #[.int .u64 a0] w fun e w' => e = .returned (.int .i64 (Lib.bitLen a0.toNat)) ∧ Drawn0 w w' := by
  have hx0 : 0 ≤ a0 / 256 := by omega
  have hx1 : a0 / 256 ≤ 255 := by omega
  have hv : (8 : Int) + Lib.bitLen (a0 / 256).toNat = Lib.bitLen a0.toNat ∧ Lib.bitLen (a0 / 256).toNat ≤ 8 := by
    have l_ := Lib.bitLen_le8' (a0 / 256) hx0 hx1
    have s_ := Lib.bitLen_shift8 a0.toNat (by omega) (by omega)
    have e_ : (a0 / 256).toNat = a0.toNat / 256 := by omega
    rw [e_] at l_ ⊢
    omega
  have HV := Aside0.mk hv
  clear hv hx0 hx1
  go_enter Try.func61, Try.ntmps61
  go_wp2
  · go_ret
    refine ⟨congrArg Ending.returned (congrArg (Value.int IntKind.i64) ?_), Drawn0.refl _⟩
    have hv := HV.out
    rw [len8_get (a0 / 256) (by omega) (by rw [Lib.len8tab_size]; omega)]
    unfold wrap64
    omega
  all_goals
    exfalso
    rename_i hq
    rw [Lib.len8tab_size] at hq
    omega
set_option maxRecDepth 100000 in
theorem len64_0 (a0 : Int) (w : World) (h0 : 0 ≤ a0) (h1 : a0 ≤ 18446744073709551615) (t1 : a0 < 4294967296) (t2 : a0 < 65536) (t3 : a0 < 256) :
    Calls Try.prog 61 #[.int .u64 a0] w fun e w' => e = .returned (.int .i64 (Lib.bitLen a0.toNat)) ∧ Drawn0 w w' := by
  have hx0 : 0 ≤ a0 := by omega
  have hx1 : a0 ≤ 255 := by omega
  have hv : (0 : Int) + Lib.bitLen (a0).toNat = Lib.bitLen a0.toNat ∧ Lib.bitLen (a0).toNat ≤ 8 := by
    have l_ := Lib.bitLen_le8' (a0) hx0 hx1
    have e_ : (a0).toNat = a0.toNat := by omega
    rw [e_] at l_ ⊢
    omega
  have HV := Aside0.mk hv
  clear hv hx0 hx1
  go_enter Try.func61, Try.ntmps61
  go_wp2
  · go_ret
    refine ⟨congrArg Ending.returned (congrArg (Value.int IntKind.i64) ?_), Drawn0.refl _⟩
    have hv := HV.out
    rw [len8_get (a0) (by omega) (by rw [Lib.len8tab_size]; omega)]
    unfold wrap64
    omega
  all_goals
    exfalso
    rename_i hq
    rw [Lib.len8tab_size] at hq
    omega
theorem bits_Len64.calls (a0 : Int) (r : Int) (w : World) (h : bits_Len64.f a0 = some r) :
    Calls Try.prog 61 #[.int .u64 a0] w fun e w' => e = .returned (.int .i64 r) ∧ Drawn0 w w' := by
  by_cases h0 : 0 ≤ a0
  · by_cases h1 : a0 ≤ 18446744073709551615
    · rw [bits_Len64.f, if_pos h0, if_pos h1] at h
      obtain rfl := Option.some.inj h
      clear h
      rcases Int.lt_or_le a0 4294967296 with t1 | t1
      · rcases Int.lt_or_le a0 65536 with t2 | t2
        · rcases Int.lt_or_le a0 256 with t3 | t3
          · exact len64_0 a0 w h0 h1 t1 t2 t3
          · exact len64_8 a0 w h0 h1 t1 t2 t3
        · rcases Int.lt_or_le (a0 / 65536) 256 with t3 | t3
          · exact len64_16 a0 w h0 h1 t1 t2 t3
          · exact len64_24 a0 w h0 h1 t1 t2 t3
      · rcases Int.lt_or_le (a0 / 4294967296) 65536 with t2 | t2
        · rcases Int.lt_or_le (a0 / 4294967296) 256 with t3 | t3
          · exact len64_32 a0 w h0 h1 t1 t2 t3
          · exact len64_40 a0 w h0 h1 t1 t2 t3
        · rcases Int.lt_or_le (a0 / 4294967296 / 65536) 256 with t3 | t3
          · exact len64_48 a0 w h0 h1 t1 t2 t3
          · exact len64_56 a0 w h0 h1 t1 t2 t3
    · rw [bits_Len64.f, if_pos h0, if_neg h1] at h
      exact absurd h (by simp)
  · rw [bits_Len64.f, if_neg h0] at h
    exact absurd h (by simp)

/-! ### wire_Size: function 26 -/
def wire_Size.f (a0 : Int) : Option (Int) := (bits_Len64.f (Go.bits .or .u64 a0 1)).bind fun t208 => (some (wrap64 (Int.tdiv (wrap64 (t208 + 6)) 7)))
set_option maxHeartbeats 8000000 in
set_option maxRecDepth 100000 in
theorem wire_Size.calls (a0 : Int) (r : Int) (w : World) (h : wire_Size.f a0 = some r) :
    Calls Try.prog 26 #[.int .u64 a0] w fun e w' => e = .returned (.int .i64 r) ∧ Drawn0 w w' := by
  have H : ((bits_Len64.f (Go.bits .or .u64 a0 1)).bind fun t208 => (some (wrap64 (Int.tdiv (wrap64 (t208 + 6)) 7)))) = some r := h
  clear h
  replace H := Option.bind_eq_some_iff.mp H
  obtain ⟨t208, A20, H⟩ := H
  replace H : (some (wrap64 (Int.tdiv (wrap64 (t208 + 6)) 7))) = some r := H
  have A2 := Aside0.mk A20
  clear A20
  obtain rfl := Option.some.inj H
  go_enter Try.func26, Try.ntmps26
  go_wp2_with (first | ((with_reducible refine gate_callee (f := 61) rfl ?_); refine goesL_ (some 5) rfl rfl Try.func61 (by kernel_rfl) rfl #[.int .u64 (Go.bits .or .u64 a0 1)] rfl (by (try simp only [List.map_toArray, List.map_cons, List.map_nil]); first | done | rfl | (simp only [List.length_drop, List.length_take]; rfl)) ?_; (with_reducible refine (bits_Len64.calls (Go.bits .or .u64 a0 1) t208 _ A2.out).mono ?_); rintro e w' ⟨rfl, ⟨nd, rfl⟩⟩; refine ⟨_, rfl, ?_⟩))
  go_ret
  exact ⟨by first | rfl | (simp; done) | (simp [*]; done), by repeat (first | exact Drawn0.refl _ | apply Drawn0.step)⟩

end Go.Proofs.Ytcninjadeagenaa.HWire
