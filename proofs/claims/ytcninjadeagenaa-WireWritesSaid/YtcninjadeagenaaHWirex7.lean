/- Go functions as Lean functions, each with a proof that the Go code comes to just its answers; a part of the proofs of the laws of the family Wire. No condition but those that each theorem names. Written by a program of this session (hprint.py). -/
import Derived.Test.YtcninjadeagenaaHWirex0
import Derived.Test.YtcninjadeagenaaHWirex1
import Derived.Test.YtcninjadeagenaaHWirex2
import Derived.Test.YtcninjadeagenaaHWirex4
namespace Go.Proofs.Ytcninjadeagenaa.HWire
open Go.RowKit Go.Proofs.YtcninjadeagenaaW.PrintWords Go.Proofs.YtcninjadeagenaaW.PrintLast Go.Proofs.YtcninjadeagenaaW.PrintMore
attribute [local go_sem] max2_int min2_int max_two min_two max_three min_three max_four min_four   -- for this text's walks alone
set_option linter.unusedVariables false
set_option linter.unusedSimpArgs false

/-! ### tripwirelaw03_WireRows: function 7 -/
mutual
def tripwirelaw03_WireRows.j0 : Nat → List Int → List ByteArray → Bool → Bool → Option (Bool)
  | 0, _, _, _, _ => none
  | k + 1, x0, x1, x5, x30 => if x30 = true then (some x5) else ((wire_Put.f k (⟨#[]⟩ : ByteArray) x0).bind fun t244 => (tripwirelaw03_WireRows.l0 k x0 x1 x5 t244 0 0 0))
def tripwirelaw03_WireRows.l0 : Nat → List Int → List ByteArray → Bool → ByteArray → Int → Int → Int → Option (Bool)
  | 0, _, _, _, _, _, _, _ => none
  | k + 1, x0, x1, x5, x6, x7, x8, x9 => if x9 < (x0.length : Int) then ((wire_Take.f k x6 x8).bind fun bt245 => (if 0 ≤ x9 then ((wire_Size.f (rd x0 x9)).bind fun t249 => (if bt245.1 = (rd x0 x9) then (if bt245.2.2 = 0 then (if bt245.2.1 = (wrap64 (x8 + t249)) then (tripwirelaw03_WireRows.l0 k x0 x1 x5 x6 (wrap64 (x7 + t249)) bt245.2.1 (wrap64 (x9 + 1))) else (some false)) else (some false)) else (some false))) else (none))) else (if x7 = (x6.size : Int) then (tripwirelaw03_WireRows.l1 k x1 x5 x6 0) else (some false))
def tripwirelaw03_WireRows.l1 : Nat → List ByteArray → Bool → ByteArray → Int → Option (Bool)
  | 0, _, _, _, _ => none
  | k + 1, x1, x5, x6, x14 => if x14 < (x1.length : Int) then (tripwirelaw03_WireRows.j3 k x1 x5 x6 x14 (decide ((x6.size : Int) < 16777216))) else (tripwirelaw03_WireRows.j3 k x1 x5 x6 x14 false)
def tripwirelaw03_WireRows.j3 : Nat → List ByteArray → Bool → ByteArray → Int → Bool → Option (Bool)
  | 0, _, _, _, _, _ => none
  | k + 1, x1, x5, x6, x14, x85 => if x85 = true then (if 0 ≤ x14 then (if x14 < (x1.length : Int) then (if ((rdOf ByteArray.empty x1 x14).size : Int) > 65536 then (some x5) else ((wire_PutText.f k x6 (rdOf ByteArray.empty x1 x14)).bind fun t256 => ((wire_TakeText.f k t256 (x6.size : Int)).bind fun bt257 => (if bt257.1.toList = (rdOf ByteArray.empty x1 x14).toList then (if bt257.2.1 = (t256.size : Int) then (if bt257.2.2 = 0 then (if 0 ≤ (x6.size : Int) then (if (x6.size : Int) ≤ (t256.size : Int) then (if (t256.extract 0 ((x6.size : Int) : Int).toNat).toList = x6.toList then (tripwirelaw03_WireRows.l1 k x1 x5 t256 (wrap64 (x14 + 1))) else (some false)) else (none)) else (none)) else (some false)) else (some false)) else (some false))))) else (none)) else (none)) else ((wire_Take.f k x6 (x6.size : Int)).bind fun bt251 => (if x5 = true then (if bt251.2.1 = (x6.size : Int) then (some (bt251.2.2 == 30)) else (some false)) else (some false)))
end
def tripwirelaw03_WireRows.f (k : Nat) (l0 : List Int) (l1 : List ByteArray) : Option (Bool) := (tripwirelaw03_works.f k).bind fun t243 => (if (l0.length : Int) > 1048576 then (tripwirelaw03_WireRows.j0 k l0 l1 t243 true) else (tripwirelaw03_WireRows.j0 k l0 l1 t243 (decide ((l1.length : Int) > 65536))))
theorem tripwirelaw03_WireRows.mono_l : ∀ k, (∀ y0 y1 y2 y3, LeO (tripwirelaw03_WireRows.j0 k y0 y1 y2 y3) (tripwirelaw03_WireRows.j0 (k + 1) y0 y1 y2 y3)) ∧ (∀ y0 y1 y2 y3 y4 y5 y6, LeO (tripwirelaw03_WireRows.l0 k y0 y1 y2 y3 y4 y5 y6) (tripwirelaw03_WireRows.l0 (k + 1) y0 y1 y2 y3 y4 y5 y6)) ∧ (∀ y0 y1 y2 y3, LeO (tripwirelaw03_WireRows.l1 k y0 y1 y2 y3) (tripwirelaw03_WireRows.l1 (k + 1) y0 y1 y2 y3)) ∧ (∀ y0 y1 y2 y3 y4, LeO (tripwirelaw03_WireRows.j3 k y0 y1 y2 y3 y4) (tripwirelaw03_WireRows.j3 (k + 1) y0 y1 y2 y3 y4))
  | 0 => ⟨fun _ _ _ _ r h => by simp [tripwirelaw03_WireRows.j0] at h, fun _ _ _ _ _ _ _ r h => by simp [tripwirelaw03_WireRows.l0] at h, fun _ _ _ _ r h => by simp [tripwirelaw03_WireRows.l1] at h, fun _ _ _ _ _ r h => by simp [tripwirelaw03_WireRows.j3] at h⟩
  | k + 1 => by
    obtain ⟨ih0, ih1, ih2, ih3⟩ := tripwirelaw03_WireRows.mono_l k
    refine ⟨?_, ?_, ?_, ?_⟩
    · intro y0 y1 y2 y3
      unfold tripwirelaw03_WireRows.j0
      repeat' first
      | (with_reducible exact ih0 _ _ _ _)
      | (with_reducible exact ih1 _ _ _ _ _ _ _)
      | (with_reducible exact ih2 _ _ _ _)
      | (with_reducible exact ih3 _ _ _ _ _)
      | (with_reducible exact tripwirelaw03_works.mono _)
      | (with_reducible exact wire_Put.mono _ _ _)
      | (with_reducible exact wire_PutText.mono _ _ _)
      | (with_reducible exact wire_Take.mono _ _ _)
      | (with_reducible exact wire_TakeText.mono _ _ _)
      | (with_reducible exact LeO.refl _)
      | (with_reducible exact LeO.none _)
      | (with_reducible refine LeO.ite ?_ ?_)
      | (with_reducible refine LeO.bind ?_ (fun _ => ?_))
      | exact ih0 _ _ _ _
      | exact ih1 _ _ _ _ _ _ _
      | exact ih2 _ _ _ _
      | exact ih3 _ _ _ _ _
      | exact tripwirelaw03_works.mono _
      | exact wire_Put.mono _ _ _
      | exact wire_PutText.mono _ _ _
      | exact wire_Take.mono _ _ _
      | exact wire_TakeText.mono _ _ _
      | exact LeO.none _
      | refine LeO.ite ?_ ?_
      | refine LeO.bind ?_ (fun _ => ?_)
    · intro y0 y1 y2 y3 y4 y5 y6
      unfold tripwirelaw03_WireRows.l0
      repeat' first
      | (with_reducible exact ih0 _ _ _ _)
      | (with_reducible exact ih1 _ _ _ _ _ _ _)
      | (with_reducible exact ih2 _ _ _ _)
      | (with_reducible exact ih3 _ _ _ _ _)
      | (with_reducible exact tripwirelaw03_works.mono _)
      | (with_reducible exact wire_Put.mono _ _ _)
      | (with_reducible exact wire_PutText.mono _ _ _)
      | (with_reducible exact wire_Take.mono _ _ _)
      | (with_reducible exact wire_TakeText.mono _ _ _)
      | (with_reducible exact LeO.refl _)
      | (with_reducible exact LeO.none _)
      | (with_reducible refine LeO.ite ?_ ?_)
      | (with_reducible refine LeO.bind ?_ (fun _ => ?_))
      | exact ih0 _ _ _ _
      | exact ih1 _ _ _ _ _ _ _
      | exact ih2 _ _ _ _
      | exact ih3 _ _ _ _ _
      | exact tripwirelaw03_works.mono _
      | exact wire_Put.mono _ _ _
      | exact wire_PutText.mono _ _ _
      | exact wire_Take.mono _ _ _
      | exact wire_TakeText.mono _ _ _
      | exact LeO.none _
      | refine LeO.ite ?_ ?_
      | refine LeO.bind ?_ (fun _ => ?_)
    · intro y0 y1 y2 y3
      unfold tripwirelaw03_WireRows.l1
      repeat' first
      | (with_reducible exact ih0 _ _ _ _)
      | (with_reducible exact ih1 _ _ _ _ _ _ _)
      | (with_reducible exact ih2 _ _ _ _)
      | (with_reducible exact ih3 _ _ _ _ _)
      | (with_reducible exact tripwirelaw03_works.mono _)
      | (with_reducible exact wire_Put.mono _ _ _)
      | (with_reducible exact wire_PutText.mono _ _ _)
      | (with_reducible exact wire_Take.mono _ _ _)
      | (with_reducible exact wire_TakeText.mono _ _ _)
      | (with_reducible exact LeO.refl _)
      | (with_reducible exact LeO.none _)
      | (with_reducible refine LeO.ite ?_ ?_)
      | (with_reducible refine LeO.bind ?_ (fun _ => ?_))
      | exact ih0 _ _ _ _
      | exact ih1 _ _ _ _ _ _ _
      | exact ih2 _ _ _ _
      | exact ih3 _ _ _ _ _
      | exact tripwirelaw03_works.mono _
      | exact wire_Put.mono _ _ _
      | exact wire_PutText.mono _ _ _
      | exact wire_Take.mono _ _ _
      | exact wire_TakeText.mono _ _ _
      | exact LeO.none _
      | refine LeO.ite ?_ ?_
      | refine LeO.bind ?_ (fun _ => ?_)
    · intro y0 y1 y2 y3 y4
      unfold tripwirelaw03_WireRows.j3
      repeat' first
      | (with_reducible exact ih0 _ _ _ _)
      | (with_reducible exact ih1 _ _ _ _ _ _ _)
      | (with_reducible exact ih2 _ _ _ _)
      | (with_reducible exact ih3 _ _ _ _ _)
      | (with_reducible exact tripwirelaw03_works.mono _)
      | (with_reducible exact wire_Put.mono _ _ _)
      | (with_reducible exact wire_PutText.mono _ _ _)
      | (with_reducible exact wire_Take.mono _ _ _)
      | (with_reducible exact wire_TakeText.mono _ _ _)
      | (with_reducible exact LeO.refl _)
      | (with_reducible exact LeO.none _)
      | (with_reducible refine LeO.ite ?_ ?_)
      | (with_reducible refine LeO.bind ?_ (fun _ => ?_))
      | exact ih0 _ _ _ _
      | exact ih1 _ _ _ _ _ _ _
      | exact ih2 _ _ _ _
      | exact ih3 _ _ _ _ _
      | exact tripwirelaw03_works.mono _
      | exact wire_Put.mono _ _ _
      | exact wire_PutText.mono _ _ _
      | exact wire_Take.mono _ _ _
      | exact wire_TakeText.mono _ _ _
      | exact LeO.none _
      | refine LeO.ite ?_ ?_
      | refine LeO.bind ?_ (fun _ => ?_)
theorem tripwirelaw03_WireRows.mono : ∀ a0 a1 k, LeO (tripwirelaw03_WireRows.f k a0 a1) (tripwirelaw03_WireRows.f (k + 1) a0 a1) := by
  intro a0 a1 k
  obtain ⟨ih0, ih1, ih2, ih3⟩ := tripwirelaw03_WireRows.mono_l k
  unfold tripwirelaw03_WireRows.f
  repeat' first
      | (with_reducible exact ih0 _ _ _ _)
      | (with_reducible exact ih1 _ _ _ _ _ _ _)
      | (with_reducible exact ih2 _ _ _ _)
      | (with_reducible exact ih3 _ _ _ _ _)
      | (with_reducible exact tripwirelaw03_works.mono _)
      | (with_reducible exact wire_Put.mono _ _ _)
      | (with_reducible exact wire_PutText.mono _ _ _)
      | (with_reducible exact wire_Take.mono _ _ _)
      | (with_reducible exact wire_TakeText.mono _ _ _)
      | (with_reducible exact LeO.refl _)
      | (with_reducible exact LeO.none _)
      | (with_reducible refine LeO.ite ?_ ?_)
      | (with_reducible refine LeO.bind ?_ (fun _ => ?_))
      | exact ih0 _ _ _ _
      | exact ih1 _ _ _ _ _ _ _
      | exact ih2 _ _ _ _
      | exact ih3 _ _ _ _ _
      | exact tripwirelaw03_works.mono _
      | exact wire_Put.mono _ _ _
      | exact wire_PutText.mono _ _ _
      | exact wire_Take.mono _ _ _
      | exact wire_TakeText.mono _ _ _
      | exact LeO.none _
      | refine LeO.ite ?_ ?_
      | refine LeO.bind ?_ (fun _ => ?_)
set_option maxHeartbeats 8000000 in
set_option maxRecDepth 100000 in
theorem tripwirelaw03_WireRows.calls (k : Nat) (A0 : Option Addr) (c0 : Nat) (l0 : List Int) (A1 : Option Addr) (c1 : Nat) (l1 : List ByteArray) (r : Bool) (w : World) (hr0 : Kd.C (Kd.int .u64) w A0 l0.length l0) (hc0 : l0.length ≤ c0) (hr1 : Kd.C Kd.string w A1 l1.length l1) (hc1 : l1.length ≤ c1) (h : tripwirelaw03_WireRows.f k l0 l1 = some r) :
    Calls Try.prog 7 #[.slice A0 l0.length c0, .slice A1 l1.length c1] w fun e w' => e = .returned (.bool r) ∧ Below w.heap.size w w' := by
  have HR0 := Aside0.mk hr0
  have HC0 := Aside0.mk hc0
  clear hr0 hc0
  have HR1 := Aside0.mk hr1
  have HC1 := Aside0.mk hc1
  clear hr1 hc1
  have HB := Aside0.mk (Below.refl w.heap.size w)
  have H : ((tripwirelaw03_works.f k).bind fun t243 => (if (l0.length : Int) > 1048576 then (tripwirelaw03_WireRows.j0 k l0 l1 t243 true) else (tripwirelaw03_WireRows.j0 k l0 l1 t243 (decide ((l1.length : Int) > 65536))))) = some r := h
  clear h
  replace H := Option.bind_eq_some_iff.mp H
  obtain ⟨t243, A30, H⟩ := H
  replace H : (if (l0.length : Int) > 1048576 then (tripwirelaw03_WireRows.j0 k l0 l1 t243 true) else (tripwirelaw03_WireRows.j0 k l0 l1 t243 (decide ((l1.length : Int) > 65536)))) = some r := H
  have A3 := Aside0.mk A30
  clear A30
  have HC4 := Aside0.mk H
  clear H
  go_enter Try.func7, Try.ntmps7
  go_upto_region 2 with (first | ((with_reducible refine gate_callee (f := 14) rfl ?_); refine goesL_ (some 22) rfl rfl Try.func14 (by kernel_rfl) rfl #[] rfl (by (try simp only [List.map_toArray, List.map_cons, List.map_nil]); first | done | rfl | (simp only [List.length_drop, List.length_take]; rfl)) ?_; (with_reducible refine (tripwirelaw03_works.calls k  t243 _ A3.out).mono ?_); rintro e w5 ⟨rfl, hb⟩; refine ⟨_, rfl, ?_⟩; have n0_ := Aside0.mk (below_step (by repeat (first | (with_reducible first | exact HB.out | apply below_alloc | apply pw_below_drewN | apply below_drew1) | exact HB.out)) hb); clear HB; have HB := n0_; clear n0_; (try clear hb); (try clear hb2); (try clear hk); (try clear hi)))
  (try simp only [Act.put, List.setIfInBounds_toArray, List.set_cons_zero, List.set_cons_succ])
  go_cut [30] (fun v30 wc => ∃ (kq : Nat) (x30_3 : Bool), v30 = .bool x30_3 ∧ Aside0 (tripwirelaw03_WireRows.j0 kq l0 l1 t243 x30_3 = some r) ∧ Aside0 (kq ≤ k) ∧ Aside0 (Below w.heap.size w wc))
  case first =>
    have H := HC4.out
    clear HC4
    by_cases c6 : (l0.length : Int) > 1048576
    · rw [if_pos c6] at H
      have c6b0 : decide (1048576 < (l0.length : Int)) = true := decide_eq_true c6
      have c6b1 : decide (1048576 < l0.length) = true := decide_eq_true (by omega)
      clear c6
      (first | rw [c6b0] | (simp only [i64_w, i32_w]; rw [c6b0]) | skip)
      have H' := Aside0.mk H
      clear H
      go_wp2
      go_meet
      case rel => exact ⟨_, (true), (by first | rfl | (simp; done) | (simp [*]; done)), H', ⟨by first | omega | exact Nat.le_refl _⟩, ⟨by repeat (first | (with_reducible first | exact HB.out | apply below_alloc | apply pw_below_drewN | apply below_drew1) | exact HB.out)⟩⟩
    · rw [if_neg c6] at H
      have c6b0 : decide (1048576 < (l0.length : Int)) = false := decide_eq_false c6
      have c6b1 : decide (1048576 < l0.length) = false := decide_eq_false (by omega)
      clear c6
      (first | rw [c6b0] | (simp only [i64_w, i32_w]; rw [c6b0]) | skip)
      have H' := Aside0.mk H
      clear H
      go_wp2
      go_meet
      case rel => exact ⟨_, (decide ((l1.length : Int) > 65536)), (by first | rfl | (simp; done) | (simp [*]; done)), H', ⟨by first | omega | exact Nat.le_refl _⟩, ⟨by repeat (first | (with_reducible first | exact HB.out | apply below_alloc | apply pw_below_drewN | apply below_drew1) | exact HB.out)⟩⟩
  case rest =>
    clear HC4
    try clear c1
    try clear p2
    try clear c6
    try clear c6b0
    try clear c6b1
    obtain ⟨kq, x30_3, rfl, HA, HJ3, HB⟩ := hcut
    cases kq with
    | zero => exact absurd HA.out (by simp [tripwirelaw03_WireRows.j0])
    | succ kj3 =>
      have H := HA.out
      clear HA
      simp only [tripwirelaw03_WireRows.j0] at H
      by_cases c7 : x30_3 = true
      · subst c7
        have H1 : (some t243) = some r := by rw [if_pos rfl] at H; exact H
        clear H
        have H := H1
        clear H1
        obtain rfl := Option.some.inj H
        go_wp2
        go_ret
        exact ⟨by first | rfl | (simp [errW_none, errW_some] <;> rfl) | (simp [*, errW_none, errW_some] <;> rfl), by repeat (first | (with_reducible first | exact HB.out | apply below_alloc | apply pw_below_drewN | apply below_drew1) | exact HB.out)⟩
      · replace c7 := Bool.eq_false_iff.mpr c7
        subst c7
        have H1 : ((wire_Put.f kj3 (⟨#[]⟩ : ByteArray) l0).bind fun t244 => (tripwirelaw03_WireRows.l0 kj3 l0 l1 t243 t244 0 0 0)) = some r := by rw [if_neg (show ¬ (false = true) by decide)] at H; exact H
        clear H
        have H := H1
        clear H1
        replace H := Option.bind_eq_some_iff.mp H
        obtain ⟨t244, A80, H⟩ := H
        replace H : (tripwirelaw03_WireRows.l0 kj3 l0 l1 t243 t244 0 0 0) = some r := H
        have A8 := Aside0.mk A80
        clear A80
        have H' := Aside0.mk H
        clear H
        go_wp2_with (first | ((with_reducible refine gate_callee (f := 21) rfl ?_); refine goesL_ (some 33) rfl rfl Try.func21 (by kernel_rfl) rfl #[.string (⟨#[]⟩ : ByteArray), .slice A0 l0.length c0] rfl (by (try simp only [List.map_toArray, List.map_cons, List.map_nil]); first | done | rfl | (simp only [List.length_drop, List.length_take]; rfl)) ?_; (with_reducible refine (wire_Put.calls kj3 (⟨#[]⟩ : ByteArray) _ _ l0 t244 _ ?side1 ?side2 A8.out).mono ?_); (case side1 => repeat (first | exact (Kd.C_below HR0.out HB.out) | (with_reducible refine Kd.C_alloc ?_ _) | (with_reducible refine Kd.C_drewN ?_ _) | (with_reducible refine Kd.C_drew ?_))); (case side2 => exact HC0.out); rintro e w9 ⟨rfl, hb⟩; refine ⟨_, rfl, ?_⟩; have n0_ := Aside0.mk (below_step (by repeat (first | (with_reducible first | exact HB.out | apply below_alloc | apply pw_below_drewN | apply below_drew1) | exact HB.out)) hb); clear HB; have HB := n0_; clear n0_; (try clear hb); (try clear hb2); (try clear hk); (try clear hi)))
        go_loopg [7, 8, 9] kj3 (fun kq v7 v8 v9 w' => ∃ (x7_2 : Int) (x8_2 : Int) (x9_2 : Int), v7 = .int .i64 x7_2 ∧ v8 = .int .i64 x8_2 ∧ v9 = .int .i64 x9_2 ∧ Aside0 (tripwirelaw03_WireRows.l0 kq l0 l1 t243 t244 x7_2 x8_2 x9_2 = some r) ∧ Aside0 (kq ≤ kj3) ∧ Aside0 (Below w.heap.size w w'))
        case atStart => exact ⟨(0), (0), (0), (by first | rfl | (simp; done) | (simp [*]; done)), (by first | rfl | (simp; done) | (simp [*]; done)), (by first | rfl | (simp; done) | (simp [*]; done)), H', ⟨Nat.le_refl _⟩, ⟨by repeat (first | (with_reducible first | exact HB.out | apply below_alloc | apply pw_below_drewN | apply below_drew1) | exact HB.out)⟩⟩
        case round =>
          clear H'
          try clear c1
          try clear c2
          try clear p2
          try clear c6
          try clear c6b0
          try clear c6b1
          try clear c7
          try clear p2
          obtain ⟨x7_2, x8_2, x9_2, rfl, rfl, rfl, HA, HK2, HB⟩ := hrel
          cases gk with
          | zero => exact absurd HA.out (by simp [tripwirelaw03_WireRows.l0])
          | succ k2 =>
            have H := HA.out
            clear HA
            simp only [tripwirelaw03_WireRows.l0] at H
            by_cases c10 : x9_2 < (l0.length : Int)
            · rw [if_pos c10] at H
              have c10b0 : decide (x9_2 < (l0.length : Int)) = true := decide_eq_true c10
              clear c10
              replace H := Option.bind_eq_some_iff.mp H
              obtain ⟨⟨t245, t246, t247⟩, A110, H⟩ := H
              replace H : (if 0 ≤ x9_2 then ((wire_Size.f (rd l0 x9_2)).bind fun t249 => (if t245 = (rd l0 x9_2) then (if t247 = 0 then (if t246 = (wrap64 (x8_2 + t249)) then (tripwirelaw03_WireRows.l0 k2 l0 l1 t243 t244 (wrap64 (x7_2 + t249)) t246 (wrap64 (x9_2 + 1))) else (some false)) else (some false)) else (some false))) else (none)) = some r := H
              have A11 := Aside0.mk A110
              clear A110
              by_cases c12 : 0 ≤ x9_2
              · rw [if_pos c12] at H
                have c12b0 : decide (0 ≤ x9_2) = true := decide_eq_true c12
                clear c12
                replace H := Option.bind_eq_some_iff.mp H
                obtain ⟨t249, A130, H⟩ := H
                replace H : (if t245 = (rd l0 x9_2) then (if t247 = 0 then (if t246 = (wrap64 (x8_2 + t249)) then (tripwirelaw03_WireRows.l0 k2 l0 l1 t243 t244 (wrap64 (x7_2 + t249)) t246 (wrap64 (x9_2 + 1))) else (some false)) else (some false)) else (some false)) = some r := H
                have A13 := Aside0.mk A130
                clear A130
                by_cases c14 : t245 = (rd l0 x9_2)
                · rw [if_pos c14] at H
                  have c14b0 : (t245 == (rd l0 x9_2)) = true := beq_iff_eq.mpr c14
                  have c14b1 : (t245 != (rd l0 x9_2)) = false := bne_eq_false_iff_eq.mpr c14
                  clear c14
                  by_cases c15 : t247 = 0
                  · rw [if_pos c15] at H
                    have c15b0 : (t247 == 0) = true := beq_iff_eq.mpr c15
                    have c15b1 : (t247 != 0) = false := bne_eq_false_iff_eq.mpr c15
                    clear c15
                    by_cases c16 : t246 = (wrap64 (x8_2 + t249))
                    · rw [if_pos c16] at H
                      have c16b0 : (t246 == (wrap64 (x8_2 + t249))) = true := beq_iff_eq.mpr c16
                      have c16b1 : (t246 != (wrap64 (x8_2 + t249))) = false := bne_eq_false_iff_eq.mpr c16
                      clear c16
                      have H' := Aside0.mk H
                      clear H
                      go_wp2_with (first | ((with_reducible refine gate_callee (f := 15) rfl ?_); refine goesL_ (some 43) rfl rfl Try.func15 (by kernel_rfl) rfl #[.string t244, .int .i64 x8_2] rfl (by (try simp only [List.map_toArray, List.map_cons, List.map_nil]); first | done | rfl | (simp only [List.length_drop, List.length_take]; rfl)) ?_; (with_reducible refine (wire_Take.calls k2 t244 x8_2 t245 t246 t247 _ A11.out).mono ?_); rintro e w' ⟨rfl, ⟨nd, rfl⟩⟩; refine ⟨_, rfl, ?_⟩; have p248 : 0 ≤ (x9_2 : Int) := of_decide_eq_true (by first | (with_reducible assumption) | assumption); have q248 : x9_2 < (l0.length : Int) := of_decide_eq_true (by first | (with_reducible assumption) | assumption); obtain ⟨ad248, e248, hx248_0⟩ := Kd.at_int HR0.out x9_2 p248 q248; cases e248; replace hx248_0 := (HB.out.cell (World.block_lt_of_cell? w _ hx248_0)).trans hx248_0; replace p248 := eq_true p248; replace q248 := eq_true q248) | ((with_reducible refine gate_callee (f := 26) rfl ?_); refine goesL_ (some 51) rfl rfl Try.func26 (by kernel_rfl) rfl #[.int .u64 (rd l0 x9_2)] rfl (by (try simp only [List.map_toArray, List.map_cons, List.map_nil]); first | done | rfl | (simp only [List.length_drop, List.length_take]; rfl)) ?_; (with_reducible refine (wire_Size.calls (rd l0 x9_2) t249 _ A13.out).mono ?_); rintro e w' ⟨rfl, ⟨nd, rfl⟩⟩; refine ⟨_, rfl, ?_⟩; have p250 : 0 ≤ (x9_2 : Int) := of_decide_eq_true (by first | (with_reducible assumption) | assumption); have q250 : x9_2 < (l0.length : Int) := of_decide_eq_true (by first | (with_reducible assumption) | assumption); obtain ⟨ad250, e250, hx250_0⟩ := Kd.at_int HR0.out x9_2 p250 q250; obtain rfl : ad248 = ad250 := (by injection e250); replace hx250_0 := (HB.out.cell (World.block_lt_of_cell? w _ hx250_0)).trans hx250_0; replace p250 := eq_true p250; replace q250 := eq_true q250))
                      go_roundg k2
                      case measure => have := HJ3.out; have := HK2.out; omega
                      case rel => exact ⟨(wrap64 (x7_2 + t249)), (t246), (wrap64 (x9_2 + 1)), (by first | rfl | (simp; done) | (simp [*]; done)), (by first | rfl | (simp; done) | (simp [*]; done)), (by first | rfl | (simp; done) | (simp [*]; done)), H', ⟨by have := HJ3.out; have := HK2.out; omega⟩, ⟨by repeat (first | (with_reducible first | exact HB.out | apply below_alloc | apply pw_below_drewN | apply below_drew1) | exact HB.out)⟩⟩
                    · rw [if_neg c16] at H
                      have c16b0 : (t246 == (wrap64 (x8_2 + t249))) = false := beq_eq_false_iff_ne.mpr c16
                      have c16b1 : (t246 != (wrap64 (x8_2 + t249))) = true := bne_iff_ne.mpr c16
                      obtain rfl := Option.some.inj H
                      go_wp2_with (first | ((with_reducible refine gate_callee (f := 15) rfl ?_); refine goesL_ (some 43) rfl rfl Try.func15 (by kernel_rfl) rfl #[.string t244, .int .i64 x8_2] rfl (by (try simp only [List.map_toArray, List.map_cons, List.map_nil]); first | done | rfl | (simp only [List.length_drop, List.length_take]; rfl)) ?_; (with_reducible refine (wire_Take.calls k2 t244 x8_2 t245 t246 t247 _ A11.out).mono ?_); rintro e w' ⟨rfl, ⟨nd, rfl⟩⟩; refine ⟨_, rfl, ?_⟩; have p248 : 0 ≤ (x9_2 : Int) := of_decide_eq_true (by first | (with_reducible assumption) | assumption); have q248 : x9_2 < (l0.length : Int) := of_decide_eq_true (by first | (with_reducible assumption) | assumption); obtain ⟨ad248, e248, hx248_0⟩ := Kd.at_int HR0.out x9_2 p248 q248; cases e248; replace hx248_0 := (HB.out.cell (World.block_lt_of_cell? w _ hx248_0)).trans hx248_0; replace p248 := eq_true p248; replace q248 := eq_true q248) | ((with_reducible refine gate_callee (f := 26) rfl ?_); refine goesL_ (some 51) rfl rfl Try.func26 (by kernel_rfl) rfl #[.int .u64 (rd l0 x9_2)] rfl (by (try simp only [List.map_toArray, List.map_cons, List.map_nil]); first | done | rfl | (simp only [List.length_drop, List.length_take]; rfl)) ?_; (with_reducible refine (wire_Size.calls (rd l0 x9_2) t249 _ A13.out).mono ?_); rintro e w' ⟨rfl, ⟨nd, rfl⟩⟩; refine ⟨_, rfl, ?_⟩; have p250 : 0 ≤ (x9_2 : Int) := of_decide_eq_true (by first | (with_reducible assumption) | assumption); have q250 : x9_2 < (l0.length : Int) := of_decide_eq_true (by first | (with_reducible assumption) | assumption); obtain ⟨ad250, e250, hx250_0⟩ := Kd.at_int HR0.out x9_2 p250 q250; obtain rfl : ad248 = ad250 := (by injection e250); replace hx250_0 := (HB.out.cell (World.block_lt_of_cell? w _ hx250_0)).trans hx250_0; replace p250 := eq_true p250; replace q250 := eq_true q250))
                      go_ret
                      exact ⟨by first | rfl | (simp [errW_none, errW_some] <;> rfl) | (simp [*, errW_none, errW_some] <;> rfl), by repeat (first | (with_reducible first | exact HB.out | apply below_alloc | apply pw_below_drewN | apply below_drew1) | exact HB.out)⟩
                  · rw [if_neg c15] at H
                    have c15b0 : (t247 == 0) = false := beq_eq_false_iff_ne.mpr c15
                    have c15b1 : (t247 != 0) = true := bne_iff_ne.mpr c15
                    obtain rfl := Option.some.inj H
                    go_wp2_with (first | ((with_reducible refine gate_callee (f := 15) rfl ?_); refine goesL_ (some 43) rfl rfl Try.func15 (by kernel_rfl) rfl #[.string t244, .int .i64 x8_2] rfl (by (try simp only [List.map_toArray, List.map_cons, List.map_nil]); first | done | rfl | (simp only [List.length_drop, List.length_take]; rfl)) ?_; (with_reducible refine (wire_Take.calls k2 t244 x8_2 t245 t246 t247 _ A11.out).mono ?_); rintro e w' ⟨rfl, ⟨nd, rfl⟩⟩; refine ⟨_, rfl, ?_⟩; have p248 : 0 ≤ (x9_2 : Int) := of_decide_eq_true (by first | (with_reducible assumption) | assumption); have q248 : x9_2 < (l0.length : Int) := of_decide_eq_true (by first | (with_reducible assumption) | assumption); obtain ⟨ad248, e248, hx248_0⟩ := Kd.at_int HR0.out x9_2 p248 q248; cases e248; replace hx248_0 := (HB.out.cell (World.block_lt_of_cell? w _ hx248_0)).trans hx248_0; replace p248 := eq_true p248; replace q248 := eq_true q248) | ((with_reducible refine gate_callee (f := 26) rfl ?_); refine goesL_ (some 51) rfl rfl Try.func26 (by kernel_rfl) rfl #[.int .u64 (rd l0 x9_2)] rfl (by (try simp only [List.map_toArray, List.map_cons, List.map_nil]); first | done | rfl | (simp only [List.length_drop, List.length_take]; rfl)) ?_; (with_reducible refine (wire_Size.calls (rd l0 x9_2) t249 _ A13.out).mono ?_); rintro e w' ⟨rfl, ⟨nd, rfl⟩⟩; refine ⟨_, rfl, ?_⟩; have p250 : 0 ≤ (x9_2 : Int) := of_decide_eq_true (by first | (with_reducible assumption) | assumption); have q250 : x9_2 < (l0.length : Int) := of_decide_eq_true (by first | (with_reducible assumption) | assumption); obtain ⟨ad250, e250, hx250_0⟩ := Kd.at_int HR0.out x9_2 p250 q250; obtain rfl : ad248 = ad250 := (by injection e250); replace hx250_0 := (HB.out.cell (World.block_lt_of_cell? w _ hx250_0)).trans hx250_0; replace p250 := eq_true p250; replace q250 := eq_true q250))
                    go_ret
                    exact ⟨by first | rfl | (simp [errW_none, errW_some] <;> rfl) | (simp [*, errW_none, errW_some] <;> rfl), by repeat (first | (with_reducible first | exact HB.out | apply below_alloc | apply pw_below_drewN | apply below_drew1) | exact HB.out)⟩
                · rw [if_neg c14] at H
                  have c14b0 : (t245 == (rd l0 x9_2)) = false := beq_eq_false_iff_ne.mpr c14
                  have c14b1 : (t245 != (rd l0 x9_2)) = true := bne_iff_ne.mpr c14
                  obtain rfl := Option.some.inj H
                  go_wp2_with (first | ((with_reducible refine gate_callee (f := 15) rfl ?_); refine goesL_ (some 43) rfl rfl Try.func15 (by kernel_rfl) rfl #[.string t244, .int .i64 x8_2] rfl (by (try simp only [List.map_toArray, List.map_cons, List.map_nil]); first | done | rfl | (simp only [List.length_drop, List.length_take]; rfl)) ?_; (with_reducible refine (wire_Take.calls k2 t244 x8_2 t245 t246 t247 _ A11.out).mono ?_); rintro e w' ⟨rfl, ⟨nd, rfl⟩⟩; refine ⟨_, rfl, ?_⟩; have p248 : 0 ≤ (x9_2 : Int) := of_decide_eq_true (by first | (with_reducible assumption) | assumption); have q248 : x9_2 < (l0.length : Int) := of_decide_eq_true (by first | (with_reducible assumption) | assumption); obtain ⟨ad248, e248, hx248_0⟩ := Kd.at_int HR0.out x9_2 p248 q248; cases e248; replace hx248_0 := (HB.out.cell (World.block_lt_of_cell? w _ hx248_0)).trans hx248_0; replace p248 := eq_true p248; replace q248 := eq_true q248) | ((with_reducible refine gate_callee (f := 26) rfl ?_); refine goesL_ (some 51) rfl rfl Try.func26 (by kernel_rfl) rfl #[.int .u64 (rd l0 x9_2)] rfl (by (try simp only [List.map_toArray, List.map_cons, List.map_nil]); first | done | rfl | (simp only [List.length_drop, List.length_take]; rfl)) ?_; (with_reducible refine (wire_Size.calls (rd l0 x9_2) t249 _ A13.out).mono ?_); rintro e w' ⟨rfl, ⟨nd, rfl⟩⟩; refine ⟨_, rfl, ?_⟩; have p250 : 0 ≤ (x9_2 : Int) := of_decide_eq_true (by first | (with_reducible assumption) | assumption); have q250 : x9_2 < (l0.length : Int) := of_decide_eq_true (by first | (with_reducible assumption) | assumption); obtain ⟨ad250, e250, hx250_0⟩ := Kd.at_int HR0.out x9_2 p250 q250; obtain rfl : ad248 = ad250 := (by injection e250); replace hx250_0 := (HB.out.cell (World.block_lt_of_cell? w _ hx250_0)).trans hx250_0; replace p250 := eq_true p250; replace q250 := eq_true q250))
                  go_ret
                  exact ⟨by first | rfl | (simp [errW_none, errW_some] <;> rfl) | (simp [*, errW_none, errW_some] <;> rfl), by repeat (first | (with_reducible first | exact HB.out | apply below_alloc | apply pw_below_drewN | apply below_drew1) | exact HB.out)⟩
              · rw [if_neg c12] at H
                exact absurd H (by simp)
            · rw [if_neg c10] at H
              have c10b0 : decide (x9_2 < (l0.length : Int)) = false := decide_eq_false c10
              clear c10
              by_cases c17 : x7_2 = (t244.size : Int)
              · rw [if_pos c17] at H
                have c17b0 : (x7_2 == (t244.size : Int)) = true := beq_iff_eq.mpr c17
                have c17b1 : (x7_2 != (t244.size : Int)) = false := bne_eq_false_iff_eq.mpr c17
                clear c17
                have H' := Aside0.mk H
                clear H
                go_wp2
                go_loopg [6, 14] k2 (fun kq v6 v14 w' => ∃ (x6_3 : ByteArray) (x14_3 : Int), v6 = .string x6_3 ∧ v14 = .int .i64 x14_3 ∧ Aside0 (tripwirelaw03_WireRows.l1 kq l1 t243 x6_3 x14_3 = some r) ∧ Aside0 (kq ≤ k2) ∧ Aside0 (Below w.heap.size w w'))
                case atStart => exact ⟨(t244), (0), (by first | rfl | (simp; done) | (simp [*]; done)), (by first | rfl | (simp; done) | (simp [*]; done)), H', ⟨Nat.le_refl _⟩, ⟨by repeat (first | (with_reducible first | exact HB.out | apply below_alloc | apply pw_below_drewN | apply below_drew1) | exact HB.out)⟩⟩
                case round =>
                  clear H'
                  try clear c1
                  try clear c2
                  try clear p2
                  try clear q2
                  try clear hx2
                  try clear c6
                  try clear c6b0
                  try clear c6b1
                  try clear p6
                  try clear c7
                  try clear c10
                  try clear c10b0
                  try clear c12
                  try clear c12b0
                  try clear c14
                  try clear c14b0
                  try clear c14b1
                  try clear c15
                  try clear c15b0
                  try clear c15b1
                  try clear c16
                  try clear c16b0
                  try clear c16b1
                  try clear c17
                  try clear c17b0
                  try clear c17b1
                  try clear hx248_0
                  try clear hx250_0
                  try clear p2
                  try clear p248
                  try clear p250
                  try clear q248
                  try clear q250
                  obtain ⟨x6_3, x14_3, rfl, rfl, HA, HK3, HB⟩ := hrel
                  cases gk with
                  | zero => exact absurd HA.out (by simp [tripwirelaw03_WireRows.l1])
                  | succ k3 =>
                    have H := HA.out
                    clear HA
                    simp only [tripwirelaw03_WireRows.l1] at H
                    have HC18 := Aside0.mk H
                    clear H
                    go_upto_region 19 with (fail)
                    go_cut [85] (fun v85 wc => ∃ (kq : Nat) (x85_17 : Bool), v85 = .bool x85_17 ∧ Aside0 (tripwirelaw03_WireRows.j3 kq l1 t243 x6_3 x14_3 x85_17 = some r) ∧ Aside0 (kq ≤ k3) ∧ Aside0 (Below w.heap.size w wc))
                    case first =>
                      have H := HC18.out
                      clear HC18
                      by_cases c19 : x14_3 < (l1.length : Int)
                      · rw [if_pos c19] at H
                        have c19b0 : decide (x14_3 < (l1.length : Int)) = true := decide_eq_true c19
                        clear c19
                        (first | rw [c19b0] | (simp only [i64_w, i32_w]; rw [c19b0]) | skip)
                        have H' := Aside0.mk H
                        clear H
                        go_wp2
                        go_meet
                        case rel => exact ⟨_, (decide ((x6_3.size : Int) < 16777216)), (by first | rfl | (simp; done) | (simp [*]; done)), H', ⟨by have := HJ3.out; have := HK2.out; have := HK3.out; first | omega | exact Nat.le_refl _⟩, ⟨by repeat (first | (with_reducible first | exact HB.out | apply below_alloc | apply pw_below_drewN | apply below_drew1) | exact HB.out)⟩⟩
                      · rw [if_neg c19] at H
                        have c19b0 : decide (x14_3 < (l1.length : Int)) = false := decide_eq_false c19
                        clear c19
                        (first | rw [c19b0] | (simp only [i64_w, i32_w]; rw [c19b0]) | skip)
                        have H' := Aside0.mk H
                        clear H
                        go_wp2
                        go_meet
                        case rel => exact ⟨_, (false), (by first | rfl | (simp; done) | (simp [*]; done)), H', ⟨by have := HJ3.out; have := HK2.out; have := HK3.out; first | omega | exact Nat.le_refl _⟩, ⟨by repeat (first | (with_reducible first | exact HB.out | apply below_alloc | apply pw_below_drewN | apply below_drew1) | exact HB.out)⟩⟩
                    case rest =>
                      clear HC18
                      try clear c1
                      try clear c2
                      try clear p2
                      try clear q2
                      try clear hx2
                      try clear c6
                      try clear c6b0
                      try clear c6b1
                      try clear p6
                      try clear c7
                      try clear c10
                      try clear c10b0
                      try clear c12
                      try clear c12b0
                      try clear c14
                      try clear c14b0
                      try clear c14b1
                      try clear c15
                      try clear c15b0
                      try clear c15b1
                      try clear c16
                      try clear c16b0
                      try clear c16b1
                      try clear c17
                      try clear c17b0
                      try clear c17b1
                      try clear c19
                      try clear c19b0
                      try clear hx248_0
                      try clear hx250_0
                      try clear p2
                      try clear p248
                      try clear p250
                      try clear p6
                      try clear q2
                      try clear q248
                      try clear q250
                      obtain ⟨kq, x85_17, rfl, HA, HJ17, HB⟩ := hcut
                      cases kq with
                      | zero => exact absurd HA.out (by simp [tripwirelaw03_WireRows.j3])
                      | succ kj17 =>
                        have H := HA.out
                        clear HA
                        simp only [tripwirelaw03_WireRows.j3] at H
                        by_cases c20 : x85_17 = true
                        · subst c20
                          have H1 : (if 0 ≤ x14_3 then (if x14_3 < (l1.length : Int) then (if ((rdOf ByteArray.empty l1 x14_3).size : Int) > 65536 then (some t243) else ((wire_PutText.f kj17 x6_3 (rdOf ByteArray.empty l1 x14_3)).bind fun t256 => ((wire_TakeText.f kj17 t256 (x6_3.size : Int)).bind fun bt257 => (if bt257.1.toList = (rdOf ByteArray.empty l1 x14_3).toList then (if bt257.2.1 = (t256.size : Int) then (if bt257.2.2 = 0 then (if 0 ≤ (x6_3.size : Int) then (if (x6_3.size : Int) ≤ (t256.size : Int) then (if (t256.extract 0 ((x6_3.size : Int) : Int).toNat).toList = x6_3.toList then (tripwirelaw03_WireRows.l1 kj17 l1 t243 t256 (wrap64 (x14_3 + 1))) else (some false)) else (none)) else (none)) else (some false)) else (some false)) else (some false))))) else (none)) else (none)) = some r := by rw [if_pos rfl] at H; exact H
                          clear H
                          have H := H1
                          clear H1
                          by_cases c21 : 0 ≤ x14_3
                          · rw [if_pos c21] at H
                            have c21b0 : decide (0 ≤ x14_3) = true := decide_eq_true c21
                            clear c21
                            by_cases c22 : x14_3 < (l1.length : Int)
                            · rw [if_pos c22] at H
                              have c22b0 : decide (x14_3 < (l1.length : Int)) = true := decide_eq_true c22
                              clear c22
                              by_cases c23 : ((rdOf ByteArray.empty l1 x14_3).size : Int) > 65536
                              · rw [if_pos c23] at H
                                have c23b0 : decide (65536 < ((rdOf ByteArray.empty l1 x14_3).size : Int)) = true := decide_eq_true c23
                                have c23b1 : decide (65536 < (rdOf ByteArray.empty l1 x14_3).size) = true := decide_eq_true (by omega)
                                clear c23
                                obtain rfl := Option.some.inj H
                                have p254 : 0 ≤ (x14_3 : Int) := of_decide_eq_true (by first | (with_reducible assumption) | assumption)
                                have q254 : x14_3 < (l1.length : Int) := of_decide_eq_true (by first | (with_reducible assumption) | assumption)
                                obtain ⟨ad254, e254, hx254_0⟩ := Kd.at_string HR1.out x14_3 p254 q254
                                cases e254
                                replace hx254_0 := (HB.out.cell (World.block_lt_of_cell? w _ hx254_0)).trans hx254_0
                                replace p254 := eq_true p254
                                replace q254 := eq_true q254
                                go_wp2
                                go_ret
                                exact ⟨by first | rfl | (simp [errW_none, errW_some] <;> rfl) | (simp [*, errW_none, errW_some] <;> rfl), by repeat (first | (with_reducible first | exact HB.out | apply below_alloc | apply pw_below_drewN | apply below_drew1) | exact HB.out)⟩
                              · rw [if_neg c23] at H
                                have c23b0 : decide (65536 < ((rdOf ByteArray.empty l1 x14_3).size : Int)) = false := decide_eq_false c23
                                have c23b1 : decide (65536 < (rdOf ByteArray.empty l1 x14_3).size) = false := decide_eq_false (by omega)
                                clear c23
                                replace H := Option.bind_eq_some_iff.mp H
                                obtain ⟨t256, A240, H⟩ := H
                                replace H : ((wire_TakeText.f kj17 t256 (x6_3.size : Int)).bind fun bt257 => (if bt257.1.toList = (rdOf ByteArray.empty l1 x14_3).toList then (if bt257.2.1 = (t256.size : Int) then (if bt257.2.2 = 0 then (if 0 ≤ (x6_3.size : Int) then (if (x6_3.size : Int) ≤ (t256.size : Int) then (if (t256.extract 0 ((x6_3.size : Int) : Int).toNat).toList = x6_3.toList then (tripwirelaw03_WireRows.l1 kj17 l1 t243 t256 (wrap64 (x14_3 + 1))) else (some false)) else (none)) else (none)) else (some false)) else (some false)) else (some false))) = some r := H
                                have A24 := Aside0.mk A240
                                clear A240
                                replace H := Option.bind_eq_some_iff.mp H
                                obtain ⟨⟨t257, t258, t259⟩, A250, H⟩ := H
                                replace H : (if t257.toList = (rdOf ByteArray.empty l1 x14_3).toList then (if t258 = (t256.size : Int) then (if t259 = 0 then (if 0 ≤ (x6_3.size : Int) then (if (x6_3.size : Int) ≤ (t256.size : Int) then (if (t256.extract 0 ((x6_3.size : Int) : Int).toNat).toList = x6_3.toList then (tripwirelaw03_WireRows.l1 kj17 l1 t243 t256 (wrap64 (x14_3 + 1))) else (some false)) else (none)) else (none)) else (some false)) else (some false)) else (some false)) = some r := H
                                have A25 := Aside0.mk A250
                                clear A250
                                by_cases c26 : t257.toList = (rdOf ByteArray.empty l1 x14_3).toList
                                · rw [if_pos c26] at H
                                  have c26b0 : (t257.toList == (rdOf ByteArray.empty l1 x14_3).toList) = true := beq_iff_eq.mpr c26
                                  have c26b1 : (t257.toList != (rdOf ByteArray.empty l1 x14_3).toList) = false := bne_eq_false_iff_eq.mpr c26
                                  clear c26
                                  by_cases c27 : t258 = (t256.size : Int)
                                  · rw [if_pos c27] at H
                                    have c27b0 : (t258 == (t256.size : Int)) = true := beq_iff_eq.mpr c27
                                    have c27b1 : (t258 != (t256.size : Int)) = false := bne_eq_false_iff_eq.mpr c27
                                    clear c27
                                    by_cases c28 : t259 = 0
                                    · rw [if_pos c28] at H
                                      have c28b0 : (t259 == 0) = true := beq_iff_eq.mpr c28
                                      have c28b1 : (t259 != 0) = false := bne_eq_false_iff_eq.mpr c28
                                      clear c28
                                      by_cases c29 : 0 ≤ (x6_3.size : Int)
                                      · rw [if_pos c29] at H
                                        have c29b0 := eq_true c29
                                        have c29b1 : decide (0 ≤ (x6_3.size : Int)) = true := decide_eq_true c29
                                        clear c29
                                        by_cases c30 : (x6_3.size : Int) ≤ (t256.size : Int)
                                        · rw [if_pos c30] at H
                                          have c30b0 := eq_true c30
                                          have c30b1 : decide ((x6_3.size : Int) ≤ (t256.size : Int)) = true := decide_eq_true c30
                                          clear c30
                                          by_cases c31 : (t256.extract 0 ((x6_3.size : Int) : Int).toNat).toList = x6_3.toList
                                          · rw [if_pos c31] at H
                                            have c31b0 : ((t256.extract 0 ((x6_3.size : Int) : Int).toNat).toList == x6_3.toList) = true := beq_iff_eq.mpr c31
                                            have c31b5 : ((t256.extract 0 x6_3.size).toList == x6_3.toList) = true := (by have h_ := c31b0; rw [Int.toNat_natCast] at h_; exact h_)
                                            have c31b6 : ((t256.extract 0 x6_3.size).toList != x6_3.toList) = false := (by rw [bne, c31b5]; rfl)
                                            have c31b1 : ((t256.extract 0 ((x6_3.size : Int) : Int).toNat).toList != x6_3.toList) = false := bne_eq_false_iff_eq.mpr c31
                                            clear c31
                                            have H' := Aside0.mk H
                                            clear H
                                            have p254 : 0 ≤ (x14_3 : Int) := of_decide_eq_true (by first | (with_reducible assumption) | assumption)
                                            have q254 : x14_3 < (l1.length : Int) := of_decide_eq_true (by first | (with_reducible assumption) | assumption)
                                            obtain ⟨ad254, e254, hx254_0⟩ := Kd.at_string HR1.out x14_3 p254 q254
                                            cases e254
                                            replace hx254_0 := (HB.out.cell (World.block_lt_of_cell? w _ hx254_0)).trans hx254_0
                                            replace p254 := eq_true p254
                                            replace q254 := eq_true q254
                                            have p255 : 0 ≤ (x14_3 : Int) := of_decide_eq_true (by first | (with_reducible assumption) | assumption)
                                            have q255 : x14_3 < (l1.length : Int) := of_decide_eq_true (by first | (with_reducible assumption) | assumption)
                                            obtain ⟨ad255, e255, hx255_0⟩ := Kd.at_string HR1.out x14_3 p255 q255
                                            obtain rfl : ad254 = ad255 := (by injection e255)
                                            replace hx255_0 := (HB.out.cell (World.block_lt_of_cell? w _ hx255_0)).trans hx255_0
                                            replace p255 := eq_true p255
                                            replace q255 := eq_true q255
                                            go_wp2_with (first | ((with_reducible refine gate_callee (f := 25) rfl ?_); refine goesL_ (some 100) rfl rfl Try.func25 (by kernel_rfl) rfl #[.string x6_3, .string (rdOf ByteArray.empty l1 x14_3)] rfl (by (try simp only [List.map_toArray, List.map_cons, List.map_nil]); first | done | rfl | (simp only [List.length_drop, List.length_take]; rfl)) ?_; (with_reducible refine (wire_PutText.calls kj17 x6_3 (rdOf ByteArray.empty l1 x14_3) t256 _ A24.out).mono ?_); rintro e w32 ⟨rfl, hb⟩; refine ⟨_, rfl, ?_⟩; have n0_ := Aside0.mk (below_step (by repeat (first | (with_reducible first | exact HB.out | apply below_alloc | apply pw_below_drewN | apply below_drew1) | exact HB.out)) hb); clear HB; have HB := n0_; clear n0_; (try clear hb); (try clear hb2); (try clear hk); (try clear hi)) | ((with_reducible refine gate_callee (f := 17) rfl ?_); refine goesL_ (some 105) rfl rfl Try.func17 (by kernel_rfl) rfl #[.string t256, .int .i64 (x6_3.size : Int)] rfl (by (try simp only [List.map_toArray, List.map_cons, List.map_nil]); first | done | rfl | (simp only [List.length_drop, List.length_take]; rfl)) ?_; (with_reducible refine (wire_TakeText.calls kj17 t256 (x6_3.size : Int) t257 t258 t259 _ A25.out).mono ?_); rintro e w' ⟨rfl, ⟨nd, rfl⟩⟩; refine ⟨_, rfl, ?_⟩; have p260 : 0 ≤ (x14_3 : Int) := of_decide_eq_true (by first | (with_reducible assumption) | assumption); have q260 : x14_3 < (l1.length : Int) := of_decide_eq_true (by first | (with_reducible assumption) | assumption); obtain ⟨ad260, e260, hx260_0⟩ := Kd.at_string HR1.out x14_3 p260 q260; obtain rfl : ad254 = ad260 := (by injection e260); replace hx260_0 := (HB.out.cell (World.block_lt_of_cell? w _ hx260_0)).trans hx260_0; replace p260 := eq_true p260; replace q260 := eq_true q260))
                                            go_roundg kj17
                                            case measure => have := HJ3.out; have := HK2.out; have := HK3.out; have := HJ17.out; omega
                                            case rel => exact ⟨(t256), (wrap64 (x14_3 + 1)), (by first | rfl | (simp; done) | (simp [*]; done)), (by first | rfl | (simp; done) | (simp [*]; done)), H', ⟨by have := HJ3.out; have := HK2.out; have := HK3.out; have := HJ17.out; omega⟩, ⟨by repeat (first | (with_reducible first | exact HB.out | apply below_alloc | apply pw_below_drewN | apply below_drew1) | exact HB.out)⟩⟩
                                          · rw [if_neg c31] at H
                                            have c31b0 : ((t256.extract 0 ((x6_3.size : Int) : Int).toNat).toList == x6_3.toList) = false := beq_eq_false_iff_ne.mpr c31
                                            have c31b5 : ((t256.extract 0 x6_3.size).toList == x6_3.toList) = false := (by have h_ := c31b0; rw [Int.toNat_natCast] at h_; exact h_)
                                            have c31b6 : ((t256.extract 0 x6_3.size).toList != x6_3.toList) = true := (by rw [bne, c31b5]; rfl)
                                            have c31b1 : ((t256.extract 0 ((x6_3.size : Int) : Int).toNat).toList != x6_3.toList) = true := bne_iff_ne.mpr c31
                                            obtain rfl := Option.some.inj H
                                            have p254 : 0 ≤ (x14_3 : Int) := of_decide_eq_true (by first | (with_reducible assumption) | assumption)
                                            have q254 : x14_3 < (l1.length : Int) := of_decide_eq_true (by first | (with_reducible assumption) | assumption)
                                            obtain ⟨ad254, e254, hx254_0⟩ := Kd.at_string HR1.out x14_3 p254 q254
                                            cases e254
                                            replace hx254_0 := (HB.out.cell (World.block_lt_of_cell? w _ hx254_0)).trans hx254_0
                                            replace p254 := eq_true p254
                                            replace q254 := eq_true q254
                                            have p255 : 0 ≤ (x14_3 : Int) := of_decide_eq_true (by first | (with_reducible assumption) | assumption)
                                            have q255 : x14_3 < (l1.length : Int) := of_decide_eq_true (by first | (with_reducible assumption) | assumption)
                                            obtain ⟨ad255, e255, hx255_0⟩ := Kd.at_string HR1.out x14_3 p255 q255
                                            obtain rfl : ad254 = ad255 := (by injection e255)
                                            replace hx255_0 := (HB.out.cell (World.block_lt_of_cell? w _ hx255_0)).trans hx255_0
                                            replace p255 := eq_true p255
                                            replace q255 := eq_true q255
                                            go_wp2_with (first | ((with_reducible refine gate_callee (f := 25) rfl ?_); refine goesL_ (some 100) rfl rfl Try.func25 (by kernel_rfl) rfl #[.string x6_3, .string (rdOf ByteArray.empty l1 x14_3)] rfl (by (try simp only [List.map_toArray, List.map_cons, List.map_nil]); first | done | rfl | (simp only [List.length_drop, List.length_take]; rfl)) ?_; (with_reducible refine (wire_PutText.calls kj17 x6_3 (rdOf ByteArray.empty l1 x14_3) t256 _ A24.out).mono ?_); rintro e w33 ⟨rfl, hb⟩; refine ⟨_, rfl, ?_⟩; have n0_ := Aside0.mk (below_step (by repeat (first | (with_reducible first | exact HB.out | apply below_alloc | apply pw_below_drewN | apply below_drew1) | exact HB.out)) hb); clear HB; have HB := n0_; clear n0_; (try clear hb); (try clear hb2); (try clear hk); (try clear hi)) | ((with_reducible refine gate_callee (f := 17) rfl ?_); refine goesL_ (some 105) rfl rfl Try.func17 (by kernel_rfl) rfl #[.string t256, .int .i64 (x6_3.size : Int)] rfl (by (try simp only [List.map_toArray, List.map_cons, List.map_nil]); first | done | rfl | (simp only [List.length_drop, List.length_take]; rfl)) ?_; (with_reducible refine (wire_TakeText.calls kj17 t256 (x6_3.size : Int) t257 t258 t259 _ A25.out).mono ?_); rintro e w' ⟨rfl, ⟨nd, rfl⟩⟩; refine ⟨_, rfl, ?_⟩; have p260 : 0 ≤ (x14_3 : Int) := of_decide_eq_true (by first | (with_reducible assumption) | assumption); have q260 : x14_3 < (l1.length : Int) := of_decide_eq_true (by first | (with_reducible assumption) | assumption); obtain ⟨ad260, e260, hx260_0⟩ := Kd.at_string HR1.out x14_3 p260 q260; obtain rfl : ad254 = ad260 := (by injection e260); replace hx260_0 := (HB.out.cell (World.block_lt_of_cell? w _ hx260_0)).trans hx260_0; replace p260 := eq_true p260; replace q260 := eq_true q260))
                                            go_ret
                                            exact ⟨by first | rfl | (simp [errW_none, errW_some] <;> rfl) | (simp [*, errW_none, errW_some] <;> rfl), by repeat (first | (with_reducible first | exact HB.out | apply below_alloc | apply pw_below_drewN | apply below_drew1) | exact HB.out)⟩
                                        · rw [if_neg c30] at H
                                          exact absurd H (by simp)
                                      · rw [if_neg c29] at H
                                        exact absurd H (by simp)
                                    · rw [if_neg c28] at H
                                      have c28b0 : (t259 == 0) = false := beq_eq_false_iff_ne.mpr c28
                                      have c28b1 : (t259 != 0) = true := bne_iff_ne.mpr c28
                                      obtain rfl := Option.some.inj H
                                      have p254 : 0 ≤ (x14_3 : Int) := of_decide_eq_true (by first | (with_reducible assumption) | assumption)
                                      have q254 : x14_3 < (l1.length : Int) := of_decide_eq_true (by first | (with_reducible assumption) | assumption)
                                      obtain ⟨ad254, e254, hx254_0⟩ := Kd.at_string HR1.out x14_3 p254 q254
                                      cases e254
                                      replace hx254_0 := (HB.out.cell (World.block_lt_of_cell? w _ hx254_0)).trans hx254_0
                                      replace p254 := eq_true p254
                                      replace q254 := eq_true q254
                                      have p255 : 0 ≤ (x14_3 : Int) := of_decide_eq_true (by first | (with_reducible assumption) | assumption)
                                      have q255 : x14_3 < (l1.length : Int) := of_decide_eq_true (by first | (with_reducible assumption) | assumption)
                                      obtain ⟨ad255, e255, hx255_0⟩ := Kd.at_string HR1.out x14_3 p255 q255
                                      obtain rfl : ad254 = ad255 := (by injection e255)
                                      replace hx255_0 := (HB.out.cell (World.block_lt_of_cell? w _ hx255_0)).trans hx255_0
                                      replace p255 := eq_true p255
                                      replace q255 := eq_true q255
                                      go_wp2_with (first | ((with_reducible refine gate_callee (f := 25) rfl ?_); refine goesL_ (some 100) rfl rfl Try.func25 (by kernel_rfl) rfl #[.string x6_3, .string (rdOf ByteArray.empty l1 x14_3)] rfl (by (try simp only [List.map_toArray, List.map_cons, List.map_nil]); first | done | rfl | (simp only [List.length_drop, List.length_take]; rfl)) ?_; (with_reducible refine (wire_PutText.calls kj17 x6_3 (rdOf ByteArray.empty l1 x14_3) t256 _ A24.out).mono ?_); rintro e w34 ⟨rfl, hb⟩; refine ⟨_, rfl, ?_⟩; have n0_ := Aside0.mk (below_step (by repeat (first | (with_reducible first | exact HB.out | apply below_alloc | apply pw_below_drewN | apply below_drew1) | exact HB.out)) hb); clear HB; have HB := n0_; clear n0_; (try clear hb); (try clear hb2); (try clear hk); (try clear hi)) | ((with_reducible refine gate_callee (f := 17) rfl ?_); refine goesL_ (some 105) rfl rfl Try.func17 (by kernel_rfl) rfl #[.string t256, .int .i64 (x6_3.size : Int)] rfl (by (try simp only [List.map_toArray, List.map_cons, List.map_nil]); first | done | rfl | (simp only [List.length_drop, List.length_take]; rfl)) ?_; (with_reducible refine (wire_TakeText.calls kj17 t256 (x6_3.size : Int) t257 t258 t259 _ A25.out).mono ?_); rintro e w' ⟨rfl, ⟨nd, rfl⟩⟩; refine ⟨_, rfl, ?_⟩; have p260 : 0 ≤ (x14_3 : Int) := of_decide_eq_true (by first | (with_reducible assumption) | assumption); have q260 : x14_3 < (l1.length : Int) := of_decide_eq_true (by first | (with_reducible assumption) | assumption); obtain ⟨ad260, e260, hx260_0⟩ := Kd.at_string HR1.out x14_3 p260 q260; obtain rfl : ad254 = ad260 := (by injection e260); replace hx260_0 := (HB.out.cell (World.block_lt_of_cell? w _ hx260_0)).trans hx260_0; replace p260 := eq_true p260; replace q260 := eq_true q260))
                                      go_ret
                                      exact ⟨by first | rfl | (simp [errW_none, errW_some] <;> rfl) | (simp [*, errW_none, errW_some] <;> rfl), by repeat (first | (with_reducible first | exact HB.out | apply below_alloc | apply pw_below_drewN | apply below_drew1) | exact HB.out)⟩
                                  · rw [if_neg c27] at H
                                    have c27b0 : (t258 == (t256.size : Int)) = false := beq_eq_false_iff_ne.mpr c27
                                    have c27b1 : (t258 != (t256.size : Int)) = true := bne_iff_ne.mpr c27
                                    obtain rfl := Option.some.inj H
                                    have p254 : 0 ≤ (x14_3 : Int) := of_decide_eq_true (by first | (with_reducible assumption) | assumption)
                                    have q254 : x14_3 < (l1.length : Int) := of_decide_eq_true (by first | (with_reducible assumption) | assumption)
                                    obtain ⟨ad254, e254, hx254_0⟩ := Kd.at_string HR1.out x14_3 p254 q254
                                    cases e254
                                    replace hx254_0 := (HB.out.cell (World.block_lt_of_cell? w _ hx254_0)).trans hx254_0
                                    replace p254 := eq_true p254
                                    replace q254 := eq_true q254
                                    have p255 : 0 ≤ (x14_3 : Int) := of_decide_eq_true (by first | (with_reducible assumption) | assumption)
                                    have q255 : x14_3 < (l1.length : Int) := of_decide_eq_true (by first | (with_reducible assumption) | assumption)
                                    obtain ⟨ad255, e255, hx255_0⟩ := Kd.at_string HR1.out x14_3 p255 q255
                                    obtain rfl : ad254 = ad255 := (by injection e255)
                                    replace hx255_0 := (HB.out.cell (World.block_lt_of_cell? w _ hx255_0)).trans hx255_0
                                    replace p255 := eq_true p255
                                    replace q255 := eq_true q255
                                    go_wp2_with (first | ((with_reducible refine gate_callee (f := 25) rfl ?_); refine goesL_ (some 100) rfl rfl Try.func25 (by kernel_rfl) rfl #[.string x6_3, .string (rdOf ByteArray.empty l1 x14_3)] rfl (by (try simp only [List.map_toArray, List.map_cons, List.map_nil]); first | done | rfl | (simp only [List.length_drop, List.length_take]; rfl)) ?_; (with_reducible refine (wire_PutText.calls kj17 x6_3 (rdOf ByteArray.empty l1 x14_3) t256 _ A24.out).mono ?_); rintro e w35 ⟨rfl, hb⟩; refine ⟨_, rfl, ?_⟩; have n0_ := Aside0.mk (below_step (by repeat (first | (with_reducible first | exact HB.out | apply below_alloc | apply pw_below_drewN | apply below_drew1) | exact HB.out)) hb); clear HB; have HB := n0_; clear n0_; (try clear hb); (try clear hb2); (try clear hk); (try clear hi)) | ((with_reducible refine gate_callee (f := 17) rfl ?_); refine goesL_ (some 105) rfl rfl Try.func17 (by kernel_rfl) rfl #[.string t256, .int .i64 (x6_3.size : Int)] rfl (by (try simp only [List.map_toArray, List.map_cons, List.map_nil]); first | done | rfl | (simp only [List.length_drop, List.length_take]; rfl)) ?_; (with_reducible refine (wire_TakeText.calls kj17 t256 (x6_3.size : Int) t257 t258 t259 _ A25.out).mono ?_); rintro e w' ⟨rfl, ⟨nd, rfl⟩⟩; refine ⟨_, rfl, ?_⟩; have p260 : 0 ≤ (x14_3 : Int) := of_decide_eq_true (by first | (with_reducible assumption) | assumption); have q260 : x14_3 < (l1.length : Int) := of_decide_eq_true (by first | (with_reducible assumption) | assumption); obtain ⟨ad260, e260, hx260_0⟩ := Kd.at_string HR1.out x14_3 p260 q260; obtain rfl : ad254 = ad260 := (by injection e260); replace hx260_0 := (HB.out.cell (World.block_lt_of_cell? w _ hx260_0)).trans hx260_0; replace p260 := eq_true p260; replace q260 := eq_true q260))
                                    go_ret
                                    exact ⟨by first | rfl | (simp [errW_none, errW_some] <;> rfl) | (simp [*, errW_none, errW_some] <;> rfl), by repeat (first | (with_reducible first | exact HB.out | apply below_alloc | apply pw_below_drewN | apply below_drew1) | exact HB.out)⟩
                                · rw [if_neg c26] at H
                                  have c26b0 : (t257.toList == (rdOf ByteArray.empty l1 x14_3).toList) = false := beq_eq_false_iff_ne.mpr c26
                                  have c26b1 : (t257.toList != (rdOf ByteArray.empty l1 x14_3).toList) = true := bne_iff_ne.mpr c26
                                  obtain rfl := Option.some.inj H
                                  have p254 : 0 ≤ (x14_3 : Int) := of_decide_eq_true (by first | (with_reducible assumption) | assumption)
                                  have q254 : x14_3 < (l1.length : Int) := of_decide_eq_true (by first | (with_reducible assumption) | assumption)
                                  obtain ⟨ad254, e254, hx254_0⟩ := Kd.at_string HR1.out x14_3 p254 q254
                                  cases e254
                                  replace hx254_0 := (HB.out.cell (World.block_lt_of_cell? w _ hx254_0)).trans hx254_0
                                  replace p254 := eq_true p254
                                  replace q254 := eq_true q254
                                  have p255 : 0 ≤ (x14_3 : Int) := of_decide_eq_true (by first | (with_reducible assumption) | assumption)
                                  have q255 : x14_3 < (l1.length : Int) := of_decide_eq_true (by first | (with_reducible assumption) | assumption)
                                  obtain ⟨ad255, e255, hx255_0⟩ := Kd.at_string HR1.out x14_3 p255 q255
                                  obtain rfl : ad254 = ad255 := (by injection e255)
                                  replace hx255_0 := (HB.out.cell (World.block_lt_of_cell? w _ hx255_0)).trans hx255_0
                                  replace p255 := eq_true p255
                                  replace q255 := eq_true q255
                                  go_wp2_with (first | ((with_reducible refine gate_callee (f := 25) rfl ?_); refine goesL_ (some 100) rfl rfl Try.func25 (by kernel_rfl) rfl #[.string x6_3, .string (rdOf ByteArray.empty l1 x14_3)] rfl (by (try simp only [List.map_toArray, List.map_cons, List.map_nil]); first | done | rfl | (simp only [List.length_drop, List.length_take]; rfl)) ?_; (with_reducible refine (wire_PutText.calls kj17 x6_3 (rdOf ByteArray.empty l1 x14_3) t256 _ A24.out).mono ?_); rintro e w36 ⟨rfl, hb⟩; refine ⟨_, rfl, ?_⟩; have n0_ := Aside0.mk (below_step (by repeat (first | (with_reducible first | exact HB.out | apply below_alloc | apply pw_below_drewN | apply below_drew1) | exact HB.out)) hb); clear HB; have HB := n0_; clear n0_; (try clear hb); (try clear hb2); (try clear hk); (try clear hi)) | ((with_reducible refine gate_callee (f := 17) rfl ?_); refine goesL_ (some 105) rfl rfl Try.func17 (by kernel_rfl) rfl #[.string t256, .int .i64 (x6_3.size : Int)] rfl (by (try simp only [List.map_toArray, List.map_cons, List.map_nil]); first | done | rfl | (simp only [List.length_drop, List.length_take]; rfl)) ?_; (with_reducible refine (wire_TakeText.calls kj17 t256 (x6_3.size : Int) t257 t258 t259 _ A25.out).mono ?_); rintro e w' ⟨rfl, ⟨nd, rfl⟩⟩; refine ⟨_, rfl, ?_⟩; have p260 : 0 ≤ (x14_3 : Int) := of_decide_eq_true (by first | (with_reducible assumption) | assumption); have q260 : x14_3 < (l1.length : Int) := of_decide_eq_true (by first | (with_reducible assumption) | assumption); obtain ⟨ad260, e260, hx260_0⟩ := Kd.at_string HR1.out x14_3 p260 q260; obtain rfl : ad254 = ad260 := (by injection e260); replace hx260_0 := (HB.out.cell (World.block_lt_of_cell? w _ hx260_0)).trans hx260_0; replace p260 := eq_true p260; replace q260 := eq_true q260))
                                  go_ret
                                  exact ⟨by first | rfl | (simp [errW_none, errW_some] <;> rfl) | (simp [*, errW_none, errW_some] <;> rfl), by repeat (first | (with_reducible first | exact HB.out | apply below_alloc | apply pw_below_drewN | apply below_drew1) | exact HB.out)⟩
                            · rw [if_neg c22] at H
                              exact absurd H (by simp)
                          · rw [if_neg c21] at H
                            exact absurd H (by simp)
                        · replace c20 := Bool.eq_false_iff.mpr c20
                          subst c20
                          have H1 : ((wire_Take.f kj17 x6_3 (x6_3.size : Int)).bind fun bt251 => (if t243 = true then (if bt251.2.1 = (x6_3.size : Int) then (some (bt251.2.2 == 30)) else (some false)) else (some false))) = some r := by rw [if_neg (show ¬ (false = true) by decide)] at H; exact H
                          clear H
                          have H := H1
                          clear H1
                          replace H := Option.bind_eq_some_iff.mp H
                          obtain ⟨⟨t251, t252, t253⟩, A370, H⟩ := H
                          replace H : (if t243 = true then (if t252 = (x6_3.size : Int) then (some (t253 == 30)) else (some false)) else (some false)) = some r := H
                          have A37 := Aside0.mk A370
                          clear A370
                          by_cases c38 : t243 = true
                          · subst c38
                            have H1 : (if t252 = (x6_3.size : Int) then (some (t253 == 30)) else (some false)) = some r := by rw [if_pos rfl] at H; exact H
                            clear H
                            have H := H1
                            clear H1
                            by_cases c39 : t252 = (x6_3.size : Int)
                            · rw [if_pos c39] at H
                              have c39b0 : (t252 == (x6_3.size : Int)) = true := beq_iff_eq.mpr c39
                              have c39b1 : (t252 != (x6_3.size : Int)) = false := bne_eq_false_iff_eq.mpr c39
                              clear c39
                              obtain rfl := Option.some.inj H
                              go_wp2_with (first | ((with_reducible refine gate_callee (f := 15) rfl ?_); refine goesL_ (some 138) rfl rfl Try.func15 (by kernel_rfl) rfl #[.string x6_3, .int .i64 (x6_3.size : Int)] rfl (by (try simp only [List.map_toArray, List.map_cons, List.map_nil]); first | done | rfl | (simp only [List.length_drop, List.length_take]; rfl)) ?_; (with_reducible refine (wire_Take.calls kj17 x6_3 (x6_3.size : Int) t251 t252 t253 _ A37.out).mono ?_); rintro e w' ⟨rfl, ⟨nd, rfl⟩⟩; refine ⟨_, rfl, ?_⟩))
                              go_ret
                              exact ⟨by first | rfl | (simp [errW_none, errW_some] <;> rfl) | (simp [*, errW_none, errW_some] <;> rfl), by repeat (first | (with_reducible first | exact HB.out | apply below_alloc | apply pw_below_drewN | apply below_drew1) | exact HB.out)⟩
                            · rw [if_neg c39] at H
                              have c39b0 : (t252 == (x6_3.size : Int)) = false := beq_eq_false_iff_ne.mpr c39
                              have c39b1 : (t252 != (x6_3.size : Int)) = true := bne_iff_ne.mpr c39
                              obtain rfl := Option.some.inj H
                              go_wp2_with (first | ((with_reducible refine gate_callee (f := 15) rfl ?_); refine goesL_ (some 138) rfl rfl Try.func15 (by kernel_rfl) rfl #[.string x6_3, .int .i64 (x6_3.size : Int)] rfl (by (try simp only [List.map_toArray, List.map_cons, List.map_nil]); first | done | rfl | (simp only [List.length_drop, List.length_take]; rfl)) ?_; (with_reducible refine (wire_Take.calls kj17 x6_3 (x6_3.size : Int) t251 t252 t253 _ A37.out).mono ?_); rintro e w' ⟨rfl, ⟨nd, rfl⟩⟩; refine ⟨_, rfl, ?_⟩))
                              go_ret
                              exact ⟨by first | rfl | (simp [errW_none, errW_some] <;> rfl) | (simp [*, errW_none, errW_some] <;> rfl), by repeat (first | (with_reducible first | exact HB.out | apply below_alloc | apply pw_below_drewN | apply below_drew1) | exact HB.out)⟩
                          · replace c38 := Bool.eq_false_iff.mpr c38
                            subst c38
                            have H1 : (some false) = some r := by rw [if_neg (show ¬ (false = true) by decide)] at H; exact H
                            clear H
                            have H := H1
                            clear H1
                            obtain rfl := Option.some.inj H
                            go_wp2_with (first | ((with_reducible refine gate_callee (f := 15) rfl ?_); refine goesL_ (some 138) rfl rfl Try.func15 (by kernel_rfl) rfl #[.string x6_3, .int .i64 (x6_3.size : Int)] rfl (by (try simp only [List.map_toArray, List.map_cons, List.map_nil]); first | done | rfl | (simp only [List.length_drop, List.length_take]; rfl)) ?_; (with_reducible refine (wire_Take.calls kj17 x6_3 (x6_3.size : Int) t251 t252 t253 _ A37.out).mono ?_); rintro e w' ⟨rfl, ⟨nd, rfl⟩⟩; refine ⟨_, rfl, ?_⟩))
                            go_ret
                            exact ⟨by first | rfl | (simp [errW_none, errW_some] <;> rfl) | (simp [*, errW_none, errW_some] <;> rfl), by repeat (first | (with_reducible first | exact HB.out | apply below_alloc | apply pw_below_drewN | apply below_drew1) | exact HB.out)⟩
              · rw [if_neg c17] at H
                have c17b0 : (x7_2 == (t244.size : Int)) = false := beq_eq_false_iff_ne.mpr c17
                have c17b1 : (x7_2 != (t244.size : Int)) = true := bne_iff_ne.mpr c17
                obtain rfl := Option.some.inj H
                go_wp2
                go_ret
                exact ⟨by first | rfl | (simp [errW_none, errW_some] <;> rfl) | (simp [*, errW_none, errW_some] <;> rfl), by repeat (first | (with_reducible first | exact HB.out | apply below_alloc | apply pw_below_drewN | apply below_drew1) | exact HB.out)⟩

/-! ### tripwireref00_LentNumbers: function 27 -/
/-- The list l, of numbers of kind k (type e), lies in a row of its own, the marks x, y behind it. -/
def Lent (k : IntKind) (e : TypeId) (x y : Int) (w : World) (v : Value) (l : List Int) : Prop :=
  ∃ g cur, v = .slice (some ⟨g, 0, none⟩) l.length (l.length + 2) ∧ w.heap[g]? = some (.cells cur e (0, 0)) ∧ cur.toList = nums k (l ++ [x, y]) ∧ l.length + 2 ≤ 9223372036854775807

theorem Lent.below {k : IntKind} {e : TypeId} {x y : Int} {w w1 : World} {v : Value} {l : List Int} (h : Lent k e x y w v l) (hb : Below w.heap.size w w1) : Lent k e x y w1 v l := by
  obtain ⟨g, cur, h1, h2, h3⟩ := h
  exact ⟨g, cur, h1, blk_below h2 hb, h3⟩

theorem Lent.alloc {k : IntKind} {e : TypeId} {x y : Int} {w : World} {v : Value} {l : List Int} (h : Lent k e x y w v l) (o : Obj) : Lent k e x y (w.alloc o) v l := h.below (below_alloc (Below.refl _ _) o)
theorem Lent.drewN {k : IntKind} {e : TypeId} {x y : Int} {w : World} {v : Value} {l : List Int} (h : Lent k e x y w v l) (m : Nat) : Lent k e x y (w.drewN m) v l := h.below (pw_below_drewN (Below.refl _ _) m)
theorem Lent.drew {k : IntKind} {e : TypeId} {x y : Int} {w : World} {v : Value} {l : List Int} (h : Lent k e x y w v l) : Lent k e x y w.drew v l := h.below (below_drew (Below.refl _ _))

/-- What is lent, its room too, is read as the list with its marks. -/
theorem Lent.reads {k : IntKind} {e : TypeId} {x y : Int} {w : World} {l : List Int} {A : Option Addr} {n c : Nat} (h : Lent k e x y w (.slice A n c) l) :
    n = l.length ∧ c = l.length + 2 ∧ Kd.C (Kd.int k) w A (l ++ [x, y]).length (l ++ [x, y]) := by
  obtain ⟨g, cur, h1, h2, h3, h4⟩ := h
  injection h1 with hA hn hc
  refine ⟨hn, hc, rfl, by simpa using h4, fun _ => ⟨⟨g, 0, none⟩, hA, fun j p hj => ⟨[.int k p], rfl, rfl, fun i u hu => ?_⟩⟩⟩
  obtain ⟨rfl, rfl⟩ : i = 0 ∧ u = .int k p := by
    rcases i with _ | i
    · simpa [eq_comm] using hu
    · simp at hu
  have hc2 : cur.toList[j]? = some (.int k p) := by rw [h3, nums, List.getElem?_map, hj]; rfl
  have hc3 : cur[j]? = some (.int k p) := by simpa using hc2
  rw [Addr.add_lit]
  simp [Kd.int, Kd.scalar, World.cell?, h2, hc3]

/-- The cells of a list of numbers that is read. -/
theorem C_cells {k : IntKind} {w : World} {A : Option Addr} {n : Nat} {l : List Int} (h : (Kd.int k).C w A n l) :
    (A = none → n = 0) ∧ ∀ ad, A = some ad → ∀ j u, (nums k l)[j]? = some u → w.cell? (ad.add j) = some u := by
  refine ⟨fun hA => ?_, fun ad hA j u hj => ?_⟩
  · rcases Nat.eq_zero_or_pos n with h0 | h0
    · exact h0
    · obtain ⟨ad, e, _⟩ := h.2.2 h0
      rw [hA] at e
      cases e
  · rw [nums, List.getElem?_map] at hj
    obtain ⟨p, hp, rfl⟩ := Option.map_eq_some_iff.1 hj
    have hjl : j < l.length := by
      rcases Nat.lt_or_ge j l.length with hq | hq
      · exact hq
      · rw [List.getElem?_eq_none hq] at hp; cases hp
    obtain ⟨ad', e, hc⟩ := h.2.2 (by have := h.1; omega)
    rw [hA] at e
    injection e with e
    subst e
    obtain ⟨c, _, hR, hcell⟩ := hc j p hp
    have hR' : c = [.int k p] := hR
    subst hR'
    have := hcell 0 _ rfl
    simpa [Kd.int, Kd.scalar] using this

section
variable {P : Program} {ops : Array Oper} {rest : List Oper} {o : Oper} {a : Act} {Q : Exit → Act → World → Prop}
/-- append into the room of a row of one's own. -/
theorem wpList_append_fill {W : World} (hgd : o.guard = none) (s x : Operand) (t e : TypeId) (z : Value) (bytes : Nat)
    (ho : o.op = .call { callee := .builtin .append, args := #[s, x], argTypes := #[t, t] })
    (ht : P.underlying t = some (.slice e)) (hinfo : (P.info? e).map (fun i => (i.zero, i.size, i.bytes)) = some (some z, 1, bytes))
    (g n cap m : Nat) (cur : Array Value) (hg : W.heap[g]? = some (.cells cur e (0, 0))) (hcap : cur.size = cap)
    (A : Option Addr) (c : Nat) (news : List Value) (hm : news.length = m) (hs : a.eval s = .slice (some ⟨g, 0, none⟩) n cap) (hx : a.eval x = .slice A m c)
    (hA : A = none → m = 0) (hnews : ∀ ad, A = some ad → ∀ j u, news[j]? = some u → W.cell? (ad.add j) = some u)
    (h1 : ∀ u ∈ news, u.oneCell' = true) (hroom : n + m ≤ cap)
    (h : ∀ w1 cur', W.grownBy w1 (some g) → w1.heap[g]? = some (.cells cur' e (0, 0)) → cur'.size = cap → cur'.toList = cur.toList.take n ++ news ++ cur.toList.drop (n + m) → wpList P ops Q rest (a.put o.dst (.slice (some ⟨g, 0, none⟩) (n + m) cap)) w1) :
    wpList P ops Q (o :: rest) a W := by
  obtain ⟨i0, hi, hzz⟩ := Option.map_eq_some_iff.1 hinfo
  simp only [Prod.mk.injEq] at hzz
  obtain ⟨hz0, hz1, hz2⟩ := hzz
  have hrun : ∃ w1 cur', (Builtin.append_ #[t, t] o.type #[.slice (some ⟨g, 0, none⟩) n cap, .slice A m c]).run P W = .ok (.slice (some ⟨g, 0, none⟩) (n + m) cap) w1 ∧ W.grownBy w1 (some g) ∧ w1.heap[g]? = some (.cells cur' e (0, 0)) ∧ cur'.size = cap ∧ cur'.toList = cur.toList.take n ++ news ++ cur.toList.drop (n + m) := by
    rcases A with _ | ad
    · obtain rfl := hA rfl
      obtain rfl : news = [] := List.eq_nil_of_length_eq_zero hm
      refine ⟨W, cur, ?_, World.grownBy.refl W _, hg, hcap, by simp⟩
      have hnc : n ≤ cap := by omega
      simp [Builtin.append_, run_underlying ht, sizeOf, typeInfo, hi, Builtin.lenOf, Builtin.firstCells, hnc, storeCells]
    · have hcell : ∀ j, j < news.length → (W.cell? ⟨g, 0 + n * i0.size + j, none⟩).isSome = true := by
        intro j hj
        have hlt : 0 + n * i0.size + j < cur.size := by rw [hz1]; omega
        simp [World.cell?, hg]
        omega
      have hfr : ∀ j, j < news.length → W.frozen? ⟨g, 0 + n * i0.size + j, none⟩ = false := by
        intro j hj
        simp [World.frozen?, hg]
      have hrun := run_append_room_cells (P := P) W t o.type e i0 ht hi g 0 n cap ad m c news (by rw [hz1]; omega) (hnews ad rfl) h1 hroom hcell hfr
      obtain ⟨cur', k1, k2, k3⟩ := setCells_row news (0 + n * i0.size) W cur hg (by rw [hz1]; omega)
      obtain ⟨s1, s2, s3, s4⟩ := setCells_same g news (0 + n * i0.size) W
      refine ⟨_, cur', hrun, ⟨s1, s2, s3, by omega, fun k hk hne => setCells_far news _ k (fun hc => hne (by rw [hc]))⟩, k1, by omega, ?_⟩
      rw [k3, hz1]
      simp [hm]
  obtain ⟨w1, cur', hr, hg1, hh, hsz, hl⟩ := hrun
  refine wpList_plain hgd fun K hK => ?_
  unfold Oper.wp execOp
  simp only [ho, resolve, invoke, builtin, Sem.run_bind, Sem.run_pure, Result.andThen_ok, List.map_toArray, List.map_cons, List.map_nil, hs, hx, hr]
  exact hK _ _ (h w1 cur' hg1 hh hsz hl)
end
def tripwireref00_LentNumbers.f (l0 : List Int) : Option (List Int) := if (l0.length : Int) ≤ 17592186044415 then some l0 else none
set_option maxHeartbeats 8000000 in
set_option maxRecDepth 100000 in
theorem tripwireref00_LentNumbers.calls (A0 : Option Addr) (c0 : Nat) (l0 : List Int) (r : List Int) (w : World) (hr0 : Kd.C (Kd.int .u64) w A0 l0.length l0) (hc0 : l0.length ≤ c0) (h : tripwireref00_LentNumbers.f l0 = some r) :
    Calls Try.prog 27 #[.slice A0 l0.length c0] w fun e w' => ∃ v0, e = .returned v0 ∧ Kd.R (Kd.int .u64) 23 w' w.heap.size (fun _ => True) v0 r ∧ Below w.heap.size w w' ∧ Lent .u64 23 8999229 8999228 w' v0 r := by
  have HR0 := Aside0.mk hr0
  clear hr0 hc0
  by_cases hs : (l0.length : Int) ≤ 17592186044415
  · rw [tripwireref00_LentNumbers.f, if_pos hs] at h
    obtain rfl := Option.some.inj h
    clear h
    obtain ⟨i0, hi, hzz⟩ := Option.map_eq_some_iff.1 info23
    simp only [Prod.mk.injEq] at hzz
    obtain ⟨hz0, hz1, hz2⟩ := hzz
    have hmk : ∀ W : World, (Instr.makeSlice 40 (.int .i64 0) (.int .i64 ((l0.length : Int) + 2))).run Try.prog W = .ok (.slice (some ⟨W.heap.size, 0, none⟩) 0 (l0.length + 2)) (W.alloc (.cells (madeCells #[.int .u64 0] (l0.length + 2)) 23)) := by
      intro W
      have hq := run_make (P := Try.prog) W 40 23 i0 (.int .u64 0) Try.underlying40 hi hz0 .i64 .i64 0 ((l0.length : Int) + 2) (by omega) (by omega) (by rw [hz2]; omega) (by omega)
      have hq2 : ((l0.length : Int) + 2).toNat = l0.length + 2 := by omega
      rw [hq2, hz1, Nat.mul_one] at hq
      exact hq
    have hsz : (madeCells #[Value.int .u64 0] (l0.length + 2)).size = l0.length + 2 := by rw [size_madeCells]
    have hcl := C_cells (k := .u64) (Kd.C_alloc HR0.out (.cells (madeCells #[.int .u64 0] (l0.length + 2)) 23))
    have hblk := heap_alloc_new w (.cells (madeCells #[.int .u64 0] (l0.length + 2)) 23)
    have LM := Aside0.mk hs
    have MK := Aside0.mk hmk
    clear hs hz0 hz1 hz2 hi hmk
    have hw : wrap64 ((l0.length : Int) + 2) = (l0.length : Int) + 2 := by have := LM.out; unfold wrap64; omega
    have HW := Aside0.mk hw
    have hmk := MK.out
    rw [← hw] at hmk
    clear hw
    go_enter Try.func27, Try.ntmps27
    go_wp2_with (first
      | ((with_reducible refine gate_builtin (b := .append) (xs := #[.tmp 8, .tmp 9]) rfl ?_); at_builtin
         refine wpList_append_fill rfl (.tmp 8) (.tmp 9) 40 23 (.int .u64 0) 8 rfl Try.underlying40 info23 w.heap.size 0 (l0.length + 2) l0.length _ hblk hsz A0 c0 (nums .u64 l0) (by simp [nums]) rfl rfl hcl.1 hcl.2 (by intro u hu; simp only [nums, List.mem_map] at hu; obtain ⟨q, _, rfl⟩ := hu; rfl) (by omega) ?_
         intro w1 cur1 hg1 hh1 hs1 hc1
         have G1 := Aside0.mk hg1; have S1 := Aside0.mk hs1; have C1 := Aside0.mk hc1; have B1 := Aside0.mk hh1
         clear hg1 hs1 hc1 hh1)
      | ((with_reducible refine gate_builtin (b := .append) (xs := #[.tmp 11, .tmp 12]) rfl ?_); at_builtin
         refine wpList_append_fill rfl (.tmp 11) (.tmp 12) 40 23 (.int .u64 0) 8 rfl Try.underlying40 info23 w.heap.size l0.length (l0.length + 2) 2 cur1 (blk_alloc B1.out _) S1.out (some ⟨w1.heap.size, 0, none⟩) 2 [.int .u64 8999229, .int .u64 8999228] rfl rfl rfl (by intro hx_; cases hx_) (fun ad hx_ => by injection hx_ with hx_; subst hx_; exact World.news_of_block (cs := #[.int .u64 8999229, .int .u64 8999228]) (t := 23) (fr := (0, 0)) (heap_alloc_new w1 _)) (by simp [Value.oneCell']) (by omega) ?_
         intro w2 cur2 hg2 hh2 hs2 hc2
         have G2 := Aside0.mk hg2; have S2 := Aside0.mk hs2; have C2 := Aside0.mk hc2; have B2 := Aside0.mk hh2
         clear hg2 hs2 hc2 hh2))
    go_ret
    have hl1 : cur1.toList.take l0.length = nums .u64 l0 := by
      rw [C1.out]
      have : (nums .u64 l0).length = l0.length := by simp [nums]
      simp [← this]
    have hl2 : cur1.toList.drop (l0.length + 2) = [] := List.drop_eq_nil_of_le (by have := S1.out; simp; omega)
    have hc2 : cur2.toList = nums .u64 (l0 ++ [8999229, 8999228]) := by
      rw [C2.out, hl1, hl2]
      simp [nums]
    have hl3 : cur2.toList.take l0.length = nums .u64 l0 := by
      rw [hc2]
      have : (nums .u64 l0).length = l0.length := by simp [nums]
      simp [nums]
    have hm := LM.out
    have hb1 : Below w.heap.size w w1 := (below_alloc (Below.refl _ _) _).grown G1.out (by simp) (by intro k hk; injection hk with hk; omega)
    have hb2 : Below w.heap.size w w2 := (below_alloc hb1 _).grown G2.out (by have := hb1.size; simp; omega) (by intro k hk; injection hk with hk; omega)
    refine ⟨_, rfl, Kd.R_of_own (h1 := fun _ => rfl) (ok := fun _ => True) ?_ (fun _ _ => trivial), hb2, w.heap.size, cur2, rfl, B2.out, hc2, by omega⟩
    exact ⟨by simp [encs], .inr ⟨w.heap.size, l0.length + 2, cur2, rfl, Nat.le_refl _, B2.out, by omega, by simp only [maxLen]; omega, by simpa using S2.out, by simpa [encs, nums] using hl3⟩⟩
  · rw [tripwireref00_LentNumbers.f, if_neg hs] at h
    exact absurd h (by simp)

end Go.Proofs.Ytcninjadeagenaa.HWire
