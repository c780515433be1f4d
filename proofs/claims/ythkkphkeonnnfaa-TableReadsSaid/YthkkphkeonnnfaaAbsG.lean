/- An abstract machine over the model's code: its operations that write no memory, third part. No condition but those that each theorem names. -/
import Derived.Test.YthkkphkeonnnfaaAbsF
namespace Go.Proofs.Ythkkphkeonnnfaa.Abs
open Go
variable {P : Program} {B : Nat} {μ : K → Option Loc} {H : Hp} {w : World}

/-! ### fields, elements -/
theorem opField_run {t : TypeId} {x : Option AV} {f : Nat} {v : AV} (h : opField P t x f = some v) : ∃ u, x = some u ∧ ∀ μ c, conc μ u = some c → ∃ d, conc μ v = some d ∧ ∀ w, (Instr.field t c f).run P w = .ok d w := by
  unfold opField at h
  split at h
  · rename_i fs l hu
    refine ⟨_, rfl, fun μ c hc => ?_⟩
    obtain ⟨vs, hvs, rfl⟩ := conc_agg hc
    split at h
    · rename_i d hd
      rw [getL_eq, Array.getElem?_toList] at hd
      obtain ⟨x, hx, -⟩ := part_run h hvs default
      refine ⟨x, hx, fun w => ?_⟩
      obtain ⟨x', hx', hr⟩ := part_run h hvs w
      have : x' = x := by rw [hx] at hx'; injection hx' with hx'; exact hx'.symm
      subst this
      simp [Instr.field, run_underlying hu, hd, Go.asAgg, hr]
    · cases h
  · cases h
theorem opFieldAddr_run {t : TypeId} {x : Option AV} {f : Nat} {v : AV} (h : opFieldAddr P t x f = some v) : ∃ u, x = some u ∧ ∀ μ c, conc μ u = some c → ∃ d, conc μ v = some d ∧ ∀ w, (Instr.fieldAt t c f).run P w = .ok d w := by
  obtain ⟨p, hp, h⟩ := optK_some h
  obtain ⟨u, hu, hp⟩ := optK_some hp
  obtain ⟨o, ho, h⟩ := optK_some h
  injection h with h; subst h
  have hp := asPtr_some hp
  subst hp
  refine ⟨_, hu, fun μ c hc => ?_⟩
  obtain ⟨l, hl, rfl⟩ := conc_ptr (i := p.1) (o := p.2) hc
  unfold offOf at ho
  split at ho
  · rename_i fs hun
    split at ho
    · rename_i d hd
      split at ho
      · rename_i n hn
        injection ho with ho; subst ho
        rw [Array.getElem?_toList] at hd
        refine ⟨.pointer (some (ptrV l (p.2 + d.offset))), ?_, fun w => ?_⟩
        · show (μ p.1).map (fun l => Value.pointer (some (ptrV l (p.2 + d.offset)))) = _
          rw [hl]; rfl
        · have hs := tsize_run (P := P) hn w
          simp [Instr.fieldAt, run_underlying hun, hd, Instr.sureAddr, fieldPlace, hs, ptrV_add]
      · cases ho
    · cases ho
  · cases ho
theorem nat_mod_u8 (b : Nat) : ((UInt8.ofNat b).toNat : Int) = Int.ofNat (b % 256) := by simp
theorem opIndex_run {t : TypeId} {x ix : Option AV} {v : AV} (h : opIndex P t x ix = some v) : ∃ u i, x = some u ∧ ix = some i ∧ ∀ μ c d, conc μ u = some c → conc μ i = some d → ∃ r, conc μ v = some r ∧ ∀ w, (Instr.index t c d).run P w = .ok r w := by
  unfold opIndex at h
  split at h
  · rename_i s k i hu
    refine ⟨_, _, rfl, rfl, fun μ c d hc hd => ?_⟩
    rw [conc_str hc, conc_int hd]
    split at h
    · rename_i b hb
      injection h with h; subst h
      rw [getL_eq] at hb
      refine ⟨_, rfl, fun w => ?_⟩
      have hlt : i < (bytesV s).size := by rw [bytesV_size]; exact (List.getElem?_eq_some_iff.1 hb).1
      have hg : (bytesV s)[i]? = some (UInt8.ofNat b) := by
        show (bytesV s).data[i]? = _
        simp [bytesV, hb]
      have h0 : (0 : Int) ≤ Int.ofNat i := Int.natCast_nonneg i
      simp [Instr.index, asIntOf, run_underlying hu, hg]
      rfl
    · cases h
  · rename_i len e l k i hu
    refine ⟨_, _, rfl, rfl, fun μ c d hc hd => ?_⟩
    obtain ⟨vs, hvs, rfl⟩ := conc_agg hc
    rw [conc_int hd]
    split at h
    · rename_i n hb hn
      have hlt : i < len := by simpa [Nat.blt_eq] using hb
      obtain ⟨x, hx, -⟩ := part_run h hvs default
      refine ⟨x, hx, fun w => ?_⟩
      obtain ⟨x', hx', hr⟩ := part_run h hvs w
      have : x' = x := by rw [hx] at hx'; injection hx' with hx'; exact hx'.symm
      subst this
      have hs := tsize_run (P := P) hn w
      have hr : (part e vs.toArray (i * n)).run P w = .ok x' w := hr
      simp [Instr.index, asIntOf, run_underlying hu, hlt, hs, hr]
    · cases h
  · cases h
theorem opIndexAddr_run {t : TypeId} {x ix : Option AV} {v : AV} (h : opIndexAddr P t x ix = some v) : ∃ u i, x = some u ∧ ix = some i ∧ ∀ μ c d, conc μ u = some c → conc μ i = some d → ∃ r, conc μ v = some r ∧ ∀ w, (Instr.indexAt t c d).run P w = .ok r w := by
  unfold opIndexAddr at h
  split at h
  · rename_i e j o len k kk i hu
    refine ⟨_, _, rfl, rfl, fun μ c d hc hd => ?_⟩
    obtain ⟨l, hl, -, rfl⟩ := conc_slice hc
    rw [conc_int hd]
    split at h
    · rename_i n hb hn
      have hlt : i < len := by simpa [Nat.blt_eq] using hb
      injection h with h; subst h
      refine ⟨.pointer (some (ptrV l (o + i * n))), ?_, fun w => ?_⟩
      · show (μ j).map (fun l => Value.pointer (some (ptrV l (o + i * n)))) = _
        rw [hl]; rfl
      · have hs := tsize_run (P := P) hn w
        simp [Instr.indexAt, asIntOf, run_underlying hu, hlt, hs, ptrV_add]
    · cases h
  · rename_i len e j o kk i hu
    refine ⟨_, _, rfl, rfl, fun μ c d hc hd => ?_⟩
    obtain ⟨l, hl, rfl⟩ := conc_ptr hc
    rw [conc_int hd]
    split at h
    · rename_i n hb hn
      have hlt : i < len := by simpa [Nat.blt_eq] using hb
      injection h with h; subst h
      refine ⟨.pointer (some (ptrV l (o + i * n))), ?_, fun w => ?_⟩
      · show (μ j).map (fun l => Value.pointer (some (ptrV l (o + i * n)))) = _
        rw [hl]; rfl
      · have hs := tsize_run (P := P) hn w
        simp [Instr.indexAt, asIntOf, run_underlying hu, Instr.sureAddr, hlt, hs, ptrV_add]
    · cases h
  · cases h
theorem opExtract_run {x : Option AV} {i : Nat} {v : AV} (h : opExtract x i = some v) : ∃ u, x = some u ∧ ∀ μ c, conc μ u = some c → ∃ d, conc μ v = some d ∧ ∀ w, (Instr.extract c i).run P w = .ok d w := by
  unfold opExtract at h
  split at h
  · rename_i l
    refine ⟨_, rfl, fun μ c hc => ?_⟩
    obtain ⟨vs, hvs, rfl⟩ := conc_tup hc
    rw [getL_eq] at h
    obtain ⟨x, h1, h2⟩ := concL_get _ _ _ _ hvs h
    exact ⟨x, h2, fun w => by simp [Instr.extract, h1]⟩
  · cases h
theorem opPick_run {c a b : Option AV} {v : AV} (h : opPick c a b = some v) : ∃ g, c = some (.bool g) ∧ (if g then a else b) = some v := by
  obtain ⟨g, hg, h⟩ := optK_some h
  obtain ⟨u, hu, hg⟩ := optK_some hg
  rw [asBool_some hg] at hu
  refine ⟨g, hu, ?_⟩
  cases g
  · exact h
  · exact h
theorem opMkIface_run {t : TypeId} {x : Option AV} {v : AV} (h : opMkIface P t x = some v) : ∃ u, x = some u ∧ ∀ μ c, conc μ u = some c → ∃ d, conc μ v = some d ∧ ∀ w, (Instr.makeInterface t c).run P w = .ok d w := by
  unfold opMkIface at h
  split at h
  · cases h
  · rename_i d u hn hu
    injection h with h; subst h
    refine ⟨_, rfl, fun μ c hc => ⟨.iface t c, ?_, fun w => ?_⟩⟩
    · simp only [conc, hc, Option.map_some]
    · cases d <;> first
        | exact absurd rfl (hn _)
        | (simp [Instr.makeInterface, run_underlying hu]; done)
  · cases h
theorem opNil_run {x : Option AV} {v : AV} (h : opNil x = some v) : x = some v ∧ ∀ μ c, conc μ v = some c → (∃ a, c = .pointer (some a)) ∨ (∃ t y, c = .iface t y) ∨ ∃ f a b, c = .func (.func f) a b := by
  unfold opNil at h
  split at h
  · rename_i p
    injection h with h; subst h
    refine ⟨rfl, fun μ c hc => .inl ?_⟩
    obtain ⟨l, -, rfl⟩ := conc_ptr (i := p.1) (o := p.2) hc
    exact ⟨_, rfl⟩
  · injection h with h; subst h
    refine ⟨rfl, fun μ c hc => .inr (.inl ?_)⟩
    obtain ⟨y, -, rfl⟩ := conc_iface hc
    exact ⟨_, _, rfl⟩
  · injection h with h; subst h
    refine ⟨rfl, fun μ c hc => .inr (.inr ?_)⟩
    obtain ⟨a, b, -, -, rfl⟩ := conc_func hc
    exact ⟨_, _, _, rfl⟩
  · cases h
theorem foldMM_run {least : Bool} : ∀ (xs : List AV) (x v : AV), foldMM least x xs = some v → ∀ μ c cs, conc μ x = some c → concL μ xs = some cs →
    ∃ d, conc μ v = some d ∧ ∀ w, (cs.foldlM (if least then Builtin.min2 else Builtin.max2) c).run P w = .ok d w
  | [], x, v, h, μ, c, cs, hc, hcs => by
    injection (show some [] = some cs from hcs) with hcs; subst hcs
    cases x <;> simp only [foldMM] at h <;> first | (cases h; done) | (injection h with h; subst h; exact ⟨c, hc, fun w => by simp⟩)
  | y :: ys, x, v, h, μ, c, cs, hc, hcs => by
    simp only [concL, Option.bind_eq_some_iff, Option.map_eq_some_iff] at hcs
    obtain ⟨d, hd, ds, hds, rfl⟩ := hcs
    cases x <;> cases y <;> simp only [foldMM] at h <;> first | (cases h; done) | skip
    rename_i k a k' b
    rw [conc_int hc, conc_int hd]
    obtain ⟨r, hr, hrun⟩ := foldMM_run ys _ v h μ _ ds rfl hds
    refine ⟨r, hr, fun w => ?_⟩
    have := hrun w
    cases least
    · simpa [List.foldlM_cons, Builtin.max2] using this
    · simpa [List.foldlM_cons, Builtin.min2] using this

/-! ### slicing -/
theorem bound_run {most dflt r : Nat} {x : AV} (h : bound1 most dflt (some x) = some r) : r ≤ most ∧ ∀ μ c, conc μ x = some c → ∀ (most' : Nat), most ≤ most' → ∀ code w, (Instr.sliceBound c most' code).run P w = .ok r w := by
  unfold bound1 at h
  split at h
  · cases ‹_ = none›
  · rename_i k i hx
    injection hx with hx; subst hx
    split at h
    · rename_i hi
      injection h with h; subst h
      refine ⟨by omega, fun μ c hc most' hm code w => ?_⟩
      rw [conc_int hc]
      have : i ≤ (most' : Int) := by omega
      simp [Instr.sliceBound, asIntOf, hi.1, this]
    · cases h
  · cases h
theorem bound0 {most dflt r : Nat} (h : bound1 most dflt none = some r) : r = dflt := by injection (show some dflt = some r from h) with h; exact h.symm
/-- What an operand that may be missing is. -/
def ConcO (μ : K → Option Loc) (x : Option AV) (c : Option Value) : Prop := match x with
  | none => c = none
  | some v => ∃ y, c = some y ∧ conc μ v = some y
theorem bounds2_run {isS : Bool} {len cap most h l : Nat} {hi lo : Option AV} (hm : most ≤ cap) (h1 : bound1 most len hi = some h) (h2 : bound1 h 0 lo = some l) (hlen : hi = none → len ≤ len) {chi clo : Option Value} (e1 : ConcO μ hi chi) (e2 : ConcO μ lo clo) (w : World) :
    (Instr.sliceBounds isS len cap clo chi none).run P w = .ok (l, h, cap) w := by
  have _ := hlen
  cases hi with
  | none =>
    have e1 : chi = none := e1
    subst e1
    have := bound0 h1
    subst this
    cases lo with
    | none =>
      have e2 : clo = none := e2
      subst e2
      have := bound0 h2
      subst this
      simp [Instr.sliceBounds]
    | some x =>
      obtain ⟨c, rfl, hc⟩ := e2
      obtain ⟨-, hr⟩ := bound_run (P := P) h2
      have := hr μ c hc h (Nat.le_refl _) .sliceB w
      simp [Instr.sliceBounds, this]
  | some y =>
    obtain ⟨d, rfl, hd⟩ := e1
    obtain ⟨-, hr1⟩ := bound_run (P := P) h1
    have q1 := hr1 μ d hd cap hm
    cases lo with
    | none =>
      have e2 : clo = none := e2
      subst e2
      have := bound0 h2
      subst this
      simp [Instr.sliceBounds, q1]
    | some x =>
      obtain ⟨c, rfl, hc⟩ := e2
      obtain ⟨-, hr⟩ := bound_run (P := P) h2
      have q2 := hr μ c hc h (Nat.le_refl _) .sliceB w
      simp [Instr.sliceBounds, q1, q2]
theorem bounds3_run {len cap most m h l : Nat} {mx hi : AV} {lo : Option AV} (hmost : most ≤ cap) (h0 : bound1 most 0 (some mx) = some m) (h1 : bound1 m 0 (some hi) = some h) (h2 : bound1 h 0 lo = some l) {cmx chi : Value} {clo : Option Value} (e0 : conc μ mx = some cmx) (e1 : conc μ hi = some chi) (e2 : ConcO μ lo clo) (w : World) :
    (Instr.sliceBounds true len cap clo (some chi) (some cmx)).run P w = .ok (l, h, m) w := by
  obtain ⟨-, r0⟩ := bound_run (P := P) h0
  have q0 := r0 μ cmx e0 cap hmost
  obtain ⟨-, r1⟩ := bound_run (P := P) h1
  have q1 := r1 μ chi e1 m (Nat.le_refl _)
  cases lo with
  | none =>
    have e2 : clo = none := e2
    subst e2
    have := bound0 h2
    subst this
    simp [Instr.sliceBounds, q0, q1]
  | some x =>
    obtain ⟨c, rfl, hc⟩ := e2
    obtain ⟨-, hr⟩ := bound_run (P := P) h2
    have q2 := hr μ c hc h (Nat.le_refl _) .slice3C w
    simp [Instr.sliceBounds, q0, q1, q2]
theorem bound1_le {most dflt r : Nat} {x : Option AV} (hd : dflt ≤ most) (h : bound1 most dflt x = some r) : r ≤ most := by
  cases x with
  | none => rw [bound0 h]; exact hd
  | some v => exact (bound_run (P := default) h).1
end Go.Proofs.Ythkkphkeonnnfaa.Abs
