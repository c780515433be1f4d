/- An abstract machine over the model's code: slicing, and building structs and rows. No condition but those that each theorem names. -/
import Derived.Test.YthkkphkeonnnfaaAbsG
namespace Go.Proofs.Ythkkphkeonnnfaa.Abs
open Go
variable {P : Program} {B : Nat} {μ : K → Option Loc} {H : Hp} {w : World}

theorem bytesV_extract (s : List Nat) (l h : Nat) : (bytesV s).extract l h = bytesV ((s.drop l).take (h - l)) := by
  apply ByteArray.ext
  rw [ByteArray.data_extract]
  show (s.map UInt8.ofNat).toArray.extract l h = (((s.drop l).take (h - l)).map UInt8.ofNat).toArray
  rw [List.extract_toArray]
  simp [List.map_drop, List.map_take]
theorem ptrV_add0 (l : Loc) (o : Nat) : (ptrV l o).add 0 = ptrV l o := by rw [ptrV_add]; rfl
theorem capM_le {l : Loc} {c : Cp} {n : Nat} (h : n ≤ capV l c) : capM c n ≤ capV l c := by
  cases c with
  | ex k => exact Nat.le_refl k
  | own s => exact h
theorem cutCap_eq (l : Loc) (c : Cp) (k : Nat) : capV l (cutCap c k) = capV l c - k := by
  cases c with
  | ex n => rfl
  | own s => show l.cap - (s + k) = l.cap - s - k; omega
theorem opSlice_run {t : TypeId} {x : Option AV} {lo hi mx : Option (Option AV)} {v : AV} (h : opSlice P t x lo hi mx = some v) :
    ∃ u lo' hi' mx', x = some u ∧ lo = some lo' ∧ hi = some hi' ∧ mx = some mx' ∧ ∀ μ c clo chi cmx, conc μ u = some c → ConcO μ lo' clo → ConcO μ hi' chi → ConcO μ mx' cmx →
      ∃ d, conc μ v = some d ∧ ∀ w, (Instr.sliceAt t c clo chi cmx).run P w = .ok d w := by
  unfold opSlice at h
  split at h
  · rename_i s lo hi hu
    refine ⟨_, _, _, _, rfl, rfl, rfl, rfl, fun μ c clo chi cmx hc e1 e2 e3 => ?_⟩
    have e3 : cmx = none := e3
    subst e3
    rw [conc_str hc]
    split at h
    · rename_i hh h1
      split at h
      · rename_i l h2
        split at h
        · rename_i r hr
          injection h with h; subst h
          obtain ⟨q1, q2, -⟩ := subL_eq hr
          refine ⟨_, rfl, fun w => ?_⟩
          have hb := bounds2_run (P := P) (isS := false) (len := (bytesV s).size) (cap := (bytesV s).size) (most := s.length) (by rw [bytesV_size]; exact Nat.le_refl _) (by rw [bytesV_size]; exact h1) h2 (fun _ => Nat.le_refl _) e2 e1 w
          simp only [Instr.sliceAt, Sem.run_bind, run_underlying hu, Result.andThen_ok, Instr.slice, Option.isSome_none, Bool.false_eq_true, if_false, hb, bytesV_extract, ← q1]
          rfl
        · cases h
      · cases h
    · cases h
  · rename_i e a len cp lo hi hu
    refine ⟨_, _, _, _, rfl, rfl, rfl, rfl, fun μ c clo chi cmx hc e1 e2 e3 => ?_⟩
    have e3 : cmx = none := e3
    subst e3
    split at h
    · rename_i n hn
      have hs := fun w => tsize_run (P := P) hn w
      split at h
      · rename_i hh h1
        split at h
        · rename_i l h2
          have hle : l ≤ hh := bound1_le (Nat.zero_le _) h2
          split at h
          · split at h
            · rename_i h0
              injection h with h; subst h
              subst h0
              obtain ⟨m, rfl, rfl⟩ := conc_slice0 hc
              refine ⟨.slice none hh m, rfl, fun w => ?_⟩
              have hb := bounds2_run (P := P) (isS := true) (len := len) (cap := m) (most := m) (Nat.le_refl _) h1 h2 (fun _ => Nat.le_refl _) e2 e1 w
              simp [Instr.sliceAt, run_underlying hu, Instr.slice, hb, hs]
            · cases h
          · rename_i i o
            obtain ⟨L, hL, hcap, rfl⟩ := conc_slice hc
            have hmost := capM_le hcap
            have hhle : hh ≤ capM cp len := bound1_le (by cases cp <;> first | exact hcap | exact Nat.le_refl _) h1
            have hb := fun w => bounds2_run (P := P) (isS := true) (len := len) (cap := capV L cp) (most := capM cp len) hmost h1 h2 (fun _ => Nat.le_refl _) e2 e1 w
            split at h
            · rename_i h0
              injection h with h; subst h
              subst h0
              refine ⟨_, conc_slice_mk hL (Nat.le_trans hhle hmost), fun w => ?_⟩
              simp [Instr.sliceAt, run_underlying hu, Instr.slice, hb w, hs, ptrV_add0]
            · rename_i h0
              split at h
              · rename_i hlt
                injection h with h; subst h
                have hlt : l < capM cp len := hlt
                have hne : ¬ capV L cp = l := by omega
                refine ⟨_, conc_slice_mk hL (by rw [cutCap_eq]; omega), fun w => ?_⟩
                simp [Instr.sliceAt, run_underlying hu, Instr.slice, hb w, hs, hne, ptrV_add, cutCap_eq]
              · split at h
                · rename_i k hnl
                  split at h
                  · rename_i hk
                    injection h with h; subst h
                    subst hk
                    have hhle : hh ≤ k := hhle
                    have : hh - k = 0 := by omega
                    refine ⟨_, conc_slice_mk hL (by rw [this]; exact Nat.zero_le _), fun w => ?_⟩
                    have hcv : capV L (.ex k) = k := rfl
                    have hcv0 : capV L (.ex 0) = 0 := rfl
                    have hb' := hb w
                    rw [hcv] at hb'
                    simp [Instr.sliceAt, run_underlying hu, Instr.slice, hb', hs, hcv, hcv0]
                  · cases h
                · cases h
        · cases h
      · cases h
    · cases h
  · rename_i e a len cp lo hi mx hu
    refine ⟨_, _, _, _, rfl, rfl, rfl, rfl, fun μ c clo chi cmx hc e1 e2 e3 => ?_⟩
    obtain ⟨cm, rfl, e3⟩ := e3
    obtain ⟨ch, rfl, e2⟩ := e2
    split at h
    · rename_i n hn
      have hs := fun w => tsize_run (P := P) hn w
      split at h
      · rename_i m h0
        split at h
        · rename_i hh h1
          split at h
          · rename_i l h2
            have hle : l ≤ hh := bound1_le (Nat.zero_le _) h2
            have hle2 : hh ≤ m := bound1_le (Nat.zero_le _) h1
            split at h
            · split at h
              · rename_i h0'
                injection h with h; subst h
                subst h0'
                obtain ⟨k, rfl, rfl⟩ := conc_slice0 hc
                have hb := fun w => bounds3_run (P := P) (len := len) (cap := k) (most := k) (Nat.le_refl _) h0 h1 h2 e3 e2 e1 w
                refine ⟨_, rfl, fun w => ?_⟩
                simp [Instr.sliceAt, run_underlying hu, Instr.slice, hb w, hs]
              · cases h
            · rename_i i o
              obtain ⟨L, hL, hcap, rfl⟩ := conc_slice hc
              have hmost := capM_le hcap
              have hb := fun w => bounds3_run (P := P) (len := len) (cap := capV L cp) (most := capM cp len) hmost h0 h1 h2 e3 e2 e1 w
              split at h
              · rename_i h0'
                injection h with h; subst h
                subst h0'
                refine ⟨_, conc_slice_mk hL (show hh ≤ m from hle2), fun w => ?_⟩
                have hcv : capV L (.ex m) = m := rfl
                simp [Instr.sliceAt, run_underlying hu, Instr.slice, hb w, hs, ptrV_add0, hcv]
              · split at h
                · rename_i hml
                  injection h with h; subst h
                  subst hml
                  have : hh - m = 0 := by omega
                  refine ⟨_, conc_slice_mk hL (by rw [this]; exact Nat.zero_le _), fun w => ?_⟩
                  have hcv0 : capV L (.ex 0) = 0 := rfl
                  simp [Instr.sliceAt, run_underlying hu, Instr.slice, hb w, hs, hcv0]
                · rename_i hml
                  injection h with h; subst h
                  refine ⟨_, conc_slice_mk hL (show hh - l ≤ m - l by omega), fun w => ?_⟩
                  have hcv : capV L (.ex (m - l)) = m - l := rfl
                  simp [Instr.sliceAt, run_underlying hu, Instr.slice, hb w, hs, hml, ptrV_add, hcv]
          · cases h
        · cases h
      · cases h
    · cases h
  · rename_i len e i o lo hi hu
    refine ⟨_, _, _, _, rfl, rfl, rfl, rfl, fun μ c clo chi cmx hc e1 e2 e3 => ?_⟩
    have e3 : cmx = none := e3
    subst e3
    obtain ⟨L, hL, rfl⟩ := conc_ptr hc
    split at h
    · rename_i n hn
      have hs := fun w => tsize_run (P := P) hn w
      split at h
      · rename_i hh h1
        split at h
        · rename_i l h2
          have hle : l ≤ hh := bound1_le (Nat.zero_le _) h2
          have hle2 : hh ≤ len := bound1_le (Nat.le_refl _) h1
          have hb := fun w => bounds2_run (P := P) (isS := false) (len := len) (cap := len) (most := len) (Nat.le_refl _) h1 h2 (fun _ => Nat.le_refl _) e2 e1 w
          split at h
          · rename_i h0
            injection h with h; subst h
            subst h0
            refine ⟨_, conc_slice_mk hL (show hh ≤ len from hle2), fun w => ?_⟩
            have hcv : capV L (.ex len) = len := rfl
            simp [Instr.sliceAt, run_underlying hu, Instr.sureAddr, hb w, hs, ptrV_add0, hcv]
          · split at h
            · rename_i hml
              injection h with h; subst h
              subst hml
              have : hh - len = 0 := by omega
              refine ⟨_, conc_slice_mk hL (by rw [this]; exact Nat.zero_le _), fun w => ?_⟩
              have hcv0 : capV L (.ex 0) = 0 := rfl
              simp [Instr.sliceAt, run_underlying hu, Instr.sureAddr, hb w, hs, hcv0]
            · rename_i hml
              injection h with h; subst h
              refine ⟨_, conc_slice_mk hL (show hh - l ≤ len - l by omega), fun w => ?_⟩
              have hcv : capV L (.ex (len - l)) = len - l := rfl
              simp [Instr.sliceAt, run_underlying hu, Instr.sureAddr, hb w, hs, hml, ptrV_add, hcv]
        · cases h
      · cases h
    · cases h
  · cases h

/-! ### building -/
theorem foldl_set : ∀ (vals : List Value) (k off : Nat) (cs : Array Value), off + k + vals.length ≤ cs.size →
    (vals.zipIdx k).foldl (fun cs (p : Value × Nat) => cs.setIfInBounds (off + p.2) p.1) cs = (cs.toList.take (off + k) ++ vals ++ cs.toList.drop (off + k + vals.length)).toArray
  | [], k, off, cs, _ => by simp
  | v :: vs, k, off, cs, h => by
    simp only [List.zipIdx_cons, List.foldl_cons]
    simp only [List.length_cons] at h
    rw [foldl_set vs (k + 1) off _ (by rw [Array.size_setIfInBounds]; omega)]
    have hlt : off + k < cs.toList.length := by rw [Array.length_toList]; omega
    congr 1
    simp only [Array.toList_setIfInBounds, List.length_cons]
    have e1 : (cs.toList.set (off + k) v).take (off + (k + 1)) = cs.toList.take (off + k) ++ [v] := by
      rw [← Nat.add_assoc, List.take_succ_eq_append_getElem (by simpa using hlt), List.take_set_of_le (Nat.le_refl _)]
      simp
    have e2 : (cs.toList.set (off + k) v).drop (off + (k + 1) + vs.length) = cs.toList.drop (off + k + (vs.length + 1)) := by
      rw [List.drop_set_of_lt (by omega)]
      congr 1; omega
    rw [e1, e2]
    simp
def PartsR (μ : K → Option Loc) : List (Nat × AV) → List (Nat × Value) → Prop
  | [], [] => True
  | (i, v) :: ps, (j, c) :: qs => i = j ∧ conc μ v = some c ∧ PartsR μ ps qs
  | _, _ => False
theorem fillA_fill {place : Nat → Option (Nat × Nat)} : ∀ (ps : List (Nat × AV)) (cs rs : List AV) (vs : List Value) (qs : List (Nat × Value)), fillA place cs ps = some rs → concL μ cs = some vs → PartsR μ ps qs →
    ∃ us : List Value, concL μ rs = some us ∧ Instr.fill place vs.toArray qs = some us.toArray
  | [], cs, rs, vs, [], h, hc, _ => by
    injection (show some cs = some rs from h) with h; subst h
    exact ⟨vs, hc, rfl⟩
  | [], _, _, _, _ :: _, _, _, hq => hq.elim
  | _ :: _, _, _, _, [], _, _, hq => hq.elim
  | (i, v) :: ps, cs, rs, vs, (j, c) :: qs, h, hc, hq => by
    obtain ⟨rfl, hv, hq⟩ := hq
    simp only [fillA] at h
    split at h
    · rename_i o n hp
      split at h
      · rename_i cs' hn hs
        have hn : lenL v.parts = n := Nat.beq_eq.mp hn
        obtain ⟨s1, s2⟩ := setLs_eq _ _ _ _ hs
        have hpc := parts_conc hv
        have hpl := concL_length _ _ hpc
        have hcl := concL_length _ _ hc
        have hsz : c.cells.size = n := by rw [← hn, lenL_eq, ← hpl, Array.length_toList]
        have hle : o + c.cells.toList.length ≤ vs.length := by rw [hpl, hcl]; exact s2
        have hc' : concL μ cs' = some (vs.take o ++ c.cells.toList ++ vs.drop (o + c.cells.toList.length)) := by
          rw [s1, hpl]
          exact concL_append _ _ _ _ (concL_append _ _ _ _ (concL_take _ _ _ hc) hpc) (concL_drop _ _ _ hc)
        obtain ⟨us, hu1, hu2⟩ := fillA_fill ps cs' rs _ qs h hc' hq
        refine ⟨us, hu1, ?_⟩
        simp only [Instr.fill, hp]
        have hcond : (decide (c.cells.size ≠ n) || decide (o + c.cells.size > vs.toArray.size)) = false := by
          rw [Array.length_toList] at hle
          simp [hsz]
          rw [← hsz]
          simpa using hle
        rw [if_neg (by rw [hcond]; simp)]
        rw [← Array.foldl_toList, Array.toList_zipIdx]
        have := foldl_set c.cells.toList 0 o vs.toArray (by simpa using hle)
        simp only [Nat.add_zero] at this
        rw [this]
        exact hu2
      · cases h
    · cases h
theorem zeroA_conc {t : TypeId} {z : AV} (h : zeroA P t = some z) : ∃ i c, P.info? t = some i ∧ i.zero = some c ∧ ∀ μ, conc μ z = some c := by
  unfold zeroA at h
  split at h
  · rename_i i hi
    split at h
    · rename_i c hc
      exact ⟨i, c, hi, hc, fun μ => conc_ofV μ c z h⟩
    · cases h
  · cases h
theorem opBuild_run {t : TypeId} {parts : Option (List (Nat × AV))} {v : AV} (h : opBuild P t parts = some v) : ∃ ps, parts = some ps ∧ ∀ μ (qs : Array (Nat × Value)), PartsR μ ps qs.toList → ∃ d, conc μ v = some d ∧ ∀ w, (Instr.build t qs).run P w = .ok d w := by
  unfold opBuild at h
  split at h
  · rename_i ps z fs hz hu
    refine ⟨ps, rfl, fun μ qs hq => ?_⟩
    obtain ⟨it, zc, hi, hzc, hconc⟩ := zeroA_conc hz
    split at h
    · rename_i pl hpl
      split at h
      · rename_i cs hf
        injection h with h; subst h
        have hf' : fillA (pl.toArray[·]?) z.parts ps = some cs := by
          have : getL pl = (pl.toArray[·]?) := by funext n; rw [getL_eq]; simp
          rw [← this]; exact hf
        obtain ⟨us, h1, h2⟩ := fillA_fill ps z.parts cs _ qs.toList hf' (parts_conc (hconc μ)) hq
        refine ⟨_, conc_agg_mk h1, fun w => run_build w t qs us.toArray ?_⟩
        have hpl : fs.toList.mapM (fun f => (P.info? f.type).map fun i => (f.offset, i.size)) = some pl := hpl
        simp only [Program.built, hi, hu, hzc, hpl]
        simpa using h2
      · cases h
    · cases h
  · rename_i ps z n e hz hu
    refine ⟨ps, rfl, fun μ qs hq => ?_⟩
    obtain ⟨it, zc, hi, hzc, hconc⟩ := zeroA_conc hz
    split at h
    · rename_i k hk
      split at h
      · rename_i cs hf
        injection h with h; subst h
        obtain ⟨us, h1, h2⟩ := fillA_fill ps z.parts cs _ qs.toList hf (parts_conc (hconc μ)) hq
        refine ⟨_, conc_agg_mk h1, fun w => run_build w t qs us.toArray ?_⟩
        unfold tsize at hk
        split at hk
        · rename_i ie hie
          injection hk with hk; subst hk
          simp only [Program.built, hi, hu, hzc, hie]
          simpa using h2
        · cases hk
      · cases h
    · cases h
  · cases h
end Go.Proofs.Ythkkphkeonnnfaa.Abs
