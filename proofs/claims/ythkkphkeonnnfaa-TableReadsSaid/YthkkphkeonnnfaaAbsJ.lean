/- An abstract machine over the model's code: operations that make memory, and stores. No condition but those that each theorem names. -/
import Derived.Test.YthkkphkeonnnfaaAbsI
import Derived.Below
namespace Go.Proofs.Ythkkphkeonnnfaa.Abs
open Go
variable {P : Program} {B : Nat} {μ : K → Option Loc} {H : Hp} {w w1 : World} {nx : K}

def upd (μ : K → Option Loc) (k : K) (l : Loc) : K → Option Loc := fun i => if i = k then some l else μ i
def updH (H : Hp) (k : K) (b : Bk) : Hp := fun i => if i = k then some b else H i
theorem get_set' (h : T Bk) (k : K) (b : Bk) : T.get (T.set h k b) = updH (T.get h) k b := funext fun i => T.get_set h k b i
theorem upd_same (μ : K → Option Loc) (k : K) (l : Loc) : upd μ k l k = some l := if_pos rfl
theorem MLe.upd (h : μ nx = none) (l : Loc) : MLe μ (upd μ nx l) := fun i m e => by
  unfold Abs.upd
  split
  · rename_i e'; rw [e', h] at e; cases e
  · exact e
theorem Rel.lt (hR : Rel B μ H w) {i : K} {b : Bk} {l : Loc} (hb : H i = some b) (hl : μ i = some l) : l.blk < w.heap.size := by
  obtain ⟨l', hl', hbr⟩ := hR.at_ i b hb
  rw [hl] at hl'; injection hl' with hl'; subst hl'
  cases b with
  | cells cs e z f => obtain ⟨-, arr, vs, spare, ⟨fr, h1, -⟩, -⟩ := hbr; exact (Array.getElem?_eq_some_iff.1 h1).1
  | view cs => exact Nat.lt_of_lt_of_le (hR.view i cs l hb hl) hR.size
  | mp es c => obtain ⟨arr, h1, -⟩ := hbr; exact (Array.getElem?_eq_some_iff.1 h1).1
theorem push_old {o : Obj} (hh : w1.heap = w.heap.push o) {k : Nat} (hk : k < w.heap.size) : w1.heap[k]? = w.heap[k]? := by
  rw [hh, Array.getElem?_push, if_neg (by omega)]
theorem push_new {o : Obj} (hh : w1.heap = w.heap.push o) : w1.heap[w.heap.size]? = some o := by
  rw [hh, Array.getElem?_push, if_pos rfl]
/-- A new block. -/
theorem Step.new_ (hR : Rel B μ H w) (hμ : μ nx = none) {b : Bk} (hb : OwnB b) {l : Loc} (hl : l.blk = w.heap.size) {o : Obj} (hh : w1.heap = w.heap.push o) (h1 : w1.os = w.os) (h2 : w1.tape = w.tape) (h3 : w1.output = w.output)
    (hbr : BR (upd μ nx l) b l w1) : Step B μ H nx w (upd μ nx l) (updH H nx b) (K.succ nx) w1 where
  ext := MLe.upd hμ l
  new i m e := by
    unfold upd at e
    split at e
    · rename_i e'; subst e'
      exact .inr ⟨Nat.le_refl _, by rw [K.val_succ]; omega⟩
    · exact .inl e
  rel := by
    have hsz : w1.heap.size = w.heap.size + 1 := by rw [hh, Array.size_push]
    refine ⟨fun i c hc => ?_, fun i c m hc ho hm => ?_, fun i cs m hc hm => ?_, fun i j c d m n hc hd oc od hm hn e => ?_, ?_⟩
    · unfold updH at hc
      split at hc
      · rename_i e; subst e
        injection hc with hc; subst hc
        exact ⟨l, upd_same μ i l, hbr⟩
      · obtain ⟨m, hm, hbr'⟩ := hR.at_ i c hc
        exact ⟨m, MLe.upd hμ l i m hm, (hbr'.mono (MLe.upd hμ l)).same (push_old hh (hR.lt hc hm))⟩
    · unfold updH at hc; unfold upd at hm
      split at hc
      · rename_i e; rw [if_pos e] at hm; injection hm with hm; subst hm; rw [hl]; exact hR.size
      · rename_i e; rw [if_neg e] at hm; exact hR.own i c m hc ho hm
    · unfold updH at hc; unfold upd at hm
      split at hc
      · injection hc with hc; subst hc; exact hb.elim
      · rename_i e; rw [if_neg e] at hm; exact hR.view i cs m hc hm
    · unfold updH at hc hd; unfold upd at hm hn
      split at hc
      · rename_i ei
        rw [if_pos ei] at hm; injection hm with hm; subst hm
        split at hd
        · rename_i ej; rw [ei, ej]
        · rename_i ej; rw [if_neg ej] at hn
          have := hR.lt hd hn
          omega
      · rename_i ei
        rw [if_neg ei] at hm
        split at hd
        · rename_i ej
          rw [if_pos ej] at hn; injection hn with hn; subst hn
          have := hR.lt hc hm
          omega
        · rename_i ej; rw [if_neg ej] at hn
          exact hR.inj i j c d m n hc hd oc od hm hn e
    · rw [hsz]; exact Nat.le_succ_of_le hR.size
  owned k := by
    rintro ⟨i, c, m, hc, ho, hm, rfl⟩
    unfold updH at hc; unfold upd at hm
    split at hc
    · rename_i e; rw [if_pos e] at hm; injection hm with hm; subst hm; exact .inr (by omega)
    · rename_i e; rw [if_neg e] at hm; exact .inl ⟨i, c, m, hc, ho, hm, rfl⟩
  frame k hk _ := push_old hh hk
  size := by rw [hh, Array.size_push]; omega
  os := h1
  tape := h2
  output := h3
  nxle := by rw [K.val_succ]; omega
/-- A block is changed where it lies. -/
theorem Step.set_ (hR : Rel B μ H w) {i : K} {b b' : Bk} {l : Loc} (hi : H i = some b) (hb : OwnB b) (hb' : OwnB b') (hl : μ i = some l) (hsz : w1.heap.size = w.heap.size) (hh : ∀ k, k ≠ l.blk → w1.heap[k]? = w.heap[k]?) (h1 : w1.os = w.os) (h2 : w1.tape = w.tape) (h3 : w1.output = w.output)
    (hbr : BR μ b' l w1) : Step B μ H nx w μ (updH H i b') nx w1 where
  ext := MLe.refl μ
  new _ _ e := .inl e
  rel := by
    refine ⟨fun j c hc => ?_, fun j c m hc ho hm => ?_, fun j cs m hc hm => ?_, fun j j' c d m n hc hd oc od hm hn e => ?_, by rw [hsz]; exact hR.size⟩
    · unfold updH at hc
      split at hc
      · rename_i e; subst e
        injection hc with hc; subst hc
        exact ⟨l, hl, hbr⟩
      · rename_i e
        obtain ⟨m, hm, hbr'⟩ := hR.at_ j c hc
        refine ⟨m, hm, hbr'.same (hh _ fun e' => ?_)⟩
        by_cases oc : OwnB c
        · exact e (hR.inj j i c b m l hc hi oc hb hm hl e')
        · cases c with
          | view cs =>
            have := hR.view j cs m hc hm
            have := hR.own i b l hi hb hl
            omega
          | cells _ _ _ _ => exact oc trivial
          | mp _ _ => exact oc trivial
    · unfold updH at hc
      split at hc
      · rename_i e; subst e; rw [hl] at hm; injection hm with hm; subst hm; exact hR.own j b l hi hb hl
      · exact hR.own j c m hc ho hm
    · unfold updH at hc
      split at hc
      · injection hc with hc; subst hc; exact hb'.elim
      · exact hR.view j cs m hc hm
    · have q : ∀ j c m, updH H i b' j = some c → OwnB c → μ j = some m → ∃ c', H j = some c' ∧ OwnB c' := by
        intro j c m hc oc hm
        unfold updH at hc
        split at hc
        · rename_i e; subst e; exact ⟨b, hi, hb⟩
        · exact ⟨c, hc, oc⟩
      obtain ⟨c', hc', oc'⟩ := q j c m hc oc hm
      obtain ⟨d', hd', od'⟩ := q j' d n hd od hn
      exact hR.inj j j' c' d' m n hc' hd' oc' od' hm hn e
  owned k := by
    rintro ⟨j, c, m, hc, ho, hm, rfl⟩
    unfold updH at hc
    split at hc
    · rename_i e; subst e; exact .inl ⟨j, b, m, hi, hb, hm, rfl⟩
    · exact .inl ⟨j, c, m, hc, ho, hm, rfl⟩
  frame k _ hn := hh k fun e => hn ⟨i, b, l, hi, hb, hl, e.symm⟩
  size := Nat.le_of_eq hsz.symm
  os := h1
  tape := h2
  output := h3
  nxle := Nat.le_refl _

/-! ### alloc, box -/
/-- What an operation that makes, or writes, comes to. -/
def Goes (P : Program) (B : Nat) (μ : K → Option Loc) (s : St) (w : World) (m : Sem Value) (v : AV) (s' : St) : Prop :=
  ∃ μ' c w', m.run P w = .ok c w' ∧ conc μ' v = some c ∧ Step B μ (T.get s.hp) s.nx w μ' (T.get s'.hp) s'.nx w'
theorem newRow_goes {s : St} (hR : Rel B μ (T.get s.hp) w) (hf : μ s.nx = none) {l : List AV} {vs : List Value} (hl : concL μ l = some vs) (e z cap : Nat) (f : Bool) (hz : vs.length = cap * z) :
    ∃ μ' w', (newRow e vs.toArray).run P w = .ok ⟨w.heap.size, 0, none⟩ w' ∧ μ' s.nx = some ⟨w.heap.size, 0, cap⟩ ∧ Step B μ (T.get s.hp) s.nx w μ' (T.get (newB s (.cells l e z f)).hp) (newB s (.cells l e z f)).nx w' := by
  refine ⟨upd μ s.nx ⟨w.heap.size, 0, cap⟩, { w with heap := w.heap.push (.cells vs.toArray e) }, by simp [newRow], upd_same _ _ _, ?_⟩
  rw [show (newB s (.cells l e z f)).hp = T.set s.hp s.nx (.cells l e z f) from rfl, get_set']
  refine Step.new_ hR hf (b := .cells l e z f) trivial rfl (o := .cells vs.toArray e) rfl rfl rfl rfl ⟨rfl, vs.toArray, vs, [], ⟨_, push_new rfl, FrOk.zero _⟩, concL_mono (MLe.upd hf _) _ _ hl, by simp, fun _ => rfl, by simpa using hz⟩
theorem ptr_new {μ' : K → Option Loc} {i : K} {k c : Nat} (h : μ' i = some ⟨k, 0, c⟩) : conc μ' (.ptr (some (i, 0))) = some (.pointer (some ⟨k, 0, none⟩)) := by
  show (μ' i).map (fun l => Value.pointer (some (ptrV l 0))) = _
  rw [h]; rfl
theorem opAlloc_goes {s s' : St} (hR : Rel B μ (T.get s.hp) w) (hf : K.succ s.nx = s'.nx → μ s.nx = none) {t : TypeId} {v : AV} (h : opAlloc P t s = some (v, s')) : Goes P B μ s w (Instr.alloc t true (.tuple #[])) v s' := by
  unfold opAlloc at h
  split at h
  · rename_i z hz
    injection h with h; injection h with h1 h2; subst h1; subst h2
    obtain ⟨i, c, hi, hc, hconc⟩ := zeroA_conc hz
    have hp := parts_conc (hconc μ)
    have hlen := concL_length _ _ hp
    obtain ⟨μ', w', hrun, hμ', hst⟩ := newRow_goes (P := P) hR (hf rfl) hp t (lenL z.parts) 1 true (by rw [lenL_eq, hlen]; omega)
    refine ⟨μ', _, w', ?_, ptr_new hμ', hst⟩
    have hrun : (newRow t c.cells).run P w = .ok ⟨w.heap.size, 0, none⟩ w' := by simpa using hrun
    simp [Instr.alloc, zeroValue, typeInfo, hi, hc, newVar, hrun]
  · cases h
theorem opBox_goes {s s' : St} (hR : Rel B μ (T.get s.hp) w) (hf : K.succ s.nx = s'.nx → μ s.nx = none) {t : TypeId} {x : Option AV} {v : AV} (h : opBox t x s = some (v, s')) : ∃ u, x = some u ∧ ∀ c, conc μ u = some c → Goes P B μ s w (Instr.box t c) v s' := by
  unfold opBox at h
  split at h
  · rename_i u
    injection h with h; injection h with h1 h2; subst h1; subst h2
    refine ⟨u, rfl, fun c hc => ?_⟩
    have hp := parts_conc hc
    have hlen := concL_length _ _ hp
    obtain ⟨μ', w', hrun, hμ', hst⟩ := newRow_goes (P := P) hR (hf rfl) hp t (lenL u.parts) 1 true (by rw [lenL_eq, hlen]; omega)
    refine ⟨μ', _, w', ?_, ptr_new hμ', hst⟩
    have hrun : (newRow t c.cells).run P w = .ok ⟨w.heap.size, 0, none⟩ w' := by simpa using hrun
    simp [Instr.box, newVar, hrun]
  · cases h

/-! ### rows -/
theorem repL_length {α : Type} (l : List α) : ∀ n, (repL n l).length = n * l.length
  | 0 => by simp [repL]
  | n + 1 => by simp [repL, repL_length l n, Nat.succ_mul, Nat.add_comm]
theorem repL_get {α : Type} (l : List α) : ∀ (n j : Nat), j < n * l.length → (repL n l)[j]? = l[j % l.length]?
  | 0, j, h => by simp at h
  | n + 1, j, h => by
    simp only [repL]
    by_cases hj : j < l.length
    · rw [List.getElem?_append_left hj, Nat.mod_eq_of_lt hj]
    · rw [List.getElem?_append_right (by omega), repL_get l n (j - l.length) (by rw [Nat.succ_mul] at h; omega)]
      congr 1
      rw [Nat.mod_eq_sub_mod (by omega : l.length ≤ j)]
theorem range_rep (z : Array Value) (n : Nat) (hz : 0 < z.size) : ((Array.range (n * z.size)).map (fun i => z[i % z.size]!)).toList = repL n z.toList := by
  apply List.ext_getElem?
  intro j
  by_cases hj : j < n * z.size
  · rw [repL_get _ _ _ (by simpa using hj)]
    have hm := Nat.mod_lt j hz
    simp [hj, hm]
  · rw [List.getElem?_eq_none (by simp; omega), List.getElem?_eq_none (by rw [repL_length]; simp; omega)]
theorem concL_rep {l : List AV} {vs : List Value} (h : concL μ l = some vs) : ∀ n, concL μ (repL n l) = some (repL n vs)
  | 0 => rfl
  | n + 1 => concL_append _ _ _ _ h (concL_rep h n)
theorem opBuildSlice_goes {s s' : St} (hR : Rel B μ (T.get s.hp) w) (hf : K.succ s.nx = s'.nx → μ s.nx = none) {t : TypeId} {len : Nat} {parts : Option (List (Nat × AV))} {v : AV} (h : opBuildSlice P t len parts s = some (v, s')) :
    ∃ ps, parts = some ps ∧ ∀ qs : Array (Nat × Value), PartsR μ ps qs.toList → Goes P B μ s w (Instr.buildSlice t len qs) v s' := by
  unfold opBuildSlice at h
  split at h
  · rename_i ps e hu
    refine ⟨ps, rfl, fun qs hq => ?_⟩
    split at h
    · rename_i n z hn hz
      split at h
      · rename_i hc
        split at h
        · rename_i cs hfill
          injection h with h; injection h with h1 h2; subst h1; subst h2
          obtain ⟨i, c, hi, hzc, hconc⟩ := zeroA_conc hz
          have hp := parts_conc (hconc μ)
          have hpl := concL_length _ _ hp
          have hzs : c.cells.size = n := by rw [← Array.length_toList, hpl]; exact hc.2.1
          obtain ⟨us, hu1, hu2⟩ := fillA_fill ps _ cs _ qs.toList hfill (concL_rep hp len) hq
          have hul : us.length = len * n := by
            have e1 := concL_length _ _ hu1
            have : ∀ (ps : List (Nat × AV)) (a r : List AV), fillA (fun i => some (i * n, n)) a ps = some r → r.length = a.length := by
              intro ps
              induction ps with
              | nil => intro a r h; injection (show some a = some r from h) with h; rw [h]
              | cons p ps ih =>
                intro a r h
                obtain ⟨i, v⟩ := p
                simp only [fillA] at h
                split at h
                · rename_i a' _ hs
                  rw [ih _ _ h]
                  obtain ⟨s1, s2⟩ := setLs_eq _ _ _ _ hs
                  rw [s1]; simp; omega
                · cases h
            rw [e1, this _ _ _ hfill, repL_length, hc.2.1]
          obtain ⟨μ', w', hrun, hμ', hst⟩ := newRow_goes (P := P) hR (hf rfl) hu1 e n len true hul
          refine ⟨μ', .slice (some ⟨w.heap.size, 0, none⟩) len len, w', ?_, ?_, hst⟩
          · have hs := tsize_run (P := P) hn w
            have hle : ¬ len * n > 2 ^ 24 := by have := hc.1; omega
            have hzr : ((Array.range (len * n)).map (fun i => c.cells[i % c.cells.size]!)) = (repL len c.cells.toList).toArray := by
              have := range_rep c.cells len (by rw [hzs]; exact hc.2.2)
              rw [hzs] at this
              rw [hzs, ← this]
            by_cases h0 : len * n = 0
            · have hlen0 : len = 0 := by
                rcases Nat.mul_eq_zero.1 h0 with h | h
                · exact h
                · have := hc.2.2; omega
              subst hlen0
              have hul0 : us = [] := by simpa using hul
              subst hul0
              simp [repL] at hu2
              simp [Instr.buildSlice, run_underlying hu, hs, show Array.range 0 = #[] from rfl, hu2, hrun]
            · simp [Instr.buildSlice, run_underlying hu, hs, h0, zeroValue, typeInfo, hi, hzc]
              rw [if_neg (by omega)]
              simp only [hzr, hu2]
              simp [hrun]
          · exact conc_slice_mk (l := ⟨w.heap.size, 0, len⟩) hμ' (Nat.le_refl _)
        · cases h
      · cases h
    · cases h
  · cases h
theorem opMakeSlice_goes {s s' : St} (hR : Rel B μ (T.get s.hp) w) (hf : K.succ s.nx = s'.nx → μ s.nx = none) {t : TypeId} {len cap : Option AV} {v : AV} (h : opMakeSlice P t len cap s = some (v, s')) :
    ∃ u i, len = some u ∧ cap = some i ∧ ∀ c d, conc μ u = some c → conc μ i = some d → Goes P B μ s w (Instr.makeSlice t c d) v s' := by
  unfold opMakeSlice at h
  split at h
  · rename_i e kl l kc c hu
    refine ⟨_, _, rfl, rfl, fun x y hx hy => ?_⟩
    rw [conc_int hx, conc_int hy]
    split at h
    · rename_i inf z hinf hz
      split at h
      · rename_i hc
        injection h with h; injection h with h1 h2; subst h1; subst h2
        obtain ⟨c0, c1, c2, c3, c4, c5⟩ := hc
        obtain ⟨i, zc, hi, hzc, hconc⟩ := zeroA_conc hz
        rw [hinf] at hi; injection hi with hi; subst hi
        have hp := parts_conc (hconc μ)
        have hpl := concL_length _ _ hp
        have hzs : zc.cells.size = inf.size := by rw [← Array.length_toList, hpl]; exact c4
        obtain ⟨μ', w', hrun, hμ', hst⟩ := newRow_goes (P := P) hR (hf rfl) (concL_rep hp c.toNat) e inf.size c.toNat true (by rw [repL_length, Array.length_toList, hzs])
        refine ⟨μ', .slice (some ⟨w.heap.size, 0, none⟩) l.toNat c.toNat, w', ?_, conc_slice_mk (l := ⟨w.heap.size, 0, c.toNat⟩) hμ' (show l.toNat ≤ c.toNat by omega), hst⟩
        have wl : IntKind.i64.wrap l = l := wrap_in .i64 l (by simp [isSig, lim]; omega) (by simp [lim]; omega)
        have wc : IntKind.i64.wrap c = c := wrap_in .i64 c (by simp [isSig, lim]; omega) (by simp [lim]; omega)
        have g1 : ¬ c < 0 := by omega
        have g2 : ¬ (inf.bytes : Int) * c > 2 ^ 48 := by omega
        have g3 : ¬ l < 0 := by omega
        have g4 : ¬ l > c := by omega
        have hzr : ((Array.range (c.toNat * inf.size)).map (fun i => zc.cells[i % zc.cells.size]!)) = (repL c.toNat zc.cells.toList).toArray := by
          have := range_rep zc.cells c.toNat (by rw [hzs]; exact c5)
          rw [hzs] at this
          rw [hzs, ← this]
        have hrun : (newRow e (repL c.toNat zc.cells.toList).toArray).run P w = .ok ⟨w.heap.size, 0, none⟩ w' := hrun
        have hs : (sizeOf e).run P w = .ok inf.size w := by simp [sizeOf, typeInfo, hinf]
        have hsz0 : inf.size ≠ 0 := by omega
        by_cases hn0 : c.toNat = 0
        · have hrun0 : (newRow e #[]).run P w = .ok ⟨w.heap.size, 0, none⟩ w' := by rw [hn0] at hrun; exact hrun
          have g5 : (decide (c < 0) || decide ((inf.bytes : Int) * c > 2 ^ 48) || decide (l < 0) || decide (l > c)) = false := by simp; omega
          simp only [Instr.makeSlice, Sem.run_bind, run_underlying hu, Result.andThen_ok, Go.asInt, Go.asIntOf, Sem.run_pure, typeInfo, run_program, hinf, wl, wc, g5, Bool.false_eq_true, if_false, run_askRoom, hs, hn0, Nat.zero_mul, if_true]
          simp [show Array.range 0 = #[] from rfl, hrun0]
        · have g5 : (decide (c < 0) || decide ((inf.bytes : Int) * c > 2 ^ 48) || decide (l < 0) || decide (l > c)) = false := by simp; omega
          have hnz : ¬ c.toNat * inf.size = 0 := by intro e; rcases Nat.mul_eq_zero.1 e with h | h <;> omega
          simp only [Instr.makeSlice, Sem.run_bind, run_underlying hu, Result.andThen_ok, Go.asInt, Go.asIntOf, Sem.run_pure, typeInfo, run_program, hinf, wl, wc, g5, Bool.false_eq_true, if_false, run_askRoom, hs, hnz, zeroValue, hzc, hzr]
          simp [hrun]
      · cases h
    · cases h
  · cases h
theorem opMkMap_goes {r : Option Operand} {s s' : St} (hR : Rel B μ (T.get s.hp) w) (hf : K.succ s.nx = s'.nx → μ s.nx = none) {t : TypeId} {v : AV} (h : opMkMap r s = .ret v s') : r = none ∧ Goes P B μ s w (Instr.makeMap t none) v s' := by
  unfold opMkMap at h
  split at h
  · injection h with h1 h2; subst h1; subst h2
    refine ⟨rfl, upd μ s.nx ⟨w.heap.size, 0, 0⟩, .map (some w.heap.size), { w with heap := w.heap.push (.map #[] 0) }, by simp [Instr.makeMap], ?_, ?_⟩
    · show (upd μ s.nx ⟨w.heap.size, 0, 0⟩ s.nx).map (fun l => Value.map (some l.blk)) = _
      rw [upd_same]; rfl
    · rw [show (newB s (.mp [] 0)).hp = T.set s.hp s.nx (.mp [] 0) from rfl, get_set']
      exact Step.new_ hR (hf rfl) (b := .mp [] 0) trivial rfl (o := .map #[] 0) rfl rfl rfl rfl ⟨#[], push_new rfl, rfl⟩
  · cases h

/-! ### stores -/
theorem setCells_heap (b : Nat) {fr : Nat × Nat} : ∀ (vs : List Value) (o : Nat) (w : World) (arr : Array Value) (e : TypeId), w.heap[b]? = some (.cells arr e fr) → o + vs.length ≤ arr.size →
    (w.setCells b o vs).heap[b]? = some (.cells (arr.toList.take o ++ vs ++ arr.toList.drop (o + vs.length)).toArray e fr)
  | [], o, w, arr, e, h, _ => by simpa [World.setCells] using h
  | v :: vs, o, w, arr, e, h, hl => by
    simp only [List.length_cons] at hl
    have h1 : (w.setCell ⟨b, o, none⟩ v).heap[b]? = some (.cells (arr.setIfInBounds o v) e fr) := by
      simp only [World.setCell, Array.getElem?_modify, if_true, h, Option.map_some, Option.isSome_none, Bool.false_eq_true, if_false]
    have := setCells_heap b vs (o + 1) (w.setCell ⟨b, o, none⟩ v) (arr.setIfInBounds o v) e h1 (by rw [Array.size_setIfInBounds]; omega)
    simp only [World.setCells]
    rw [this]
    congr 2
    have hlt : o < arr.toList.length := by rw [Array.length_toList]; omega
    have e1 : (arr.toList.set o v).take (o + 1) = arr.toList.take o ++ [v] := by
      rw [List.take_succ_eq_append_getElem (by simpa using hlt), List.take_set_of_le (Nat.le_refl _)]
      simp
    have e2 : (arr.toList.set o v).drop (o + 1 + vs.length) = arr.toList.drop (o + (vs.length + 1)) := by
      rw [List.drop_set_of_lt (by omega)]
      congr 1; omega
    simp only [Array.toList_setIfInBounds, List.length_cons, e1, e2]
    simp
theorem setCells_other (b : Nat) : ∀ (vs : List Value) (o : Nat) (w : World) (k : Nat), k ≠ b → (w.setCells b o vs).heap[k]? = w.heap[k]?
  | [], _, _, _, _ => rfl
  | v :: vs, o, w, k, h => by
    simp only [World.setCells]
    rw [setCells_other b vs (o + 1) _ k h]
    exact Go.RowKit.Below.heap_setCell w ⟨b, o, none⟩ v k h
theorem setCells_rest (b : Nat) : ∀ (vs : List Value) (o : Nat) (w : World), (w.setCells b o vs).heap.size = w.heap.size ∧ (w.setCells b o vs).os = w.os ∧ (w.setCells b o vs).tape = w.tape ∧ (w.setCells b o vs).output = w.output
  | [], _, _ => ⟨rfl, rfl, rfl, rfl⟩
  | v :: vs, o, w => by
    obtain ⟨h1, h2, h3, h4⟩ := setCells_rest b vs (o + 1) (w.setCell ⟨b, o, none⟩ v)
    simp only [World.setCells]
    exact ⟨h1.trans (by simp [World.setCell]), h2, h3, h4⟩
/-- Cells of a block of its own are written. -/
theorem cells_set {s : St} (hR : Rel B μ (T.get s.hp) w) {i : K} {cs : List AV} {e z : Nat} {f : Bool} (hb : T.get s.hp i = some (.cells cs e z f)) {l : Loc} (hl : μ i = some l) {o : Nat} {ns cs' : List AV} (hs : setLs cs o ns = some cs') {vs : List Value} (hv : concL μ ns = some vs)
    (h1 : ∀ v ∈ vs, v.oneCell' = true) : (storeCells (ptrV l o) vs).run P w = .ok () (w.setCells l.blk o vs) ∧ Step B μ (T.get s.hp) s.nx w μ (T.get (setB s i (.cells cs' e z f)).hp) (setB s i (.cells cs' e z f)).nx (w.setCells l.blk o vs) := by
  obtain ⟨l', hl', hbr⟩ := hR.at_ i _ hb
  rw [hl] at hl'; injection hl' with hl'; subst hl'
  obtain ⟨h0, arr, us, spare, ⟨fr, g1, hfr⟩, g2, g3, g4, g5⟩ := hbr
  obtain ⟨q1, q2⟩ := setLs_eq _ _ _ _ hs
  have hvl := concL_length _ _ hv
  have hul := concL_length _ _ g2
  have hsz : arr.size = us.length + spare.length := by rw [← Array.length_toList, g3, List.length_append]
  have hle : o + vs.length ≤ us.length := by omega
  constructor
  · have e0 : ptrV l o = ⟨l.blk, o, none⟩ := by rw [ptrV_eq, h0, Nat.zero_add]
    rw [e0]
    have := run_storeCells_cells (P := P) l.blk o vs 0 w (fun j hj => by
        rw [heap_cell (a := ⟨l.blk, o + 0 + j, none⟩) g1 rfl]
        rw [Array.getElem?_eq_getElem (by show o + 0 + j < arr.size; omega)]; rfl) (fun j _ => hfr.frozen g1 (by omega)) h1
    simpa using this
  · obtain ⟨r1, r2, r3, r4⟩ := setCells_rest l.blk vs o w
    rw [show (setB s i (.cells cs' e z f)).hp = T.set s.hp i (.cells cs' e z f) from rfl, get_set']
    refine Step.set_ hR hb trivial (b' := .cells cs' e z f) trivial hl r1 (fun k hk => setCells_other _ _ _ _ _ hk) r2 r3 r4 ⟨h0, _, us.take o ++ vs ++ us.drop (o + vs.length), spare, ⟨fr, setCells_heap l.blk vs o w arr e g1 (by omega), ?_⟩, ?_, ?_, g4, ?_⟩
    · have : (arr.toList.take o ++ vs ++ arr.toList.drop (o + vs.length)).toArray.size = arr.size := by
        simp only [List.size_toArray, List.length_append, List.length_take, List.length_drop, Array.length_toList]
        omega
      rw [this]; exact hfr
    · rw [q1, ← hvl]
      exact concL_append _ _ _ _ (concL_append _ _ _ _ (concL_take _ _ _ g2) hv) (concL_drop _ _ _ g2)
    · simp only [g3]
      rw [List.take_append_of_le_length (by omega), List.drop_append_of_le_length (by omega)]
      simp
    · rw [← g5]
      simp only [List.size_toArray, List.length_append, List.length_take, List.length_drop, Array.length_toList]
      omega
theorem opStore_goes {s s' : St} (hR : Rel B μ (T.get s.hp) w) {t : TypeId} {a x : Option AV} (h : opStore P t a x s = some s') :
    ∃ p u, a = some p ∧ x = some u ∧ ∀ c d, conc μ p = some c → conc μ u = some d → ∃ w', (Instr.storeAt t c d).run P w = .ok () w' ∧ Step B μ (T.get s.hp) s.nx w μ (T.get s'.hp) s'.nx w' := by
  unfold opStore at h
  split at h
  · rename_i i o u
    refine ⟨_, _, rfl, rfl, fun c d hc hd => ?_⟩
    obtain ⟨l, hl, rfl⟩ := conc_ptr hc
    split at h
    · rename_i cs e z f hb
      split at h
      · rename_i n hn
        split at h
        · rename_i hlen hleaf
          split at h
          · rename_i cs' hs
            injection h with h; subst h
            have hp := parts_conc hd
            have hpl := concL_length _ _ hp
            obtain ⟨g1, g2⟩ := cells_set (P := P) hR hb hl hs hp (allLeaf_conc _ _ hleaf hp)
            refine ⟨_, ?_, g2⟩
            have hsz : d.cells.size = n := by rw [← Array.length_toList, hpl, ← lenL_eq]; exact Nat.beq_eq.mp hlen
            have hrs := tsize_run (P := P) hn w
            simp [Instr.storeAt, Instr.sureAddr, storeVar, hrs, hsz, g1]
          · cases h
        · cases h
      · cases h
    · cases h
  · cases h
end Go.Proofs.Ythkkphkeonnnfaa.Abs
