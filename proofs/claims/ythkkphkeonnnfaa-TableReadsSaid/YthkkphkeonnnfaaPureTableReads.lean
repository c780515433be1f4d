/- Instructions read just the fields and registers that they name: the plain law. No condition but those that each theorem names. -/
import Derived.Test.YthkkphkeonnnfaaHReadsx3
namespace Go.Proofs.Ythkkphkeonnnfaa.PureTR
open Go Go.RowKit Go.Proofs.Ythkkphkeonnnfaa.HReads Go.Proofs.YthkkphkeonnnfaaW.PrintWords Go.Proofs.YthkkphkeonnnfaaW.PrintLast Go.Proofs.YthkkphkeonnnfaaW.PrintMore
set_option linter.unusedSimpArgs false
theorem w64 {x : Int} (h : 0 ≤ x) (h2 : x ≤ 9223372036854775807) : wrap64 x = x := by
  simp only [wrap64]; omega
/-- Both readings go alike. -/
theorem reads_alike (name : ByteArray) (regs : List Int) (slots : Int) (consts : List Int) (code : List S54) (states : List (List S57)) (lo en hi lo' : Int) (hhi : hi = mn en (code.length : Int)) (hlen : (code.length : Int) ≤ 9223372036854775807) : ∀ (d : Nat) (i : Int), 0 ≤ i → hi - i ≤ d →
    ∃ k, ∀ m r, ∃ v, (∀ j, k ≤ j → table_Reads.l0 j m r i name regs slots consts code states lo en = some v) ∧ ∀ j, k ≤ j → tripwireref18_Reads.l0 j code m r i lo' hi = some v := by
  have hle : hi ≤ code.length := by rw [hhi]; unfold mn; split <;> omega
  have stop : ∀ i, ¬ i < hi → ∃ k, ∀ m r, ∃ v, (∀ j, k ≤ j → table_Reads.l0 j m r i name regs slots consts code states lo en = some v) ∧ ∀ j, k ≤ j → tripwireref18_Reads.l0 j code m r i lo' hi = some v := fun i hi' => by
    refine ⟨1, fun m r => ⟨(m, r), fun j hj => ?_, fun j hj => ?_⟩⟩
    · obtain ⟨j, rfl⟩ : ∃ j', j = j' + 1 := ⟨j - 1, by omega⟩
      simp only [table_Reads.l0]
      rw [← hhi, if_neg hi']
    · obtain ⟨j, rfl⟩ : ∃ j', j = j' + 1 := ⟨j - 1, by omega⟩
      simp only [tripwireref18_Reads.l0]
      rw [if_neg hi']
  intro d
  induction d with
  | zero => exact fun i h0 hd => stop i (by omega)
  | succ d ih =>
    intro i h0 hd
    by_cases hi' : i < hi
    · obtain ⟨k, hk⟩ := ih (i + 1) (by omega) (by omega)
      have hw : wrap64 (i + 1) = i + 1 := w64 (by omega) (by omega)
      have hil : i < (code.length : Int) := by omega
      refine ⟨k + 3, fun m r => ?_⟩
      have go : ∀ m' r', (∀ j, k ≤ j → table_Reads.l0 (j + 3) m r i name regs slots consts code states lo en = table_Reads.l0 (j + 1) m' r' (i + 1) name regs slots consts code states lo en ∨ table_Reads.l0 (j + 3) m r i name regs slots consts code states lo en = table_Reads.l0 j m' r' (i + 1) name regs slots consts code states lo en) →
          (∀ j, k ≤ j → tripwireref18_Reads.l0 (j + 3) code m r i lo' hi = tripwireref18_Reads.l0 (j + 1) code m' r' (i + 1) lo' hi) →
          ∃ v, (∀ j, k + 3 ≤ j → table_Reads.l0 j m r i name regs slots consts code states lo en = some v) ∧ ∀ j, k + 3 ≤ j → tripwireref18_Reads.l0 j code m r i lo' hi = some v := fun m' r' h1 h2 => by
        obtain ⟨v, v1, v2⟩ := hk m' r'
        refine ⟨v, fun j hj => ?_, fun j hj => ?_⟩
        · obtain ⟨j, rfl⟩ : ∃ j', j = j' + 3 := ⟨j - 3, by omega⟩
          rcases h1 j (by omega) with h | h <;> rw [h] <;> exact v1 _ (by omega)
        · obtain ⟨j, rfl⟩ : ∃ j', j = j' + 3 := ⟨j - 3, by omega⟩
          rw [h2 j (by omega)]
          exact v2 _ (by omega)
      have ht : ∀ j, table_Reads.l0 (j + 3) m r i name regs slots consts code states lo en = (if (rd_T54 code i).f1 < 0 then table_Reads.j1 (j + 2) m r i true name regs slots consts code states lo en ((rd_T54 code i).f0) ((rd_T54 code i).f1) else table_Reads.j1 (j + 2) m r i (decide ((rd_T54 code i).f1 > 15)) name regs slots consts code states lo en ((rd_T54 code i).f0) ((rd_T54 code i).f1)) := fun j => by
        simp only [table_Reads.l0]
        rw [← hhi, if_pos hi', if_pos h0, if_pos hil]
      have hr : ∀ j, tripwireref18_Reads.l0 (j + 3) code m r i lo' hi = (if (rd_T54 code i).f0 = 2 then tripwireref18_Reads.j1 (j + 2) code m r i ((rd_T54 code i).f1) ((rd_T54 code i).f0) ((rd_T54 code i).f0 == 2) lo' hi else tripwireref18_Reads.j1 (j + 2) code m r i ((rd_T54 code i).f1) ((rd_T54 code i).f0) ((rd_T54 code i).f0 == 3) lo' hi) := fun j => by
        simp only [tripwireref18_Reads.l0]
        rw [if_pos hi', if_pos h0, if_pos hil]
      generalize (rd_T54 code i).f0 = c at ht hr
      generalize (rd_T54 code i).f1 = A at ht hr
      have hrj : ∀ j b, tripwireref18_Reads.j1 (j + 2) code m r i A c b lo' hi = if b = true then (if 0 ≤ A ∧ A < 16 then tripwireref18_Reads.l0 (j + 1) code (Go.bits .or .u16 m (shl .u16 1 A)) r (i + 1) lo' hi else tripwireref18_Reads.l0 (j + 1) code m r (i + 1) lo' hi) else if c = 4 then (if 0 ≤ A ∧ A < 16 then tripwireref18_Reads.l0 (j + 1) code m (Go.bits .or .u16 r (shl .u16 1 A)) (i + 1) lo' hi else tripwireref18_Reads.l0 (j + 1) code m r (i + 1) lo' hi) else tripwireref18_Reads.l0 (j + 1) code m r (i + 1) lo' hi := fun j b => by
        simp only [tripwireref18_Reads.j1, hw]
        by_cases q1 : 0 ≤ A <;> by_cases q2 : A < 16 <;> simp [q1, q2]
      have htj : ∀ j b, table_Reads.j1 (j + 2) m r i b name regs slots consts code states lo en c A = if b = true then table_Reads.l0 (j + 1) m r (i + 1) name regs slots consts code states lo en else if c = 2 ∨ c = 3 then (if 0 ≤ A then table_Reads.l0 j (Go.bits .or .u16 m (shl .u16 1 A)) r (i + 1) name regs slots consts code states lo en else none) else if c = 4 then (if 0 ≤ A then table_Reads.l0 j m (Go.bits .or .u16 r (shl .u16 1 A)) (i + 1) name regs slots consts code states lo en else none) else table_Reads.l0 j m r (i + 1) name regs slots consts code states lo en := fun j b => by
        simp only [table_Reads.j1, table_Reads.j2, hw]
        by_cases q1 : c = 2
        · simp [q1]
        · by_cases q2 : c = 3 <;> simp [q1, q2]
      by_cases ha : 0 ≤ A ∧ A < 16
      · have hn : ¬ A < 0 := by omega
        have hg : decide (A > 15) = false := by simp; omega
        by_cases c2 : c = 2 ∨ c = 3
        · refine go (Go.bits .or .u16 m (shl .u16 1 A)) r (fun j _ => .inr ?_) (fun j _ => ?_)
          · rw [ht, if_neg hn, hg, htj, if_neg (by simp), if_pos c2, if_pos ha.1]
          · rw [hr, hrj, hrj]
            rcases c2 with c2 | c2 <;> simp [c2, ha]
        · by_cases c4 : c = 4
          · refine go m (Go.bits .or .u16 r (shl .u16 1 A)) (fun j _ => .inr ?_) (fun j _ => ?_)
            · rw [ht, if_neg hn, hg, htj, if_neg (by simp), if_neg c2, if_pos c4, if_pos ha.1]
            · rw [hr, hrj, hrj]
              simp [c4, ha]
          · refine go m r (fun j _ => .inr ?_) (fun j _ => ?_)
            · rw [ht, if_neg hn, hg, htj, if_neg (by simp), if_neg c2, if_neg c4]
            · rw [hr, hrj, hrj]
              have h2 : c ≠ 2 := fun e => c2 (.inl e)
              have h3 : c ≠ 3 := fun e => c2 (.inr e)
              simp [h2, h3, c4]
      · refine go m r (fun j _ => .inl ?_) (fun j _ => ?_)
        · rw [ht, htj, htj]
          by_cases hn : A < 0
          · rw [if_pos hn, if_pos rfl]
          · rw [if_neg hn, if_pos (by simp; omega)]
        · rw [hr, hrj, hrj]
          simp [ha]
    · exact stop i hi'
theorem weigh_runs (name : ByteArray) (regs : List Int) (slots : Int) (consts : List Int) (code : List S54) (states : List (List S57)) (hlen : (states.length : Int) ≤ 9223372036854775807) (hlen2 : ∀ l ∈ states, (l.length : Int) ≤ 9223372036854775807) : ∀ (d : Nat) (x4 : Int), 0 ≤ x4 → (states.length : Int) - x4 ≤ d →
    ∀ x3, ∃ k v, ∀ j, k ≤ j → tripwireref00_WeighTable.l0 j x3 x4 name regs slots consts code states = some v := by
  have stop : ∀ x4 x3, ¬ x4 < (states.length : Int) → ∃ k v, ∀ j, k ≤ j → tripwireref00_WeighTable.l0 j x3 x4 name regs slots consts code states = some v := fun x4 x3 h => by
    refine ⟨2, x3, fun j hj => ?_⟩
    obtain ⟨j, rfl⟩ : ∃ j', j = j' + 2 := ⟨j - 2, by omega⟩
    simp only [tripwireref00_WeighTable.l0, tripwireref00_WeighTable.j1]
    rw [if_neg h, if_neg (by simp)]
  intro d
  induction d with
  | zero => exact fun x4 h0 hd x3 => stop x4 x3 (by omega)
  | succ d ih =>
    intro x4 h0 hd x3
    by_cases h4 : x4 < (states.length : Int)
    · have hw : wrap64 (x4 + 1) = x4 + 1 := w64 (by omega) (by omega)
      have hn : ((rd_L7 states x4).length : Int) ≤ 9223372036854775807 := by
        unfold rd_L7
        have hlt : x4.toNat < states.length := by omega
        first
          | (rw [List.getD_eq_getElem?_getD, List.getElem?_eq_getElem hlt]; exact hlen2 _ (List.getElem_mem hlt))
          | (simp [List.getD_eq_getElem?_getD, List.getElem?_eq_getElem hlt]; exact hlen2 _ (List.getElem_mem hlt))
      have inner : ∀ (e : Nat) (x5 : Int), 0 ≤ x5 → ((rd_L7 states x4).length : Int) - x5 ≤ e → ∀ x3, ∃ k v, ∀ j, k ≤ j → tripwireref00_WeighTable.l1 j x3 x4 x5 name regs slots consts code states = some v := by
        have out : ∀ x5 x3, (¬ x5 < ((rd_L7 states x4).length : Int) ∨ ¬ x3 ≤ 1048576) → ∃ k v, ∀ j, k ≤ j → tripwireref00_WeighTable.l1 j x3 x4 x5 name regs slots consts code states = some v := fun x5 x3 h => by
          obtain ⟨k, v, hk⟩ := ih (x4 + 1) (by omega) (by omega) x3
          refine ⟨k + 1, v, fun j hj => ?_⟩
          obtain ⟨j, rfl⟩ : ∃ j', j = j' + 1 := ⟨j - 1, by omega⟩
          simp only [tripwireref00_WeighTable.l1, hw]
          rw [if_pos h0, if_pos h4]
          by_cases h5 : x5 < ((rd_L7 states x4).length : Int)
          · rw [if_pos h5, if_neg (h.resolve_left (fun g => g h5))]; exact hk j (by omega)
          · rw [if_neg h5]; exact hk j (by omega)
        intro e
        induction e with
        | zero => exact fun x5 g0 gd x3 => out x5 x3 (.inl (by omega))
        | succ e ie =>
          intro x5 g0 gd x3
          by_cases h5 : x5 < ((rd_L7 states x4).length : Int)
          · by_cases h3 : x3 ≤ 1048576
            · have hw5 : wrap64 (x5 + 1) = x5 + 1 := w64 (by omega) (by omega)
              obtain ⟨k, v, hk⟩ := ie (x5 + 1) (by omega) (by omega) (wrap64 ((wrap64 (x3 + 1)) + (((rd_T57 (rd_L7 states x4) x5).f3).length : Int)))
              refine ⟨k + 1, v, fun j hj => ?_⟩
              obtain ⟨j, rfl⟩ : ∃ j', j = j' + 1 := ⟨j - 1, by omega⟩
              simp only [tripwireref00_WeighTable.l1, hw5]
              rw [if_pos h0, if_pos h4, if_pos h5, if_pos h3, if_pos g0]
              exact hk j (by omega)
            · exact out x5 x3 (.inr h3)
          · exact out x5 x3 (.inl h5)
      by_cases h3 : x3 ≤ 1048576
      · obtain ⟨k, v, hk⟩ := inner (rd_L7 states x4).length 0 (by omega) (by omega) (wrap64 (x3 + 1))
        refine ⟨k + 2, v, fun j hj => ?_⟩
        obtain ⟨j, rfl⟩ : ∃ j', j = j' + 2 := ⟨j - 2, by omega⟩
        simp only [tripwireref00_WeighTable.l0, tripwireref00_WeighTable.j1]
        rw [if_pos h4, if_pos (by simp [h3])]
        exact hk j (by omega)
      · refine ⟨2, x3, fun j hj => ?_⟩
        obtain ⟨j, rfl⟩ : ∃ j', j = j' + 2 := ⟨j - 2, by omega⟩
        simp only [tripwireref00_WeighTable.l0, tripwireref00_WeighTable.j1]
        rw [if_pos h4, if_neg (by simp; omega)]
    · exact stop x4 x3 h4
/-- The law: so it answers. -/
theorem pure (name : ByteArray) (regs : List Int) (slots : Int) (consts : List Int) (code : List S54) (states : List (List S57)) (a b : Int) (hcode : (code.length : Int) ≤ 9223372036854775807) (hlen : (states.length : Int) ≤ 9223372036854775807) (hlen2 : ∀ l ∈ states, (l.length : Int) ≤ 9223372036854775807) :
    ∃ k, tripwirelaw19_TableReads.f k name regs slots consts code states a b = some true := by
  obtain ⟨k1, v1, hk1⟩ := weigh_runs name regs slots consts code states hlen hlen2 states.length 0 (by omega) (by omega) (wrap64 ((wrap64 ((wrap64 ((name.size : Int) + (regs.length : Int))) + (consts.length : Int))) + (code.length : Int)))
  have hmn : mn b (code.length : Int) = if b > (code.length : Int) then (code.length : Int) else b := rfl
  have hmx : mx a 0 = if a < 0 then 0 else a := rfl
  obtain ⟨k2, hk2⟩ := reads_alike name regs slots consts code states a b (mn b (code.length : Int)) (mx a 0) rfl hcode ((mn b (code.length : Int)).toNat + 1) (mx a 0) (by rw [hmx]; split <;> omega) (by rw [hmx]; split <;> omega)
  obtain ⟨v, e1, e2⟩ := hk2 0 0
  have hR : ∀ j, k2 ≤ j → tripwireref19_Reads.f j name regs slots consts code states a b = some v := fun j hj => by
    have := e2 j hj
    rw [hmn, hmx] at this
    unfold tripwireref19_Reads.f
    simp only [tripwireref18_Reads.f]
    by_cases h1 : a < 0 <;> by_cases h2 : b > (code.length : Int) <;> simp only [h1, h2, if_true, if_false] at this ⊢ <;> rw [this] <;> rfl
  refine ⟨k1 + k2 + 1, ?_⟩
  unfold tripwirelaw19_TableReads.f tripwirelaw19_far.f tripwireref00_WeighTable.f tripwirelaw19_awake.f
  rw [hk1 _ (by omega), Option.bind_some, Option.bind_some, Option.bind_some, if_pos rfl]
  simp only [tripwirelaw19_TableReads.j0]
  split
  · rfl
  · unfold table_Reads.f
    rw [e1 _ (by omega), hR _ (by omega)]
    simp
end Go.Proofs.Ythkkphkeonnnfaa.PureTR
