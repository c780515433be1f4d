/- An abstract machine over the model's code: its operations that write no memory come to what the model's come to. No condition but those that each theorem names. -/
import Derived.Test.YthkkphkeonnnfaaAbsD
import Derived.Laws.Strings
import Derived.Laws.Slices
namespace Go.Proofs.Ythkkphkeonnnfaa.Abs
open Go
variable {P : Program} {B : Nat} {μ : K → Option Loc} {H : Hp} {w : World}

theorem ptrV_add (l : Loc) (o j : Nat) : (ptrV l o).add j = ptrV l (o + j) := by
  unfold ptrV Addr.add
  split
  · rename_i h; subst h; rfl
  · simp [Nat.add_assoc]
theorem ptrV_eq (l : Loc) (o : Nat) : ptrV l o = ⟨l.blk, l.base + o, none⟩ := rfl
theorem v_run {α : Type} {m : Sem Value} {c : Value} {w w' : World} {f : Value → α} (h : m.run P w = .ok c w') : (do pure (f (← m)) : Sem α).run P w = .ok (f c) w' := by simp [h]
theorem take_drop_get {α : Type} {l : List α} {o n j : Nat} {v : α} (h : ((l.drop o).take n)[j]? = some v) : l[o + j]? = some v := by
  have hj : j < n := by
    have := (List.getElem?_eq_some_iff.1 h).1
    simp at this; omega
  rwa [List.getElem?_take_of_lt hj, List.getElem?_drop] at h
theorem part_run {t : TypeId} {cs : List AV} {vs : List Value} {o : Nat} {v : AV} (h : partA P t cs o = some v) (hc : concL μ cs = some vs) (w : World) : ∃ x, conc μ v = some x ∧ (part t vs.toArray o).run P w = .ok x w := by
  obtain ⟨⟨g, n⟩, ht, hp⟩ := optK_some h
  cases g with
  | false =>
    have hp : getL cs o = some v := hp
    rw [getL_eq] at hp
    obtain ⟨x, h1, h2⟩ := concL_get _ _ _ _ hc hp
    refine ⟨x, h2, ?_⟩
    simp [part, tagg_one ht w, h1]
  | true =>
    obtain ⟨r, hr, hv⟩ := optK_some (show aggO (subL cs o n) = some v from hp)
    injection hv with hv; subst hv
    obtain ⟨h1, h2, h3⟩ := subL_eq hr
    have hlen := concL_length _ _ hc
    refine ⟨.agg ((vs.drop o).take n).toArray, conc_agg_mk (by rw [h1]; exact concL_take _ _ _ (concL_drop _ _ _ hc)), ?_⟩
    obtain ⟨ha, hs⟩ := tagg_agg ht w
    simp [part, ha, hs, List.take_drop]
theorem loadAt_run (hR : Rel B μ H w) {i : K} {b : Bk} {cs : List AV} (hb : H i = some b) (hl : rdl b = some cs) {t : TypeId} {o : Nat} {v : AV} {c : Value} (hv : partA P t cs o = some v) (hp : conc μ (.ptr (some (i, o))) = some c) :
    ∃ x, conc μ v = some x ∧ (Instr.loadAt t c).run P w = .ok x w := by
  obtain ⟨l, hμ, rfl⟩ := conc_ptr hp
  obtain ⟨l', vs, hμ', hvs, hcell⟩ := hR.cells hb hl
  rw [hμ] at hμ'
  injection hμ' with hμ'; subst hμ'
  obtain ⟨⟨g, n⟩, ht, hpart⟩ := optK_some hv
  cases g with
  | false =>
    have hpart : getL cs o = some v := hpart
    rw [getL_eq] at hpart
    obtain ⟨x, h1, h2⟩ := concL_get _ _ _ _ hvs hpart
    refine ⟨x, h2, ?_⟩
    have := hcell o x h1
    simp [Instr.loadAt, Instr.sureAddr, loadVar, tagg_one ht w, ptrV_eq, this]
  | true =>
    obtain ⟨r, hr, hv⟩ := optK_some (show aggO (subL cs o n) = some v from hpart)
    injection hv with hv; subst hv
    obtain ⟨h1, h2, h3⟩ := subL_eq hr
    have hlen := concL_length _ _ hvs
    obtain ⟨ha, hs⟩ := tagg_agg ht w
    have hn : ((vs.drop o).take n).length = n := by simp; omega
    refine ⟨.agg ((vs.drop o).take n).toArray, conc_agg_mk (by rw [h1]; exact concL_take _ _ _ (concL_drop _ _ _ hvs)), ?_⟩
    have hload := run_loadCells_list (P := P) (w := w) (ptrV l o) ((vs.drop o).take n) (fun j v hj => by
      rw [ptrV_add, ptrV_eq]
      exact hcell (o + j) v (take_drop_get hj))
    rw [hn] at hload
    simp [Instr.loadAt, Instr.sureAddr, loadVar, ha, hs, hload]

/-! ### numbers, texts -/
theorem sameK_some {k k' : IntKind} {v : Option AV} {r : AV} (h : sameK k k' v = some r) : k = k' ∧ v = some r := by
  unfold sameK at h
  cases e : kindEq k k' with
  | false => rw [e] at h; cases h
  | true => rw [e] at h; exact ⟨kindEq_eq e, h⟩
theorem intBin_run {op : BinOp} {k k' : IntKind} {a b : Int} {v : AV} (h : intBin op k a k' b = some v) (t : TypeId) (w : World) :
    ∃ c, (∀ μ, conc μ v = some c) ∧ (binOp op t (.int k a) (.int k' b)).run P w = .ok c w := by
  cases op
  case shl =>
    have h : (if b < 0 then none else some (AV.int k (wrapF k (a * 2 ^ (min b.toNat k.bits))))) = some v := h
    split at h
    · cases h
    · rename_i hb
      injection h with h; subst h
      exact ⟨_, fun _ => rfl, by simp [binOp, Op.shift, hb, wrapF_eq]⟩
  case shr =>
    have h : (if b < 0 then none else some (AV.int k (a.fdiv (2 ^ (min b.toNat k.bits))))) = some v := h
    split at h
    · cases h
    · rename_i hb
      injection h with h; subst h
      exact ⟨_, fun _ => rfl, by simp [binOp, Op.shift, hb]⟩
  case andNot => cases h
  case quo =>
    obtain ⟨rfl, h2⟩ := sameK_some (show sameK k k' (if b = 0 then none else some (.int k (wrapF k (a.tdiv b)))) = some v from h)
    split at h2
    · cases h2
    · rename_i hb
      injection h2 with h2; subst h2
      exact ⟨_, fun _ => rfl, by simp [binOp, Op.intDiv, hb, wrapF_eq]⟩
  case rem =>
    obtain ⟨rfl, h2⟩ := sameK_some (show sameK k k' (if b = 0 then none else some (.int k (a.tmod b))) = some v from h)
    split at h2
    · cases h2
    · rename_i hb
      injection h2 with h2; subst h2
      exact ⟨_, fun _ => rfl, by simp [binOp, Op.intDiv, hb]⟩
  all_goals
    obtain ⟨rfl, h2⟩ := sameK_some h
    injection h2 with h2; subst h2
    exact ⟨_, fun _ => rfl, by simp [binOp, Op.intArith, Op.intBits, Op.intCmp, wrapF_eq, iadd_eq, ieqb_eq, iltb_eq, ileb_eq] <;> rfl⟩
theorem bytesV_toList (a : List Nat) : (bytesV a).toList = a.map UInt8.ofNat := by
  unfold bytesV; exact ByteArray.toList_mk _
theorem bytesV_size (a : List Nat) : (bytesV a).size = a.length := by
  show (a.map UInt8.ofNat).toArray.size = _
  simp
theorem bytesV_append (a b : List Nat) : bytesV a ++ bytesV b = bytesV (a ++ b) := by
  apply ByteArray.ext
  simp [bytesV, ByteArray.data_append]
theorem u8_eq (x y : Nat) : UInt8.ofNat x = UInt8.ofNat y ↔ x % 256 = y % 256 := by
  constructor
  · intro h
    have := congrArg UInt8.toNat h
    simpa using this
  · intro h
    apply UInt8.toNat_inj.1
    simpa using h
theorem eqN_eq : ∀ (a b : List Nat), eqN a b = (a.map UInt8.ofNat == b.map UInt8.ofNat)
  | [], [] => rfl
  | [], _ :: _ => rfl
  | _ :: _, [] => rfl
  | x :: xs, y :: ys => by
    show @Bool.rec (fun _ => Bool) false (eqN xs ys) (Nat.beq (x % 256) (y % 256)) = _
    rw [eqN_eq xs ys]
    simp only [List.map_cons]
    by_cases e : x % 256 = y % 256
    · have h1 : Nat.beq (x % 256) (y % 256) = true := Nat.beq_eq.mpr e
      have h2 : UInt8.ofNat x = UInt8.ofNat y := (u8_eq x y).2 e
      rw [h1, h2, List.cons_beq_cons]; simp
    · have h1 : Nat.beq (x % 256) (y % 256) = false := by
        cases hb : Nat.beq (x % 256) (y % 256) with
        | false => rfl
        | true => exact absurd (Nat.beq_eq.mp hb) e
      have h2 : (UInt8.ofNat x == UInt8.ofNat y) = false := beq_eq_false_iff_ne.mpr (fun h => e ((u8_eq x y).1 h))
      rw [h1, List.cons_beq_cons, h2]; rfl
theorem u8_lt (x y : Nat) : UInt8.ofNat x < UInt8.ofNat y ↔ x % 256 < y % 256 := by
  rw [UInt8.lt_iff_toNat_lt]; simp
theorem ltN_eq : ∀ (a b : List Nat), ltN a b = Op.bytesLess (a.map UInt8.ofNat) (b.map UInt8.ofNat)
  | [], [] => by simp [ltN, Op.bytesLess]
  | [], _ :: _ => by simp [ltN, Op.bytesLess]
  | _ :: _, [] => by simp [ltN, Op.bytesLess]
  | x :: xs, y :: ys => by
    simp only [ltN, Op.bytesLess, List.map_cons]
    rw [← ltN_eq xs ys]
    by_cases h : x % 256 < y % 256
    · have h1 : Nat.blt (x % 256) (y % 256) = true := by simpa [Nat.blt_eq] using h
      rw [h1]
      have := (u8_lt x y).2 h
      simp [this]
    · have h1 : Nat.blt (x % 256) (y % 256) = false := by
        cases hb : Nat.blt (x % 256) (y % 256) with
        | false => rfl
        | true => exact absurd (by simpa [Nat.blt_eq] using hb) h
      have h2 : ¬ UInt8.ofNat x < UInt8.ofNat y := fun h' => h ((u8_lt x y).1 h')
      rw [h1]
      by_cases e : x % 256 = y % 256
      · have h3 : Nat.beq (x % 256) (y % 256) = true := Nat.beq_eq.mpr e
        have h4 : UInt8.ofNat x = UInt8.ofNat y := (u8_eq x y).2 e
        rw [h3]; simp [h4]
      · have h3 : Nat.beq (x % 256) (y % 256) = false := by
          cases hb : Nat.beq (x % 256) (y % 256) with
          | false => rfl
          | true => exact absurd (Nat.beq_eq.mp hb) e
        have h4 : (UInt8.ofNat x == UInt8.ofNat y) = false := beq_eq_false_iff_ne.mpr (fun h => e ((u8_eq x y).1 h))
        rw [h3]; simp [h2, h4]
theorem strBin_run {op : BinOp} {a b : List Nat} {v : AV} (h : strBin op a b = some v) (t : TypeId) (w : World) :
    ∃ c, (∀ μ, conc μ v = some c) ∧ (binOp op t (.string (bytesV a)) (.string (bytesV b))).run P w = .ok c w := by
  cases op <;> simp only [strBin] at h <;> first
    | (cases h; done)
    | (split at h
       · rename_i hs
         injection h with h; subst h
         refine ⟨_, fun _ => rfl, ?_⟩
         have : ¬ (((bytesV a).size + (bytesV b).size : Nat) : Int) > IntKind.i64.max := by
           rw [bytesV_size, bytesV_size]
           show ¬ ((a.length + b.length : Nat) : Int) > 9223372036854775807
           omega
         simp only [binOp, Op.stringOp, if_neg this, bytesV_append]
         rfl
       · cases h)
    | (injection h with h; subst h
       refine ⟨_, fun _ => rfl, ?_⟩
       simp [binOp, Op.stringOp, bytesV_toList, eqN_eq, ltN_eq])
theorem opUn_run {op : UnOp} {x : Option AV} {v : AV} (h : opUn op x = some v) : ∃ u, x = some u ∧ ∀ c, conc μ u = some c → ∃ d, conc μ v = some d ∧ ∀ w, (Op.unary op c).run P w = .ok d w := by
  unfold opUn at h
  split at h
  · rename_i b
    injection h with h; subst h
    refine ⟨_, rfl, fun c hc => ?_⟩
    rw [conc_bool hc]
    exact ⟨_, rfl, fun w => by simp [Op.unary]⟩
  · rename_i k n
    injection h with h; subst h
    refine ⟨_, rfl, fun c hc => ?_⟩
    rw [conc_int hc]
    exact ⟨_, rfl, fun w => by simp [Op.unary, Op.intArith]⟩
  · cases h
theorem opConv_run {a b : TypeId} {x : Option AV} {v : AV} (h : opConv P a b x = some v) : ∃ u, x = some u ∧ ∀ c, conc μ u = some c → ∃ d, conc μ v = some d ∧ ∀ w, (convert a b c).run P w = .ok d w := by
  unfold opConv at h
  split at h
  · rename_i d k k' n h1 h2
    injection h with h; subst h
    refine ⟨_, rfl, fun c hc => ?_⟩
    rw [conc_int hc]
    exact ⟨_, rfl, fun w => by simp [convert, underlying, h1, h2, Conv.intToInt]⟩
  · rename_i d s h1 h2
    injection h with h; subst h
    refine ⟨_, rfl, fun c hc => ?_⟩
    rw [conc_str hc]
    exact ⟨_, rfl, fun w => by simp [convert, underlying, h1, h2]⟩
  · cases h
end Go.Proofs.Ythkkphkeonnnfaa.Abs
