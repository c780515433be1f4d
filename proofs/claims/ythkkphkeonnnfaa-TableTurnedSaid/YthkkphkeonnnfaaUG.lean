/- A table's bytes with one of them another one, cut off, or with more behind, are refused: in the abstract machine. No condition but those that each theorem names. -/
import Derived.Test.YthkkphkeonnnfaaUF
import Derived.Test.YthkkphkeonnnfaaDH
namespace Go.Proofs.Ythkkphkeonnnfaa.Abs
open Go
set_option linter.unusedVariables false
set_option linter.unusedSimpArgs false
set_option maxRecDepth 100000
set_option maxHeartbeats 4000000
theorem cut_to {P : Program} {tb : T TI} {t : Nat} {z1 : Bool} {z2 z3 : Nat} {z4 : Option AV} (hT : TabOk P tb) {s : List Nat} {k : IntKind} {e : Int} (ht : ti tb t = some ⟨.str, z1, z2, z3, z4⟩) (h0 : 0 ≤ e) (h1 : e ≤ s.length) : opSlice P t (some (.str s)) (some none) (some (some (.int k e))) (some none) = some (.str (s.take e.toNat)) := by
  obtain ⟨z, rfl⟩ := Int.eq_ofNat_of_zero_le h0
  have hs : subL s 0 (z - 0) = some (s.take z) := by
    have hl : (s.take z).length = z := by rw [List.length_take]; omega
    unfold subL
    rw [dropL_mk2 s 0 (by omega)]
    show takeL (z - 0) (s.drop 0) = _
    rw [List.drop_zero, Nat.sub_zero]
    have := takeL_mk (s.take z) (s.drop z)
    rw [hl, List.take_append_drop] at this
    exact this
  have hb : bound1 z 0 none = some 0 := rfl
  have hb1 : bound1 s.length s.length (some (.int k (z : Int))) = some z := by
    show (if 0 ≤ (z : Int) ∧ (z : Int) ≤ (s.length : Int) then some (z : Int).toNat else none) = _
    rw [if_pos ⟨by omega, by omega⟩]; rfl
  simp only [opSlice, hT.str ht, hb1, hb, hs, Int.toNat_natCast]
theorem sub_all (s : List Nat) {n : Nat} (h : s.length = n) : subL (bytesA s) 0 n = some (bytesA s) := by
  unfold subL
  rw [dropL_mk2 _ 0 (by omega)]
  show takeL n ((bytesA s).drop 0) = _
  rw [List.drop_zero, ← h, ← bytesA_len]; exact takeL_all _
theorem bytesA_set (s : List Nat) (j y : Nat) (h : y < 256) : (bytesA s).set j (.int .u8 (y : Int)) = bytesA (s.set j y) := by
  unfold bytesA
  rw [List.map_set]
  congr 2
  omega
theorem conc_one {μ : K → Option Loc} {v : AV} {c : Value} (h : concL μ [v] = some [c]) : conc μ v = some c := by
  simp only [concL] at h
  cases e : conc μ v with
  | none => rw [e] at h; cases h
  | some x => rw [e] at h; injection h with h; injection h with h; rw [h]
theorem conc_nil {μ : K → Option Loc} : concL μ [] = some [] := rfl
theorem conc_cons {μ : K → Option Loc} {v : AV} {c : Value} {l : List AV} {cs : List Value} (h : conc μ v = some c) (k : concL μ l = some cs) : concL μ (v :: l) = some (c :: cs) := by
  simp only [concL, h, k]; rfl
theorem xor_ne {a b : Nat} (h : b ≠ 0) : a ^^^ b ≠ a := fun e => by
  have : a ^^^ b = a ^^^ 0 := by rw [Nat.xor_zero]; exact e
  exact h (xor_cancel this)
attribute [local irreducible] W Cl Bd
variable {V : K → Option (List AV)} {t : Table}
theorem tableTurned_c (ht : t.Ok V) (hr : t.Room) {at_ by_ : Int} (hat : In64 at_) (hby : In8 by_) {m : List Nat} (hm : Bytes m) (hml : m.length ≤ 140737488355328) : Cl Try.prog G19 V 9 [t.v, .int .i64 at_, .int .u8 by_, .str m] [] fun o _ => o = .ret (.bool true) := by
  have h1 := encodeC ht hr
  refine Cl.enter rfl Try.func9 rfl ?_
  cases hc : checkS t with
  | some c =>
    have hc0 : c ≠ 0 := fun e => by
      have := checkS_ne (t := t) (by rw [hc, e]; rfl)
      rw [hc] at this; cases this
    have he : encodeV t (some c) = .tup [.str [], .int .i64 c] := rfl
    rw [hc, he] at h1
    repeat' first | refine W.callP rfl rfl rfl rfl awakeC ?_ | (refine W.callV rfl rfl rfl rfl (farC ht) ?_; rintro _ ⟨b_, rfl⟩) | refine W.callP rfl rfl rfl rfl h1 ?_ | (with_reducible first | refine za ?_ | refine zb ?_ | refine zc ?_) | refine ym zr ?_ | refine yn 0 zr ?_ | refine yn 1 zr ?_ | refine yn 2 zr ?_ | refine yn 3 zr ?_ | (refine yo zr ?_; intro _) | (refine yp zr ?_; intro _) | refine yq zr ?_ | refine ys zr ?_ | refine yu zr ?_ | refine yv zr ?_ | (with_reducible first | refine zd ?_ | refine ze ?_ | refine zf ?_ | refine zg ?_ | refine zh ?_ | refine zi ?_ | refine zj ?_ | refine zk ?_ | refine zl ?_) | refine zz zr ?_ | refine zw (by decide +kernel) ?_ | refine zx zr zr zr ?_ | refine zy zr zr ?_ | (refine W.condP zr ?_ ?_ <;> intro _) | refine W.condT zr ?_ | refine W.condF zr ?_ | (refine W.cond zr ?_ ?_ <;> intro _) | (refine W.gs zr zr zr zr ?_ ?_ <;> intro _) | (refine W.gsB zr zr zr zr ?_ ?_ <;> intro _) | refine W.done zr ?_ | refine W.doneN zr ?_
    all_goals first
      | rfl
      | exact (‹¬ ¬ (c = 0)› hc0).elim
      | trace_state
  | none =>
    have hbk := (table_back hc ht.regs.2.2 ht.consts.2.2 hr.name.2).2
    have hsB : Bytes (encS t) := encS_byte hr.name.2
    have he : encodeV t none = .tup [.str (frameS (encS t)), .int .i64 0] := by unfold encodeV frameV; simp only; rw [if_neg (by omega)]
    have hd3 := decode_back ht hr hc
    rw [hc, he] at h1
    have hl1 := frameS_len (encS t)
    have hl2 := putS_len10 (n := (encS t).length) (by omega)
    have hH := frame_harm hsB
    have hX := frame_cut hsB hbk
    have hM := fun hne => frame_more hsB hm hbk hne
    have hbB := frameS_byte hsB
    have hL : 4 ≤ (frameS (encS t)).length ∧ (frameS (encS t)).length ≤ 65550 := by omega
    clear hl1 hl2 he hbk hsB
    generalize frameS (encS t) = b at *
    have hL0 : (b.length : Int) ≠ 0 := by omega
    by_cases h0 : at_ < 0
    · skip
      repeat' first | refine W.callP rfl rfl rfl rfl awakeC ?_ | (refine W.callV rfl rfl rfl rfl (farC ht) ?_; rintro _ ⟨b_, rfl⟩) | (with_reducible first | refine za ?_ | refine zb ?_ | refine zc ?_) | refine ym zr ?_ | refine yn 0 zr ?_ | refine yn 1 zr ?_ | refine yn 2 zr ?_ | refine yn 3 zr ?_ | (refine yo zr ?_; intro _) | (refine yp zr ?_; intro _) | refine yq zr ?_ | refine ys zr ?_ | refine yu zr ?_ | refine yv zr ?_ | (with_reducible first | refine zd ?_ | refine ze ?_ | refine zf ?_ | refine zg ?_ | refine zh ?_ | refine zi ?_ | refine zj ?_ | refine zk ?_ | refine zl ?_) | refine zz zr ?_ | refine zw (by decide +kernel) ?_ | refine zx zr zr zr ?_ | refine zy zr zr ?_ | (refine W.condP zr ?_ ?_ <;> intro _) | refine W.condT zr ?_ | refine W.condF zr ?_ | (refine W.cond zr ?_ ?_ <;> intro _) | (refine W.gs zr zr zr zr ?_ ?_ <;> intro _) | (refine W.gsB zr zr zr zr ?_ ?_ <;> intro _) | refine W.done zr ?_ | refine W.doneN zr ?_
      all_goals first
        | rfl
        | exact absurd h0 ‹¬ at_ < 0›
        | trace_state
    obtain ⟨j, hj⟩ : ∃ j : Nat, at_.tmod (b.length : Int) = (j : Int) := Int.eq_ofNat_of_zero_le (Int.tmod_nonneg _ (by omega))
    have hjl : j < b.length := by
      have := Int.tmod_lt_of_pos at_ (b := (b.length : Int)) (by omega)
      omega
    obtain ⟨x, hx, hx0, hxl⟩ : ∃ x : Nat, IntKind.u8.wrap (1 + by_.tmod 255) = (x : Int) ∧ x ≠ 0 ∧ x < 256 := by
      unfold In8 at hby
      refine ⟨(1 + by_ % 255).toNat, ?_, by omega, by omega⟩
      rw [Int.tmod_eq_emod_of_nonneg (by omega), w8 (by omega) (by omega)]; omega
    have hc256 := hbB _ (List.getElem_mem hjl)
    have hy : bitI .xor .u8 ((b[j] % 256 : Nat) : Int) (x : Int) = ((b[j] ^^^ x : Nat) : Int) := by
      rw [Nat.mod_eq_of_lt hc256]
      exact bits_u rfl (by show b[j] < 256; exact hc256) (by show x < 256; exact hxl)
    have hyl : b[j] ^^^ x < 256 := Nat.xor_lt_two_pow (n := 8) (by omega) (by omega)
    have hget : getL (bytesA b) (0 + (j : Int).toNat * 1) = some (.int .u8 ((b[j] % 256 : Nat) : Int)) := by
      rw [getL_eq, Nat.zero_add, Nat.mul_one, Int.toNat_natCast]
      unfold bytesA
      rw [List.getElem?_map, List.getElem?_eq_getElem hjl]; rfl
    have hset : setLs (bytesA b) (0 + (j : Int).toNat * 1) [.int .u8 ((b[j] ^^^ x : Nat) : Int)] = some (bytesA (b.set j (b[j] ^^^ x))) := by
      rw [Nat.zero_add, Nat.mul_one, Int.toNat_natCast, setLs_set _ _ _ (by rw [bytesA_len]; exact hjl), bytesA_set _ _ _ hyl]
    have hd1 := decode_bad (V := V) DG (b := b.set j (b[j] ^^^ x)) (fun c hc => by
      rcases List.mem_or_eq_of_mem_set hc with h | rfl
      · exact hbB c h
      · exact hyl) (by rw [List.length_set]; omega) (hH j hjl _ hyl (xor_ne hx0))
    have hd2 := decode_bad (V := V) DG (b := b.take j) (fun c hc => hbB c (List.mem_of_mem_take hc)) (by rw [List.length_take]; omega) (hX j hjl)
    have hB2 : Bytes (b.set j (b[j] ^^^ x)) := fun c hc => by
      rcases List.mem_or_eq_of_mem_set hc with h | rfl
      · exact hbB c h
      · exact hyl
    have hsub := sub_all (b.set j (b[j] ^^^ x)) (n := b.length) (List.length_set ..)
    have htx := textA_bytes _ hB2
    have hcut := cut_to (P := Try.prog) tblOk (t := 9) (s := b) (k := .i64) (e := (j : Int)) rfl (by omega) (by omega)
    rw [Int.toNat_natCast] at hcut
    generalize b.set j (b[j] ^^^ x) = b1 at *
    unfold noT at hd1 hd2
    have hcat : b.length + m.length ≤ 9223372036854775807 := by omega
    repeat' first | refine W.callP rfl rfl rfl rfl awakeC ?_ | (refine W.callV rfl rfl rfl rfl (farC ht) ?_; rintro _ ⟨b_, rfl⟩) | refine W.callP rfl rfl rfl rfl h1 ?_ | (refine W.rem rfl rfl rfl rfl hL0 ?_; rw [hj]) | (with_reducible first | refine za ?_ | refine zb ?_ | refine zc ?_) | refine ym zr ?_ | refine yn 0 zr ?_ | refine yn 1 zr ?_ | refine yn 2 zr ?_ | refine yn 3 zr ?_ | (refine yo zr ?_; intro _) | (refine yp zr ?_; intro _) | refine yq zr ?_ | refine ys zr ?_ | refine yu zr ?_ | refine yv zr ?_ | (with_reducible first | refine zd ?_ | refine ze ?_ | refine zf ?_ | refine zg ?_ | refine zh ?_ | refine zi ?_ | refine zj ?_ | refine zk ?_ | refine zl ?_) | refine zz zr ?_ | refine zw (by decide +kernel) ?_ | refine zx zr zr zr ?_ | refine zy zr zr ?_ | (refine W.condP zr ?_ ?_ <;> intro _) | refine W.condT zr ?_ | refine W.condF zr ?_ | (refine W.cond zr ?_ ?_ <;> intro _) | (refine W.gs zr zr zr zr ?_ ?_ <;> intro _) | (refine W.gsB zr zr zr zr ?_ ?_ <;> intro _) | refine W.done zr ?_ | refine W.doneN zr ?_
    all_goals first
      | rfl
      | exact absurd ‹at_ < 0› h0
      | exact absurd rfl ‹¬ ((0 : Int) = 0)›
      | exact absurd ‹(b.length : Int) = 0› hL0
      | skip
    repeat first | (refine W.bytes tblOk rfl rfl rfl rfl rfl rfl ?_; intro i0) | refine W.ia tblOk rfl rfl rfl rfl rfl rfl rfl (by omega) (by omega) ?_ | refine W.ldO tblOk 0 rfl rfl rfl hget rfl rfl ?_ | refine W.rem rfl rfl rfl rfl (by decide) ?_ | (with_reducible first | refine za ?_ | refine zb ?_ | refine zc ?_) | refine ym zr ?_ | refine yn 0 zr ?_ | refine yn 1 zr ?_ | refine yn 2 zr ?_ | refine yn 3 zr ?_ | (refine yo zr ?_; intro _) | (refine yp zr ?_; intro _) | refine yq zr ?_ | refine ys zr ?_ | refine yu zr ?_ | refine yv zr ?_ | (with_reducible first | refine zd ?_ | refine ze ?_ | refine zf ?_ | refine zg ?_ | refine zh ?_ | refine zi ?_ | refine zj ?_ | refine zk ?_ | refine zl ?_) | refine zz zr ?_ | refine zw (by decide +kernel) ?_ | refine zx zr zr zr ?_ | refine zy zr zr ?_ | refine W.condT zr ?_ | refine W.condF zr ?_
    rw [hx, hy]
    refine W.stF tblOk rfl rfl rfl rfl rfl rfl rfl hset ?_
    by_cases hmn : m = []
    · subst hmn
      rw [← List.append_nil b] at hd3
      repeat' first | refine W.text tblOk 0 rfl rfl rfl rfl rfl rfl rfl rfl hsub htx ?_ | refine W.callP rfl rfl rfl rfl hd1 ?_ | refine W.sli rfl rfl rfl rfl rfl rfl hcut ?_ | refine W.callP rfl rfl rfl rfl hd2 ?_ | refine W.cat rfl rfl rfl rfl hcat ?_ | (refine W.callN rfl rfl rfl rfl hd3 ?_; intro x Δ' hcp) | (with_reducible first | refine za ?_ | refine zb ?_ | refine zc ?_) | refine ym zr ?_ | refine yn 0 zr ?_ | refine yn 1 zr ?_ | refine yn 2 zr ?_ | refine yn 3 zr ?_ | (refine yo zr ?_; intro _) | (refine yp zr ?_; intro _) | refine yq zr ?_ | refine ys zr ?_ | refine yu zr ?_ | refine yv zr ?_ | (with_reducible first | refine zd ?_ | refine ze ?_ | refine zf ?_ | refine zg ?_ | refine zh ?_ | refine zi ?_ | refine zj ?_ | refine zk ?_ | refine zl ?_) | refine zz zr ?_ | refine zw (by decide +kernel) ?_ | refine zx zr zr zr ?_ | refine zy zr zr ?_ | (refine W.condP zr ?_ ?_ <;> intro _) | refine W.condT zr ?_ | refine W.condF zr ?_ | (refine W.cond zr ?_ ?_ <;> intro _) | (refine W.gs zr zr zr zr ?_ ?_ <;> intro _) | (refine W.gsB zr zr zr zr ?_ ?_ <;> intro _) | refine W.done zr ?_ | refine W.doneN zr ?_
      all_goals first
        | rfl
        | trace_state
    · have hd4 := decode_bad (V := V) DG (hbB.app hm) (by rw [List.length_append]; omega) (hM hmn)
      unfold noT at hd4
      have hmp : (m.length : Int) > 0 := by
        have := List.length_pos_iff.2 hmn
        omega
      repeat' first | refine W.text tblOk 0 rfl rfl rfl rfl rfl rfl rfl rfl hsub htx ?_ | refine W.callP rfl rfl rfl rfl hd1 ?_ | refine W.sli rfl rfl rfl rfl rfl rfl hcut ?_ | refine W.callP rfl rfl rfl rfl hd2 ?_ | refine W.cat rfl rfl rfl rfl hcat ?_ | refine W.callP rfl rfl rfl rfl hd4 ?_ | (with_reducible first | refine za ?_ | refine zb ?_ | refine zc ?_) | refine ym zr ?_ | refine yn 0 zr ?_ | refine yn 1 zr ?_ | refine yn 2 zr ?_ | refine yn 3 zr ?_ | (refine yo zr ?_; intro _) | (refine yp zr ?_; intro _) | refine yq zr ?_ | refine ys zr ?_ | refine yu zr ?_ | refine yv zr ?_ | (with_reducible first | refine zd ?_ | refine ze ?_ | refine zf ?_ | refine zg ?_ | refine zh ?_ | refine zi ?_ | refine zj ?_ | refine zk ?_ | refine zl ?_) | refine zz zr ?_ | refine zw (by decide +kernel) ?_ | refine zx zr zr zr ?_ | refine zy zr zr ?_ | (refine W.condP zr ?_ ?_ <;> intro _) | refine W.condT zr ?_ | refine W.condF zr ?_ | (refine W.cond zr ?_ ?_ <;> intro _) | (refine W.gs zr zr zr zr ?_ ?_ <;> intro _) | (refine W.gsB zr zr zr zr ?_ ?_ <;> intro _) | refine W.done zr ?_ | refine W.doneN zr ?_
      show RO.ret (AV.bool (decide ((194 : Int) = 194) == decide ((0 : Int) < m.length))) = _
      rw [decide_eq_true (show (0 : Int) < m.length from hmp)]
      rfl
end Go.Proofs.Ythkkphkeonnnfaa.Abs
