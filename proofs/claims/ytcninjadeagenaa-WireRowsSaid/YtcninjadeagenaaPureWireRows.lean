/- Numbers and texts that are written one behind the other are read back one by one, in order. No condition. -/
import Derived.Test.YtcninjadeagenaaHWirex7
import Derived.Test.YtcninjadeagenaaWireD
namespace Go.Proofs.Ytcninjadeagenaa.Pure
open Go.RowKit Go.Proofs.Ytcninjadeagenaa.HWire Go.Proofs.YtcninjadeagenaaW.PrintWords Go.Proofs.YtcninjadeagenaaW.PrintLast Go.Proofs.Ytcninjadeagenaa.WS
set_option linter.unusedSimpArgs false

theorem flat_cons (n : Int) (l : List Int) : flat (n :: l) = vi n.toNat ++ flat l := rfl
theorem flat_append (a b : List Int) : flat (a ++ b) = flat a ++ flat b := by simp [flat]
theorem TK_end (s : ByteArray) : TK s (s.size : Int) = (0, (s.size : Int), 30) := by
  unfold TK
  rw [if_neg (by omega)]
  simp only [tk]
  rw [if_pos (by omega)]
theorem rows_l1 (ts : List ByteArray) (hts : ts.length ≤ 65536) (d : Nat) : ∀ (k i : Nat) (b : ByteArray), i + d = ts.length → 2 * d + 40 ≤ k → b.size ≤ 33554432 → tripwirelaw03_WireRows.l1 k ts true b i = some true := by
  have last : ∀ (k i : Nat) (b : ByteArray), 30 ≤ k → b.size ≤ 33554432 → tripwirelaw03_WireRows.j3 k ts true b i false = some true := by
    intro k i b hk hb
    obtain ⟨k, rfl⟩ : ∃ n, k = n + 1 := ⟨k - 1, by omega⟩
    rw [tripwirelaw03_WireRows.j3, if_neg (by simp), Take_f k b _ (by omega) (by omega), Option.bind_some, TK_end, if_pos rfl, if_pos rfl]
    rfl
  induction d with
  | zero =>
    intro k i b hi hk hb
    obtain ⟨k, rfl⟩ : ∃ n, k = n + 1 := ⟨k - 1, by omega⟩
    rw [tripwirelaw03_WireRows.l1, if_neg (by omega)]
    exact last k i b (by omega) hb
  | succ d ih =>
    intro k i b hi hk hb
    obtain ⟨k, rfl⟩ : ∃ n, k = n + 2 := ⟨k - 2, by omega⟩
    have hlt : i < ts.length := by omega
    rw [tripwirelaw03_WireRows.l1, if_pos (by omega)]
    by_cases hbig : (b.size : Int) < 16777216
    · rw [decide_eq_true hbig]
      generalize ht : rdOf ByteArray.empty ts (i : Int) = t
      rw [tripwirelaw03_WireRows.j3, if_pos rfl, if_pos (by omega), if_pos (by omega), ht]
      by_cases hlong : (t.size : Int) > 65536
      · rw [if_pos hlong]
      · have hv := vi_len10 (n := t.size) (by omega)
        have htl : (tl t).length ≤ t.size + 10 := by rw [tl, List.length_append, bytesOf_length]; omega
        have hsz : (b ++ strOfNums (tl t)).size = b.size + (tl t).length := by rw [ByteArray.size_append, S_size]
        have hbt : bytesOf (b ++ strOfNums (tl t)) = bytesOf b ++ tl t := by rw [bytesOf_append, bytesOf_S _ (tl_isB t)]
        have hd : (bytesOf (b ++ strOfNums (tl t))).drop ((b.size : Nat) : Int).toNat = tl t ++ [] := by
          rw [hbt, show ((b.size : Nat) : Int).toNat = (bytesOf b).length from by rw [bytesOf_length]; omega, List.drop_left, List.append_nil]
        rw [if_neg hlong, PutText_f k b t (by omega) (by omega) (by omega), Option.bind_some, TakeText_f k _ _ (by omega) (by omega), Option.bind_some, TT_of_tl (t := t) (by omega) (by omega) hd]
        have hcut : (b ++ strOfNums (tl t)).extract 0 ((b.size : Nat) : Int).toNat = b := by
          rw [cut_eq (a := bytesOf b) (r := tl t) (by rw [List.drop_zero, hbt]) (by rw [bytesOf_length]; omega), S_bytesOf]
        rw [if_pos rfl, if_pos (by rw [hsz]; dsimp only; omega), if_pos rfl, if_pos (by omega), if_pos (by omega), hcut, if_pos rfl, wrap64_id (by omega) (by omega)]
        have := ih k (i + 1) (b ++ strOfNums (tl t)) (by omega) (by omega) (by omega)
        rw [show ((i + 1 : Nat) : Int) = (i : Int) + 1 from by omega] at this
        exact this
    · rw [decide_eq_false hbig]
      exact last (k + 1) i b (by omega) hb
theorem rows_l0 (l : List Int) (hu : isU l) (hl : l.length ≤ 1048576) (ts : List ByteArray) (hts : ts.length ≤ 65536) (d : Nat) : ∀ (k i : Nat), i + d = l.length → d + 2 * ts.length + 60 ≤ k →
    tripwirelaw03_WireRows.l0 k l ts true (strOfNums (flat l)) (flat (l.take i)).length (flat (l.take i)).length i = some true := by
  have hfl := flat_len l hu
  induction d with
  | zero =>
    intro k i hi hk
    obtain ⟨k, rfl⟩ : ∃ n, k = n + 1 := ⟨k - 1, by omega⟩
    rw [tripwirelaw03_WireRows.l0, if_neg (by omega), List.take_of_length_le (by omega), if_pos (by rw [S_size])]
    have := rows_l1 ts hts ts.length k 0 (strOfNums (flat l)) (by omega) (by omega) (by rw [S_size]; omega)
    exact this
  | succ d ih =>
    intro k i hi hk
    obtain ⟨k, rfl⟩ : ∃ n, k = n + 1 := ⟨k - 1, by omega⟩
    have hlt : i < l.length := by omega
    have hx := hu l[i] (List.getElem_mem hlt)
    have hsplit : flat l = flat (l.take i) ++ (vi l[i].toNat ++ flat (l.drop (i + 1))) := by
      rw [← flat_cons, ← flat_append, ← List.drop_eq_getElem_cons hlt, List.take_append_drop]
    have hlen := congrArg List.length hsplit
    rw [List.length_append, List.length_append] at hlen
    have hd : (bytesOf (strOfNums (flat l))).drop (((flat (l.take i)).length : Nat) : Int).toNat = vi l[i].toNat ++ flat (l.drop (i + 1)) := by
      rw [bytesOf_S _ (flat_isB l), Int.toNat_natCast]
      conv => lhs; rw [hsplit]
      exact List.drop_left
    have hnext : flat (l.take (i + 1)) = flat (l.take i) ++ vi l[i].toNat := by
      rw [List.take_succ_eq_append_getElem hlt, flat_append, flat_one]
    rw [tripwirelaw03_WireRows.l0, if_pos (by omega), Take_f k _ _ (by rw [S_size]; omega) (by omega), Option.bind_some, if_pos (by omega), rd_get l i hlt, Size_f _ hx.1 hx.2, Option.bind_some, TK_of_vi (by omega) hx.1 hx.2 hd]
    rw [if_pos rfl, if_pos rfl, wrap64_id (x := (((flat (l.take i)).length : Nat) : Int) + ((vi l[i].toNat).length : Nat)) (by omega) (by omega), if_pos rfl, wrap64_id (x := (i : Int) + 1) (by omega) (by omega)]
    have := ih k (i + 1) (by omega) (by omega)
    rw [hnext, List.length_append, show ((i + 1 : Nat) : Int) = (i : Int) + 1 from by omega, Int.natCast_add] at this
    exact this
theorem rows_f (l : List Int) (hu : isU l) (ts : List ByteArray) : tripwirelaw03_WireRows.f (2000000 + 1) l ts = some true := by
  rw [tripwirelaw03_WireRows.f, works_f _ (by omega), Option.bind_some]
  by_cases h1 : (l.length : Int) > 1048576
  · rw [if_pos h1, tripwirelaw03_WireRows.j0, if_pos rfl]
  · rw [if_neg h1]
    by_cases h2 : (ts.length : Int) > 65536
    · rw [decide_eq_true h2, tripwirelaw03_WireRows.j0, if_pos rfl]
    · have hfl := flat_len l hu
      rw [decide_eq_false h2, tripwirelaw03_WireRows.j0, if_neg (by simp), Put_f _ _ l hu (by omega) (by omega) (by simp only [ByteArray.size, List.size_toArray, List.length_nil]; omega), Option.bind_some, empty_append]
      have := rows_l0 l hu (by omega) ts (by omega) l.length 2000000 0 (by omega) (by omega)
      exact this
def WireRowsPure : Prop := ∀ (l0 : List Int) (l1 : List ByteArray), (∀ x ∈ l0, (Lit.int .u64 x).wf = true) → ∃ k, tripwirelaw03_WireRows.f k l0 l1 = some true
theorem WireRows : WireRowsPure := by
  intro l ts hwf
  refine ⟨2000000 + 1, rows_f l (fun x hx => ?_) ts⟩
  have h := hwf x hx
  simp only [Lit.wf, IntKind.min, IntKind.max, IntKind.signed, IntKind.bits, Bool.and_eq_true, decide_eq_true_eq] at h
  have h1 := h.1
  have h2 := h.2
  simp at h1 h2
  omega

end Go.Proofs.Ytcninjadeagenaa.Pure
