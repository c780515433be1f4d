/- Frames that were changed are refused: plain. No condition but those that each theorem names. -/
import Derived.Test.YthkkphkeonnnfaaVZ
namespace Go.Proofs.Ythkkphkeonnnfaa.Abs
open Go
set_option linter.unusedVariables false
set_option linter.unusedSimpArgs false
set_option maxRecDepth 100000
theorem xor_cancel {a b c : Nat} (h : c ^^^ a = c ^^^ b) : a = b := by
  have := congrArg (fun x => c ^^^ x) h
  simpa [← Nat.xor_assoc, Nat.xor_self] using this
theorem cast_md {x y m q : Nat} (h : x * m % q = y * m % q) : (x : Int) * (m : Int) % (q : Int) = (y : Int) * (m : Int) % (q : Int) := by
  rw [← Int.natCast_mul, ← Int.natCast_emod, h, Int.natCast_emod, Int.natCast_mul]
theorem prime_inv (z : Int) (z0 : 0 ≤ z) (z1 : z < 4294967296) : (z * 16777619 % 4294967296) * 899433627 % 4294967296 = z := by omega
theorem prime_cancel {x y : Nat} (hx : x < 4294967296) (hy : y < 4294967296) (h : x * 16777619 % 4294967296 = y * 16777619 % 4294967296) : x = y := by
  have h2 : (x : Int) * 16777619 % 4294967296 = (y : Int) * 16777619 % 4294967296 := cast_md h
  have h3 := prime_inv (x : Int) (Int.natCast_nonneg _) (Int.ofNat_lt.2 hx)
  have h4 := prime_inv (y : Int) (Int.natCast_nonneg _) (Int.ofNat_lt.2 hy)
  rw [h2, h4] at h3
  exact (Int.ofNat.inj h3).symm
theorem xor_lt {a b : Nat} (ha : a < 4294967296) (hb : b < 256) : a ^^^ b < 4294967296 := Nat.xor_lt_two_pow (n := 32) ha (by omega)
theorem stepS_left {c d b : Nat} (hc : c < 4294967296) (hd : d < 4294967296) (hb : b < 256) (h : stepS c b = stepS d b) : c = d := by
  have := prime_cancel (xor_lt hc hb) (xor_lt hd hb) h
  rw [Nat.xor_comm c, Nat.xor_comm d] at this
  exact xor_cancel this
theorem stepS_right {c a b : Nat} (hc : c < 4294967296) (ha : a < 256) (hb : b < 256) (h : stepS c a = stepS c b) : a = b :=
  xor_cancel (prime_cancel (xor_lt hc ha) (xor_lt hc hb) h)
theorem sumS_left : ∀ (l : List Nat), Bytes l → ∀ {c d : Nat}, c < 4294967296 → d < 4294967296 → sumS l c = sumS l d → c = d
  | [], _, c, d, _, _, h => h
  | b :: l, hl, c, d, hc, hd, h => by
    rw [sumS_cons, sumS_cons] at h
    exact stepS_left hc hd (hl b (by simp)) (sumS_left l (fun x hx => hl x (by simp [hx])) (stepS_lt _ _) (stepS_lt _ _) h)
theorem sumS_set : ∀ (l : List Nat), Bytes l → ∀ (j : Nat) (hj : j < l.length) (y c : Nat), y < 256 → c < 4294967296 → sumS (l.set j y) c = sumS l c → y = l[j]
  | b :: l, hl, 0, hj, y, c, hy, hc, h => by
    rw [List.set_cons_zero, sumS_cons, sumS_cons] at h
    exact stepS_right hc hy (hl b (by simp)) (sumS_left l (fun x hx => hl x (by simp [hx])) (stepS_lt _ _) (stepS_lt _ _) h)
  | b :: l, hl, j + 1, hj, y, c, hy, hc, h => by
    rw [List.set_cons_succ, sumS_cons, sumS_cons] at h
    exact sumS_set l (fun x hx => hl x (by simp [hx])) j (by simpa using hj) y _ hy (stepS_lt _ _) h
theorem tailS_inj {a b : Nat} (h : tailS a = tailS b) : a = b := by
  simp only [tailS, List.cons.injEq, and_true] at h
  omega
theorem putS_mono : ∀ (m n : Nat), n ≤ m → (putS n).length ≤ (putS m).length := fun m => by
  induction m using Nat.strongRecOn with
  | _ m ih =>
    intro n h
    by_cases e : n < 128
    · have := putS_pos m
      rw [putS_lt e]; show 1 ≤ _; omega
    · rw [putS_ge e, putS_ge (n := m) (by omega), List.length_cons, List.length_cons]
      have := ih (m / 128) (by omega) (n / 128) (Nat.div_le_div_right h)
      omega
theorem frameS_len (s : List Nat) : (frameS s).length = (putS s.length).length + s.length + 4 := by
  unfold frameS; rw [List.length_append, List.length_append]; rfl
theorem frame_len_inj {a b : List Nat} (h : (frameS a).length = (frameS b).length) : a.length = b.length := by
  rw [frameS_len, frameS_len] at h
  rcases Nat.lt_trichotomy a.length b.length with e | e | e
  · have := putS_mono _ _ (Nat.le_of_lt e); omega
  · exact e
  · have := putS_mono _ _ (Nat.le_of_lt e); omega
/-- One byte of a frame is another one: it is refused. -/
theorem frame_harm {s : List Nat} (hs : Bytes s) (i : Nat) (hi : i < (frameS s).length) (y : Nat) (hy : y < 256) (hne : y ≠ (frameS s)[i]) : ∀ u, unframeP ((frameS s).set i y) ≠ some (u, []) := fun u hu => by
  have hB : Bytes ((frameS s).set i y) := fun c hc => by
    rcases List.mem_or_eq_of_mem_set hc with h | rfl
    · exact frameS_byte hs c h
    · exact hy
  obtain ⟨h1, h2⟩ := (unframeP_iff hB u []).1 hu
  rw [List.append_nil] at h2
  have hl := frame_len_inj (a := s) (b := u) (by rw [← h2, List.length_set])
  have hUB : Bytes u := by
    rw [h2] at hB
    unfold frameS at hB
    exact hB.left.right
  have hne : (frameS s)[i]? ≠ some y := fun e => hne (by rw [List.getElem?_eq_getElem hi] at e; injection e with e; exact e.symm)
  unfold frameS at h2 hi hne
  rw [← hl, List.append_assoc, List.append_assoc] at h2
  simp only [List.append_assoc] at hi hne
  generalize putS s.length = P at h2 hi hne
  by_cases hp : i < P.length
  · have e := congrArg (fun l => l[i]?) h2
    rw [List.getElem?_set_self hi, List.getElem?_append_left hp] at e
    exact hne (by rw [List.getElem?_append_left hp, ← e])
  · rw [List.set_append_right _ _ (by omega)] at h2
    have h2 := List.append_cancel_left h2
    rw [List.getElem?_append_right (by omega)] at hne
    have hi2 : i - P.length < (s ++ checkB s).length := by rw [List.length_append] at hi; omega
    generalize i - P.length = j at h2 hne hi2
    have hcl : ∀ s, (checkB s).length = 4 := fun s => rfl
    by_cases hj : j < s.length
    · rw [List.set_append_left _ _ hj] at h2
      obtain ⟨e1, e2⟩ := List.append_inj h2 (by rw [List.length_set]; exact hl)
      have e3 := tailS_inj e2
      rw [← e1] at e3
      refine hne ?_
      rw [List.getElem?_append_left hj, List.getElem?_eq_getElem hj, sumS_set s hs j hj y _ hy (by decide) e3.symm]
    · rw [List.set_append_right _ _ (by omega)] at h2
      obtain ⟨e1, e2⟩ := List.append_inj h2 hl
      subst e1
      have hi3 : j - s.length < (checkB s).length := by rw [List.length_append] at hi2; omega
      have e := congrArg (fun l => l[j - s.length]?) e2
      rw [List.getElem?_set_self hi3] at e
      refine hne ?_
      rw [List.getElem?_append_right (by omega), ← e]
/-- A frame that was cut off is refused. -/
theorem frame_cut {s : List Nat} (hs : Bytes s) (hl : s.length ≤ 65536) (i : Nat) (hi : i < (frameS s).length) : ∀ u, unframeP ((frameS s).take i) ≠ some (u, []) := fun u hu => by
  have hB : Bytes ((frameS s).take i) := fun c hc => frameS_byte hs c (List.mem_of_mem_take hc)
  obtain ⟨h1, h2⟩ := (unframeP_iff hB u []).1 hu
  rw [List.append_nil] at h2
  have h3 : frameS s = frameS u ++ (frameS s).drop i := by rw [← h2, List.take_append_drop]
  have h4 := (unframeP_iff (frameS_byte hs) u _).2 ⟨h1, h3⟩
  have h5 := (unframeP_iff (frameS_byte hs) s []).2 ⟨hl, (List.append_nil _).symm⟩
  rw [h5] at h4
  injection h4 with h4; injection h4 with h6 h7
  have := congrArg List.length h7
  rw [List.length_drop] at this
  simp at this; omega
/-- A frame with more behind it is refused. -/
theorem frame_more {s m : List Nat} (hs : Bytes s) (hm : Bytes m) (hl : s.length ≤ 65536) (hne : m ≠ []) : ∀ u, unframeP (frameS s ++ m) ≠ some (u, []) := fun u hu => by
  have h5 := (unframeP_iff ((frameS_byte hs).app hm) s m).2 ⟨hl, rfl⟩
  rw [h5] at hu
  injection hu with hu; injection hu with h6 h7
  exact hne h7
end Go.Proofs.Ythkkphkeonnnfaa.Abs
