/- A frame one byte of whose content or check was changed is refused, with the error that says so. No condition. -/
import Derived.Test.YtcninjadeagenaaHWirex6
import Derived.Test.YtcninjadeagenaaWireD
namespace Go.Proofs.Ytcninjadeagenaa.Pure
open Go.RowKit Go.Proofs.Ytcninjadeagenaa.HWire Go.Proofs.YtcninjadeagenaaW.PrintWords Go.Proofs.YtcninjadeagenaaW.PrintLast Go.Proofs.Ytcninjadeagenaa.WS
set_option linter.unusedSimpArgs false
set_option linter.unusedVariables false

/-! ### the check tells two texts apart that differ in one byte -/
theorem xor_cancel_left (c a b : Nat) (h : c ^^^ a = c ^^^ b) : a = b := by
  have := congrArg (fun x => c ^^^ x) h
  simpa [← Nat.xor_assoc, Nat.xor_self] using this
theorem xor_cancel_right (a b c : Nat) (h : a ^^^ c = b ^^^ c) : a = b := by
  rw [Nat.xor_comm a, Nat.xor_comm b] at h
  exact xor_cancel_left c a b h
theorem prime_cancel {x y : Int} (hx0 : 0 ≤ x) (hx : x < 4294967296) (hy0 : 0 ≤ y) (hy : y < 4294967296) (h : x * 16777619 % 4294967296 = y * 16777619 % 4294967296) : x = y := by
  have h1 : (x * 16777619 % 4294967296) * 899433627 % 4294967296 = (y * 16777619 % 4294967296) * 899433627 % 4294967296 := by rw [h]
  have e : ∀ z : Int, 0 ≤ z → z < 4294967296 → (z * 16777619 % 4294967296) * 899433627 % 4294967296 = z := by
    intro z z0 z1
    omega
  rw [e x hx0 hx, e y hy0 hy] at h1
  exact h1
theorem fs_left {c d b : Int} (hc0 : 0 ≤ c) (hc : c < 4294967296) (hd0 : 0 ≤ d) (hd : d < 4294967296) (hb0 : 0 ≤ b) (hb : b ≤ 255) (h : fs c b = fs d b) : c = d := by
  unfold fs at h
  have := prime_cancel (x := ((c.toNat ^^^ b.toNat : Nat) : Int)) (y := ((d.toNat ^^^ b.toNat : Nat) : Int)) (Int.natCast_nonneg _) (xor_lt c b hc0 hc hb0 (by omega)) (Int.natCast_nonneg _) (xor_lt d b hd0 hd hb0 (by omega)) h
  have := xor_cancel_right c.toNat d.toNat b.toNat (Int.ofNat.inj this)
  omega
theorem fs_right {c a b : Int} (hc0 : 0 ≤ c) (hc : c < 4294967296) (ha0 : 0 ≤ a) (ha : a ≤ 255) (hb0 : 0 ≤ b) (hb : b ≤ 255) (h : fs c a = fs c b) : a = b := by
  unfold fs at h
  have := prime_cancel (x := ((c.toNat ^^^ a.toNat : Nat) : Int)) (y := ((c.toNat ^^^ b.toNat : Nat) : Int)) (Int.natCast_nonneg _) (xor_lt c a hc0 hc ha0 (by omega)) (Int.natCast_nonneg _) (xor_lt c b hc0 hc hb0 (by omega)) h
  have := xor_cancel_left c.toNat a.toNat b.toNat (Int.ofNat.inj this)
  omega
theorem fnv_left (l : List Int) (hl : isB l) : ∀ {c d : Int}, 0 ≤ c → c < 4294967296 → 0 ≤ d → d < 4294967296 → fnv l c = fnv l d → c = d := by
  induction l with
  | nil => intro c d _ _ _ _ h; exact h
  | cons b l ih =>
    intro c d hc0 hc hd0 hd h
    have hb := hl b List.mem_cons_self
    have r1 := fs_range c b
    have r2 := fs_range d b
    exact fs_left hc0 hc hd0 hd hb.1 hb.2 (ih (fun x hx => hl x (List.mem_cons_of_mem _ hx)) r1.1 r1.2 r2.1 r2.2 h)
theorem fnv_append (a b : List Int) (c : Int) : fnv (a ++ b) c = fnv b (fnv a c) := by simp [fnv]
theorem fnv_one (p q : List Int) (x y : Int) (hq : isB q) (hx0 : 0 ≤ x) (hx : x ≤ 255) (hy0 : 0 ≤ y) (hy : y ≤ 255) {c : Int} (hc0 : 0 ≤ c) (hc : c < 4294967296) (h : fnv (p ++ x :: q) c = fnv (p ++ y :: q) c) : x = y := by
  rw [fnv_append, fnv_append] at h
  have r := fnv_range p c hc0 hc
  have r1 := fs_range (fnv p c) x
  have r2 := fs_range (fnv p c) y
  exact fs_right r.1 r.2 hx0 hx hy0 hy (fnv_left q hq r1.1 r1.2 r2.1 r2.2 h)
theorem ckl_inj {s t : ByteArray} (h : ckl s = ckl t) : sum s = sum t := by
  have r1 := sum_range s
  have r2 := sum_range t
  simp only [ckl, List.cons.injEq, and_true] at h
  omega
theorem u8_xor {x y : Int} (hx0 : 0 ≤ x) (hx : x ≤ 255) (hy0 : 0 < y) (hy : y ≤ 255) : 0 ≤ Go.bits .xor .u8 x y ∧ Go.bits .xor .u8 x y ≤ 255 ∧ Go.bits .xor .u8 x y ≠ x := by
  have e := bits_xor .u8 8 (by decide) wraps_u8 x.toNat y.toNat (by omega) (by omega)
  rw [show ((x.toNat : Nat) : Int) = x from by omega, show ((y.toNat : Nat) : Int) = y from by omega] at e
  have hlt := Nat.xor_lt_two_pow (x := x.toNat) (y := y.toNat) (n := 8) (by omega) (by omega)
  rw [e]
  refine ⟨by omega, by omega, fun hc => ?_⟩
  have h2 : x.toNat ^^^ y.toNat = x.toNat ^^^ 0 := by rw [Nat.xor_zero]; omega
  have := xor_cancel_left _ _ _ h2
  omega

/-! ### a list with one of its things changed -/
theorem set_split (l : List Int) (i : Nat) (h : i < l.length) (y : Int) : l = l.take i ++ l[i] :: l.drop (i + 1) ∧ l.set i y = l.take i ++ y :: l.drop (i + 1) := by
  constructor
  · rw [← List.drop_eq_getElem_cons h, List.take_append_drop]
  · rw [List.set_eq_take_append_cons_drop, if_pos h]
theorem isB_set {l : List Int} (h : isB l) (i : Nat) {y : Int} (h0 : 0 ≤ y) (h1 : y ≤ 255) : isB (l.set i y) := by
  intro x hx
  rcases List.mem_or_eq_of_mem_set hx with hx | rfl
  · exact h x hx
  · exact ⟨h0, h1⟩

/-- What is read of a frame with one byte behind its head changed. -/
theorem UF_harm (s : ByteArray) (hs : s.size ≤ 65536) (j : Nat) (hj : j < s.size + 4) (y : Int) (hy0 : 0 ≤ y) (hy1 : y ≤ 255) (hne : ∀ h : (vi s.size).length + j < (fl s).length, y ≠ (fl s)[(vi s.size).length + j]) :
    UF (strOfNums ((fl s).set ((vi s.size).length + j) y)) 0 = (⟨#[]⟩, 0, 32) := by
  have hv := vi_pos s.size
  have hv2 := vi_len10 (n := s.size) (by omega)
  have hfl : (fl s).length = (vi s.size).length + s.size + 4 := by simp [fl, tl, ckl, bytesOf_length]; omega
  have hflB : isB (fl s) := by
    intro x hx
    rcases List.mem_append.1 hx with hx | hx
    · exact tl_isB s x hx
    · exact ckl_isB s x hx
  obtain ⟨G, hG⟩ : ∃ G, G = (fl s).set ((vi s.size).length + j) y := ⟨_, rfl⟩
  have hGB : isB G := by rw [hG]; exact isB_set hflB _ hy0 hy1
  have hGl : G.length = (vi s.size).length + s.size + 4 := by rw [hG, List.length_set, hfl]
  rw [← hG]
  have hb : bytesOf (strOfNums G) = G := bytesOf_S G hGB
  have hsz : (strOfNums G).size = G.length := S_size G
  -- the head stays
  have hhead : G = vi s.size ++ G.drop (vi s.size).length := by
    conv => lhs; rw [← List.take_append_drop (vi s.size).length G]
    congr 1
    rw [hG, List.take_set_of_le (by omega), fl, tl, List.append_assoc, List.take_left]
  have hK : TK (strOfNums G) 0 = ((s.size : Int), ((vi s.size).length : Int), 0) := by
    have := TK_of_vi (s := strOfNums G) (at_ := 0) (n := (s.size : Int)) (r := G.drop (vi s.size).length) (by omega) (by omega) (by omega) (by rw [hb, Int.toNat_natCast]; simpa using hhead)
    rw [this, Int.toNat_natCast]
    simp
  have hT : TT (strOfNums G) 0 = (strOfNums ((G.drop (vi s.size).length).take s.size), (((vi s.size).length + s.size : Nat) : Int), 0) := by
    unfold TT
    rw [hK]
    dsimp only
    rw [if_pos rfl, if_neg (by omega), if_neg (by rw [hsz, hGl]; omega)]
    have e1 : (((vi s.size).length : Nat) : Int).toNat = (vi s.size).length := by omega
    have e2 : ((((vi s.size).length : Nat) : Int) + (s.size : Int)).toNat = (vi s.size).length + s.size := by omega
    rw [e1, e2]
    have hcut : (strOfNums G).extract (vi s.size).length ((vi s.size).length + s.size) = strOfNums ((G.drop (vi s.size).length).take s.size) := by
      refine cut_eq (r := G.drop ((vi s.size).length + s.size)) ?_ ?_
      · rw [hb, ← List.drop_drop, List.take_append_drop]
      · rw [List.length_take, List.length_drop]; omega
    rw [hcut]
    simp
  obtain ⟨T, hTe⟩ : ∃ T, T = (G.drop (vi s.size).length).take s.size := ⟨_, rfl⟩
  have hTB : isB T := by
    intro x hx
    rw [hTe] at hx
    exact hGB x (List.mem_of_mem_drop (List.mem_of_mem_take hx))
  have hTl : T.length = s.size := by rw [hTe, List.length_take, List.length_drop]; omega
  have hC : (strOfNums G).extract ((vi s.size).length + s.size) ((vi s.size).length + s.size + 4) = strOfNums (G.drop ((vi s.size).length + s.size)) := by
    refine cut_eq (r := []) ?_ ?_
    · rw [hb, List.append_nil]
    · rw [List.length_drop]; omega
  unfold UF
  rw [hT, ← hTe]
  dsimp only
  rw [if_pos rfl, if_neg (by rw [hsz, hGl]; omega), if_neg ?_]
  have e3 : (((vi s.size).length + s.size : Nat) : Int).toNat = (vi s.size).length + s.size := by omega
  have e4 : ((((vi s.size).length + s.size : Nat) : Int) + 4).toNat = (vi s.size).length + s.size + 4 := by omega
  rw [e3, e4, hC]
  intro hc
  -- the check's bytes are those of the text that is read
  have hck : G.drop ((vi s.size).length + s.size) = ckl (strOfNums T) := by
    have := congrArg bytesOf hc
    rw [ck, bytesOf_S _ (ckl_isB _), bytesOf_S _ (fun x hx => hGB x (List.mem_of_mem_drop hx))] at this
    exact this
  have hbT : bytesOf (strOfNums T) = T := bytesOf_S T hTB
  have hlt : (vi s.size).length + j < (fl s).length := by omega
  have hne2 := hne hlt
  -- the old frame's parts
  have hfd : (fl s).drop (vi s.size).length = bytesOf s ++ ckl s := by rw [fl, tl, List.append_assoc, List.drop_left]
  have hGd : G.drop (vi s.size).length = (bytesOf s ++ ckl s).set j y := by
    rw [hG, List.drop_set, if_neg (by omega), hfd, Nat.add_sub_cancel_left]
  have hold : (fl s)[(vi s.size).length + j] = (bytesOf s ++ ckl s)[j]'(by rw [List.length_append, bytesOf_length]; simp [ckl]; omega) := by
    have h3 : ((fl s).drop (vi s.size).length)[j]? = (bytesOf s ++ ckl s)[j]? := by rw [hfd]
    rw [List.getElem?_drop, List.getElem?_eq_getElem hlt, List.getElem?_eq_getElem (by rw [List.length_append, bytesOf_length]; simp [ckl]; omega)] at h3
    exact Option.some.inj h3
  rw [hold] at hne2
  have hbl := bytesOf_length s
  by_cases hin : j < s.size
  · -- in the text
    have hj2 : j < (bytesOf s).length := by omega
    have hTs : T = (bytesOf s).set j y := by
      rw [hTe, hGd, List.set_append_left _ _ hj2]
      have : s.size = ((bytesOf s).set j y).length := by rw [List.length_set, hbl]
      rw [this, List.take_left]
    have hcs : G.drop ((vi s.size).length + s.size) = ckl s := by
      rw [← List.drop_drop, hGd, List.set_append_left _ _ hj2]
      have : s.size = ((bytesOf s).set j y).length := by rw [List.length_set, hbl]
      conv => lhs; rw [this]
      exact List.drop_left
    rw [hcs] at hck
    have hsum := ckl_inj hck
    unfold sum at hsum
    rw [hbT, hTs] at hsum
    obtain ⟨s1, s2⟩ := set_split (bytesOf s) j hj2 y
    rw [s2] at hsum
    rw [List.getElem_append_left hj2] at hne2
    have hB := bytesOf_isB s
    have hx := hB (bytesOf s)[j] (List.getElem_mem hj2)
    have hrest : isB ((bytesOf s).drop (j + 1)) := fun x hx => hB x (List.mem_of_mem_drop hx)
    have hsum2 : fnv ((bytesOf s).take j ++ (bytesOf s)[j] :: (bytesOf s).drop (j + 1)) 2166136261 = fnv ((bytesOf s).take j ++ y :: (bytesOf s).drop (j + 1)) 2166136261 := by rw [← s1]; exact hsum
    exact hne2 (fnv_one _ _ _ _ hrest hx.1 hx.2 hy0 hy1 (by omega) (by omega) hsum2).symm
  · -- in the check
    have hj2 : (bytesOf s).length ≤ j := by omega
    have hTs : T = bytesOf s := by
      rw [hTe, hGd, List.set_append_right _ _ hj2]
      rw [← hbl, List.take_left]
    have hcs : G.drop ((vi s.size).length + s.size) = (ckl s).set (j - s.size) y := by
      rw [← List.drop_drop, hGd, List.set_append_right _ _ hj2, hbl]
      conv => lhs; rw [← hbl]
      rw [List.drop_left, hbl]
    rw [hcs] at hck
    have e5 : ckl (strOfNums T) = ckl s := by rw [hTs, S_bytesOf]
    rw [e5] at hck
    have hlc : j - s.size < (ckl s).length := by simp [ckl]; omega
    have h6 := congrArg (fun l => l[j - s.size]?) hck
    simp only [List.getElem?_set_self hlc, List.getElem?_eq_getElem hlc] at h6
    rw [List.getElem_append_right hj2] at hne2
    have h7 := Option.some.inj h6
    apply hne2
    rw [h7]
    congr 1
    omega
theorem cut_front (l : List Int) (hl : isB l) (j : Nat) : (strOfNums l).extract 0 j = strOfNums (l.take j) := by
  apply eq_of_bytesOf
  rw [bytesOf_extract, bytesOf_S l hl, bytesOf_S _ (fun x hx => hl x (List.mem_of_mem_take hx))]
  simp
theorem cut_back (l : List Int) (hl : isB l) (j : Nat) : (strOfNums l).extract j (strOfNums l).size = strOfNums (l.drop j) := by
  apply eq_of_bytesOf
  rw [bytesOf_extract, bytesOf_S l hl, bytesOf_S _ (fun x hx => hl x (List.mem_of_mem_drop hx)), S_size, List.take_of_length_le]
  rw [List.length_drop]
  omega
theorem harm_end (k : Nat) (hk : 65600 < k) (s : ByteArray) (hs : s.size ≤ 65536) (y : Int) (hy0 : 0 < y) (hy1 : y ≤ 255) (J : Int) (h0 : ((vi s.size).length : Int) ≤ J) (h1 : J < (vi s.size).length + s.size + 4) :
    (if 0 ≤ J then (if J ≤ ((strOfNums (fl s)).size : Int) then (if J < ((strOfNums (fl s)).size : Int) then ((some (([Go.bits .xor .u8 (bt (strOfNums (fl s)) J) y] : List Int) : List Int)).bind fun y231 => (if ((strOfNums (fl s)).extract 0 (J : Int).toNat).size + (strOfNums y231).size ≤ 9223372036854775807 then (if 0 ≤ (wrap64 (J + 1)) then (if (wrap64 (J + 1)) ≤ ((strOfNums (fl s)).size : Int) then (if (((strOfNums (fl s)).extract 0 (J : Int).toNat) ++ (strOfNums y231)).size + ((strOfNums (fl s)).extract ((wrap64 (J + 1)) : Int).toNat (strOfNums (fl s)).size).size ≤ 9223372036854775807 then ((wire_Unframe.f k ((((strOfNums (fl s)).extract 0 (J : Int).toNat) ++ (strOfNums y231)) ++ ((strOfNums (fl s)).extract ((wrap64 (J + 1)) : Int).toNat (strOfNums (fl s)).size)) 0).bind fun bt234 => (if true = true then (if bt234.1.toList = ([] : List UInt8) then (if bt234.2.1 = 0 then (some (bt234.2.2 == 32)) else (some false)) else (some false)) else (some false))) else (none)) else (none)) else (none)) else (none))) else (none)) else (none)) else (none)) = some true := by
  have hv := vi_pos s.size
  have hv2 := vi_len10 (n := s.size) (by omega)
  have hfl : (fl s).length = (vi s.size).length + s.size + 4 := by simp [fl, tl, ckl, bytesOf_length]; omega
  have hflB : isB (fl s) := by
    intro x hx
    rcases List.mem_append.1 hx with hx | hx
    · exact tl_isB s x hx
    · exact ckl_isB s x hx
  have hsz : (strOfNums (fl s)).size = (fl s).length := S_size _
  have hJ1 : wrap64 (J + 1) = J + 1 := wrap64_id (by omega) (by omega)
  have hJn : J.toNat < (fl s).length := by omega
  have hbt : bt (strOfNums (fl s)) J = (fl s)[J.toNat] := by
    rw [bt_eq, bytesOf_S _ hflB]
    simp [hJn]
  have hx := hflB (fl s)[J.toNat] (List.getElem_mem hJn)
  have hu := u8_xor hx.1 hx.2 hy0 hy1
  have e1 : (J + 1).toNat = J.toNat + 1 := by omega
  rw [if_pos (by omega), if_pos (by rw [hsz]; omega), if_pos (by rw [hsz]; omega), Option.bind_some, hJ1, hbt, cut_front _ hflB, e1, cut_back _ hflB]
  rw [if_pos (by rw [S_size, S_size, List.length_take]; simp only [List.length_cons, List.length_nil]; omega), if_pos (by omega), if_pos (by rw [hsz]; omega), if_pos (by rw [ByteArray.size_append, S_size, S_size, S_size, List.length_take, List.length_drop]; simp only [List.length_cons, List.length_nil]; omega)]
  rw [← S_append, ← S_append, List.append_assoc]
  obtain ⟨_, e2⟩ := set_split (fl s) J.toNat hJn (Go.bits .xor .u8 (fl s)[J.toNat] y)
  have e3 : (fl s).take J.toNat ++ ([Go.bits .xor .u8 (fl s)[J.toNat] y] ++ (fl s).drop (J.toNat + 1)) = (fl s).set J.toNat (Go.bits .xor .u8 (fl s)[J.toNat] y) := by rw [e2]; rfl
  obtain ⟨j, hj⟩ : ∃ j, J.toNat = (vi s.size).length + j := ⟨J.toNat - (vi s.size).length, by omega⟩
  have hne : ∀ h : (vi s.size).length + j < (fl s).length, Go.bits .xor .u8 (fl s)[J.toNat] y ≠ (fl s)[(vi s.size).length + j] := by
    intro h
    have e4 : (fl s)[(vi s.size).length + j] = (fl s)[J.toNat] := by congr 1; omega
    rw [e4]
    exact hu.2.2
  have hlen2 : ((fl s).set J.toNat (Go.bits .xor .u8 (fl s)[J.toNat] y)).length = (fl s).length := List.length_set
  rw [e3, Unframe_f k _ 0 (by rw [S_size, hlen2]; omega) hk, Option.bind_some]
  have hU := UF_harm s hs j (by omega) (Go.bits .xor .u8 (fl s)[J.toNat] y) hu.1 hu.2.1 hne
  rw [← hj] at hU
  rw [hU, if_pos rfl, if_pos (by simp), if_pos rfl]
  rfl
theorem harm_f (s : ByteArray) (at_ y : Int) (ha0 : -9223372036854775808 ≤ at_) (ha1 : at_ ≤ 9223372036854775807) (hy0 : 0 ≤ y) (hy1 : y ≤ 255) : tripwirelaw03_WireHarm.f (65700 + 2) s at_ y = some true := by
  rw [tripwirelaw03_WireHarm.f, works_f _ (by omega), Option.bind_some]
  by_cases hl : (s.size : Int) > 65536
  · rw [if_pos hl, tripwirelaw03_WireHarm.j0, if_pos rfl]
  · rw [if_neg hl]
    by_cases hz : y = 0
    · rw [show (y == 0) = true from beq_iff_eq.mpr hz, tripwirelaw03_WireHarm.j0, if_pos rfl]
    · have hv := vi_pos s.size
      have hv2 := vi_len10 (n := s.size) (by omega)
      have hfl : (fl s).length = (vi s.size).length + s.size + 4 := by simp [fl, tl, ckl, bytesOf_length]; omega
      have hu : IntKind.u64.wrap (s.size : Int) = s.size := u64_id (by omega) (by omega)
      have hn : ((s.size : Nat) : Int).toNat = s.size := by omega
      have e0 : wrap64 (((vi s.size).length : Int) + s.size) = (vi s.size).length + s.size := wrap64_id (by omega) (by omega)
      have e1 : wrap64 (((vi s.size).length : Int) + s.size + 4) = (vi s.size).length + s.size + 4 := wrap64_id (by omega) (by omega)
      have e2 : wrap64 ((s.size : Int) + 4) = s.size + 4 := wrap64_id (by omega) (by omega)
      rw [show (y == 0) = false from beq_eq_false_iff_ne.mpr hz, tripwirelaw03_WireHarm.j0, if_neg (by simp), Frame_f _ s (by omega) (by omega), Option.bind_some, hu, Size_f _ (by omega) (by omega), Option.bind_some, hn, if_pos rfl]
      rw [show (((strOfNums (fl s)).size : Int) != wrap64 (wrap64 (((vi s.size).length : Int) + s.size) + 4)) = false from by rw [e0, e1, S_size, hfl, bne_eq_false_iff_eq]; omega]
      rw [tripwirelaw03_WireHarm.j1, if_neg (by simp), e2]
      by_cases hn2 : at_ < 0
      · have m0 := Int.emod_nonneg (-(at_ + 1)) (show (s.size : Int) + 4 ≠ 0 by omega)
        have m1 := Int.emod_lt_of_pos (-(at_ + 1)) (show 0 < (s.size : Int) + 4 by omega)
        have e3 : wrap64 (at_ + 1) = at_ + 1 := wrap64_id (by omega) (by omega)
        have e4 : wrap64 (-(at_ + 1)) = -(at_ + 1) := wrap64_id (by omega) (by omega)
        have e5 : Int.tmod (-(at_ + 1)) ((s.size : Int) + 4) = -(at_ + 1) % ((s.size : Int) + 4) := Int.tmod_eq_emod_of_nonneg (by omega)
        rw [if_pos hn2, if_neg (by omega), e3, e4, e5]
        generalize -(at_ + 1) % ((s.size : Int) + 4) = m at m0 m1 ⊢
        have e6 : wrap64 (((vi s.size).length : Int) + m) = (vi s.size).length + m := wrap64_id (by omega) (by omega)
        rw [e6]
        exact harm_end _ (by omega) s (by omega) y (by omega) hy1 _ (by omega) (by omega)
      · have m0 := Int.emod_nonneg at_ (show (s.size : Int) + 4 ≠ 0 by omega)
        have m1 := Int.emod_lt_of_pos at_ (show 0 < (s.size : Int) + 4 by omega)
        have e5 : Int.tmod at_ ((s.size : Int) + 4) = at_ % ((s.size : Int) + 4) := Int.tmod_eq_emod_of_nonneg (by omega)
        rw [if_neg hn2, if_neg (by omega), e5]
        generalize at_ % ((s.size : Int) + 4) = m at m0 m1 ⊢
        have e6 : wrap64 (((vi s.size).length : Int) + m) = (vi s.size).length + m := wrap64_id (by omega) (by omega)
        rw [e6]
        exact harm_end _ (by omega) s (by omega) y (by omega) hy1 _ (by omega) (by omega)
theorem WireHarm : tripwirelaw03_WireHarm.Pure := by
  intro s at_ y _ ha hy
  simp only [Lit.wf, IntKind.min, IntKind.max, IntKind.signed, IntKind.bits, Bool.and_eq_true, decide_eq_true_eq] at ha hy
  have a0 := ha.1
  have a1 := ha.2
  have y0 := hy.1
  have y1 := hy.2
  simp at a0 a1 y0 y1
  exact ⟨_, harm_f s at_ y (by omega) (by omega) (by omega) (by omega)⟩
end Go.Proofs.Ytcninjadeagenaa.Pure
