/- A number is read: plain. No condition but those that each theorem names. -/
import Derived.Test.YthkkphkeonnnfaaVA
import Derived.Test.YthkkphkeonnnfaaVC
import Derived.Test.YthkkphkeonnnfaaTA
namespace Go.Proofs.Ythkkphkeonnnfaa.Abs
open Go
set_option linter.unusedVariables false
set_option linter.unusedSimpArgs false
set_option maxRecDepth 100000
/-- The rest of a number, from its i-th byte on. -/
def takeG : List Nat → Nat → Nat → Option (Nat × List Nat)
  | [], _, _ => none
  | c :: l, i, n => if i = 9 ∧ c ≠ 1 then none else if 128 ≤ c then takeG l (i + 1) (n + c % 128 * 128 ^ i) else if c = 0 ∧ 0 < i then none else some (n + c % 128 * 128 ^ i, l)
def takeP (l : List Nat) : Option (Nat × List Nat) := takeG l 0 0
theorem pows {i : Nat} (h : i ≤ 9) : 128 ^ (i + 1) = 128 * 128 ^ i ∧ 1 ≤ 128 ^ i ∧ 128 ^ i ≤ 9223372036854775808 ∧ (i ≤ 8 → 128 ^ (i + 1) ≤ 9223372036854775808) ∧ (i = 9 → 128 ^ i = 9223372036854775808) := by
  rcases (by omega : i = 0 ∨ i = 1 ∨ i = 2 ∨ i = 3 ∨ i = 4 ∨ i = 5 ∨ i = 6 ∨ i = 7 ∨ i = 8 ∨ i = 9) with rfl | rfl | rfl | rfl | rfl | rfl | rfl | rfl | rfl | rfl <;> decide
theorem takeG_iff : ∀ (l : List Nat) (i n : Nat), (∀ c ∈ l, c < 256) → i ≤ 9 → n < 128 ^ i → ∀ m r, takeG l i n = some (m, r) ↔ ∃ k, m = n + k * 128 ^ i ∧ m < 18446744073709551616 ∧ l = putS k ++ r ∧ (0 < i → k ≠ 0)
  | [], i, n, hb, hi, hn, m, r => by
    refine ⟨fun h => (by cases h), fun ⟨k, _, _, h, _⟩ => ?_⟩
    have := congrArg List.length h
    have := putS_pos k
    simp at *; omega
  | c :: l, i, n, hb, hi, hn, m, r => by
    have hc := hb c (by simp)
    obtain ⟨p1, p2, p3, p4, p5⟩ := pows hi
    simp only [takeG]
    by_cases h9 : i = 9 ∧ c ≠ 1
    · rw [if_pos h9]
      refine ⟨fun h => (by cases h), fun ⟨k, h1, h2, h3, h4⟩ => ?_⟩
      exfalso
      have hk0 := h4 (by omega)
      have hp := p5 h9.1
      rw [hp] at h1
      have hk : k = 1 := by omega
      subst hk
      rw [putS_lt (by omega)] at h3
      injection h3 with h3; exact h9.2 h3
    rw [if_neg h9]
    by_cases h128 : 128 ≤ c
    · rw [if_pos h128]
      have hi8 : i ≤ 8 := by
        by_cases e : i = 9
        · exact absurd ⟨e, by omega⟩ h9
        · omega
      have hn' : n + c % 128 * 128 ^ i < 128 ^ (i + 1) := by
        rw [p1]
        have : c % 128 * 128 ^ i ≤ 127 * 128 ^ i := Nat.mul_le_mul_right _ (by omega)
        omega
      rw [takeG_iff l (i + 1) _ (fun x hx => hb x (by simp [hx])) (by omega) hn' m r]
      constructor
      · rintro ⟨k, h1, h2, h3, h4⟩
        have hk := h4 (by omega)
        refine ⟨c % 128 + 128 * k, ?_, h2, ?_, fun _ => by omega⟩
        · rw [h1, p1, Nat.add_mul, ← Nat.mul_assoc, Nat.mul_comm k 128]; omega
        · rw [putS_ge (by omega), show (c % 128 + 128 * k) % 128 + 128 = c by omega, show (c % 128 + 128 * k) / 128 = k by omega, h3]; rfl
      · rintro ⟨k, h1, h2, h3, h4⟩
        by_cases hk : k < 128
        · rw [putS_lt hk] at h3
          injection h3 with h3; omega
        · rw [putS_ge hk] at h3
          injection h3 with h3 h5
          refine ⟨k / 128, ?_, h2, h5, fun _ => by omega⟩
          rw [h1, p1, h3]
          have e : k * 128 ^ i = (k % 128 + 128 * (k / 128)) * 128 ^ i := by congr 1; omega
          rw [e, Nat.add_mul, show (k % 128 + 128) % 128 = k % 128 by omega, ← Nat.mul_assoc (k / 128), Nat.mul_comm (k / 128) 128]; omega
    · rw [if_neg h128]
      have hcm : c % 128 = c := Nat.mod_eq_of_lt (by omega)
      by_cases h0 : c = 0 ∧ 0 < i
      · rw [if_pos h0]
        refine ⟨fun h => (by cases h), fun ⟨k, h1, h2, h3, h4⟩ => ?_⟩
        exfalso
        have hk := h4 h0.2
        by_cases hk' : k < 128
        · rw [putS_lt hk'] at h3; injection h3 with h3; omega
        · rw [putS_ge hk'] at h3; injection h3 with h3; omega
      · rw [if_neg h0, hcm]
        constructor
        · intro h
          injection h with h; injection h with h1 h2
          refine ⟨c, h1.symm, ?_, by rw [putS_lt (by omega), h2]; rfl, fun hi0 e => h0 ⟨e, hi0⟩⟩
          rw [← h1]
          by_cases e : i = 9
          · have hc1 : c = 1 := by
              by_cases e1 : c = 1
              · exact e1
              · exact absurd ⟨e, e1⟩ h9
            subst hc1
            omega
          · have h8 := p4 (by omega)
            have : c * 128 ^ i ≤ 127 * 128 ^ i := Nat.mul_le_mul_right _ (by omega)
            omega
        · rintro ⟨k, h1, h2, h3, h4⟩
          by_cases hk' : k < 128
          · rw [putS_lt hk'] at h3
            injection h3 with h3 h5
            subst h3
            rw [h1, h5]; rfl
          · rw [putS_ge hk'] at h3; injection h3 with h3; omega
/-- A number is read just where it is written. -/
theorem takeP_iff {l : List Nat} (hb : ∀ c ∈ l, c < 256) (m : Nat) (r : List Nat) : takeP l = some (m, r) ↔ m < 18446744073709551616 ∧ l = putS m ++ r := by
  unfold takeP
  rw [takeG_iff l 0 0 hb (by omega) (by simp) m r]
  constructor
  · rintro ⟨k, h1, h2, h3, -⟩
    have : m = k := by rw [h1]; simp
    subst this
    exact ⟨h2, h3⟩
  · rintro ⟨h1, h2⟩
    exact ⟨m, by simp, h1, h2, fun h => by omega⟩
theorem takeP_put {n : Nat} (hn : n < 18446744073709551616) {r : List Nat} (hr : ∀ c ∈ r, c < 256) : takeP (putS n ++ r) = some (n, r) :=
  (takeP_iff (fun c hc => by
    rcases List.mem_append.1 hc with h | h
    · exact putS_byte _ c h
    · exact hr c h) n r).2 ⟨hn, rfl⟩
end Go.Proofs.Ythkkphkeonnnfaa.Abs
/- Numbers and texts are read: the program's functions. No condition but those that each theorem names. -/
namespace Go.Proofs.Ythkkphkeonnnfaa.Abs
open Go
set_option linter.unusedVariables false
set_option linter.unusedSimpArgs false
set_option maxRecDepth 100000
set_option maxHeartbeats 4000000
section
variable {P : Program} {g : Cg} {n : Nat} {V : K → Option (List AV)} {rs : List ResultVar} {st : List Fr} {Γ : Gm} {Δ : Dm} {Q : RO → Dm → Prop} {b : Bool} {all rest : List Oper} {ty : TypeId} {pos : String} {after : Array Edge} {gd : Option (Nat × Bool)} {d : Nat} {x y z : Operand} {tb : T TI}
variable {t : Nat} {z1 : Bool} {z2 z3 : Nat} {z4 : Option AV}
noncomputable def egO (Γ : Gm) : Option Operand → Option (Option AV)
  | none => some none
  | some x => match eg Γ x with
    | some v => some (some v)
    | none => none
theorem TmG.egO {tm : Tm} (h : TmG Γ tm) : ∀ {x : Option Operand} {v : Option AV}, egO Γ x = some v → evO tm x = some v
  | none, v, e => e
  | some x, v, e => by
    simp only [Abs.egO] at e
    split at e
    · rename_i u hu
      injection e with e; subst e
      show (match ev tm x with | some v => some (some v) | none => none) = _
      rw [h.eg hu]
    · cases e
/-- A part of a text, or of a row. -/
theorem W.sli {lo hi mx : Option Operand} {vlo vhi vmx : Option AV} {u v : AV} (hx : eg Γ x = some u) (hlo : egO Γ lo = some vlo) (hhi : egO Γ hi = some vhi) (hmx : egO Γ mx = some vmx) (hn : Nat.ble (d + 1) n = true) (hw : wantG all Γ ⟨some d, .slice t x lo hi mx, ty, pos, after, gd⟩ = some true)
    (hs : opSlice P t (some u) (some vlo) (some vhi) (some vmx) = some v) (h : W P g n V rs (.o b all rest :: st) .nrm ((d, v) :: Γ) Δ Q) : W P g n V rs (.o b all (⟨some d, .slice t x lo hi mx, ty, pos, after, gd⟩ :: rest) :: st) .nrm Γ Δ Q :=
  W.pure rfl hn hw (fun tm s' call hG => by
    show ofO (opSlice P t (ev tm x) (evO tm lo) (evO tm hi) (evO tm mx)) s' = _
    rw [hG.eg hx, hG.egO hlo, hG.egO hhi, hG.egO hmx, hs]; rfl) h
theorem cut_from (hT : TabOk P tb) {s : List Nat} {k : IntKind} {a : Int} (ht : ti tb t = some ⟨.str, z1, z2, z3, z4⟩) (h0 : 0 ≤ a) (h1 : a ≤ s.length) : opSlice P t (some (.str s)) (some (some (.int k a))) (some none) (some none) = some (.str (s.drop a.toNat)) := by
  obtain ⟨m, rfl⟩ := Int.eq_ofNat_of_zero_le h0
  have hs : subL s m (s.length - m) = some (s.drop m) := by
    unfold subL
    rw [dropL_mk2 s m (by omega)]
    show takeL _ (s.drop m) = _
    rw [← List.length_drop]; exact takeL_all _
  have hb : bound1 s.length 0 (some (.int k (m : Int))) = some m := by
    show (if 0 ≤ (m : Int) ∧ (m : Int) ≤ (s.length : Int) then some (m : Int).toNat else none) = _
    rw [if_pos ⟨by omega, by omega⟩]; rfl
  have hb1 : bound1 s.length s.length none = some s.length := rfl
  simp only [opSlice, hT.str ht, hb1, hb, hs, Int.toNat_natCast]
theorem cut_fromTo (hT : TabOk P tb) {s : List Nat} {k k' : IntKind} {a e : Int} (ht : ti tb t = some ⟨.str, z1, z2, z3, z4⟩) (h0 : 0 ≤ a) (h1 : a ≤ e) (h2 : e ≤ s.length) : opSlice P t (some (.str s)) (some (some (.int k a))) (some (some (.int k' e))) (some none) = some (.str ((s.drop a.toNat).take (e - a).toNat)) := by
  obtain ⟨m, rfl⟩ := Int.eq_ofNat_of_zero_le h0
  obtain ⟨z, rfl⟩ := Int.eq_ofNat_of_zero_le (show 0 ≤ e by omega)
  have hs : subL s m (z - m) = some ((s.drop m).take (z - m)) := by
    have hl : ((s.drop m).take (z - m)).length = z - m := by rw [List.length_take, List.length_drop]; omega
    unfold subL
    rw [dropL_mk2 s m (by omega)]
    show takeL (z - m) (s.drop m) = _
    have := takeL_mk ((s.drop m).take (z - m)) ((s.drop m).drop (z - m))
    rw [hl, List.take_append_drop] at this
    exact this
  have hb : bound1 z 0 (some (.int k (m : Int))) = some m := by
    show (if 0 ≤ (m : Int) ∧ (m : Int) ≤ (z : Int) then some (m : Int).toNat else none) = _
    rw [if_pos ⟨by omega, by omega⟩]; rfl
  have hb1 : bound1 s.length s.length (some (.int k' (z : Int))) = some z := by
    show (if 0 ≤ (z : Int) ∧ (z : Int) ≤ (s.length : Int) then some (z : Int).toNat else none) = _
    rw [if_pos ⟨by omega, by omega⟩]; rfl
  have e9 : ((z : Int) - (m : Int)).toNat = z - m := by omega
  simp only [opSlice, hT.str ht, hb1, hb, hs, Int.toNat_natCast, e9]
end
theorem bits_or {a b : Nat} (ha : a < 18446744073709551616) (hb : b < 18446744073709551616) : bitI .or .u64 (a : Int) (b : Int) = ((a ||| b : Nat) : Int) := by
  show IntKind.u64.wrap ((BitVec.ofInt 64 a ||| BitVec.ofInt 64 b).toNat : Int) = _
  rw [BitVec.toNat_or]
  have e : ∀ c : Nat, c < 18446744073709551616 → (BitVec.ofInt 64 (c : Int)).toNat = c := fun c hc => by
    rw [BitVec.ofInt_natCast, BitVec.toNat_ofNat, Nat.mod_eq_of_lt hc]
  have hx := Nat.or_lt_two_pow (n := 64) (x := a) (y := b) ha hb
  rw [e a ha, e b hb, wrapU64]
  have hx : a ||| b < 18446744073709551616 := hx
  omega
theorem and127 : ∀ c : Fin 256, bitI .and .u8 (c.val : Int) 127 = ((c.val % 128 : Nat) : Int) := by decide +kernel
theorem or_add {n c i : Nat} (hn : n < 128 ^ i) : n ||| (c * 128 ^ i) = n + c * 128 ^ i := by
  have e : (128 : Nat) ^ i = 2 ^ (7 * i) := by rw [Nat.pow_mul]
  rw [e] at hn ⊢
  have := Nat.two_pow_add_eq_or_of_lt hn c
  rw [Nat.mul_comm c, Nat.or_comm, ← this]; omega
end Go.Proofs.Ythkkphkeonnnfaa.Abs
/- A number is read: the program's Take. No condition but those that each theorem names. -/
namespace Go.Proofs.Ythkkphkeonnnfaa.Abs
open Go
set_option linter.unusedVariables false
set_option linter.unusedSimpArgs false
set_option maxRecDepth 100000
set_option maxHeartbeats 4000000
attribute [local irreducible] W Cl Bd
variable {g : Cg} {V : K → Option (List AV)}
theorem shl_part {c i : Nat} (hc : c < 256) (hi : i ≤ 9) (h9 : i = 9 → c = 1) : IntKind.u64.wrap (IntKind.u64.wrap (bitI .and .u8 ((c % 256 : Nat) : Int) 127) * 2 ^ (min (IntKind.i64.wrap (7 * (i : Int))).toNat IntKind.u64.bits)) = ((c % 128 * 128 ^ i : Nat) : Int) := by
  have e0 : bitI .and .u8 ((c % 256 : Nat) : Int) 127 = ((c % 128 : Nat) : Int) := by
    have := and127 ⟨c % 256, Nat.mod_lt _ (by decide)⟩
    simp only at this
    rw [this, Nat.mod_mod_of_dvd _ (by decide)]
  have e1 : (IntKind.i64.wrap (7 * (i : Int))).toNat = 7 * i := by rw [w64 (by omega) (by omega)]; omega
  have e2 : min (7 * i) IntKind.u64.bits = 7 * i := by show min (7 * i) 64 = _; omega
  have e3 : (2 : Int) ^ (7 * i) = ((128 ^ i : Nat) : Int) := by rw [Int.pow_mul]; simp
  rw [e0, e1, e2, e3, wrapU64, wrapU64]
  obtain ⟨p1, p2, p3, p4, p5⟩ := pows hi
  have h1 : ((c % 128 : Nat) : Int) % 18446744073709551616 = ((c % 128 : Nat) : Int) := by omega
  rw [h1, ← Int.natCast_mul]
  have h2 : c % 128 * 128 ^ i < 18446744073709551616 := by
    by_cases e : i = 9
    · rw [p5 e, h9 e]; decide
    · have h8 := p4 (by omega)
      have : c % 128 * 128 ^ i ≤ 127 * 128 ^ i := Nat.mul_le_mul_right _ (by omega)
      omega
  omega
theorem take_c (hp : Plain g 83 = true) {b : List Nat} (hb : ∀ c ∈ b, c < 256) (hl : b.length ≤ 281474976710656) {at_ : Nat} (hat : at_ ≤ b.length) :
    Cl Try.prog g V 83 [.str b, .int .i64 (at_ : Int)] [] fun o _ => match takeP (b.drop at_) with
      | some (n, r) => o = .ret (.tup [.int .u64 (n : Int), .int .i64 ((b.length - r.length : Nat) : Int), .int .i64 0])
      | none => ∃ e : Int, e ≠ 0 ∧ o = .ret (.tup [.int .u64 0, .int .i64 (at_ : Int), .int .i64 e]) := by
  refine Cl.enter hp Try.func83 rfl ?_
  have hrb : ∀ c ∈ b.drop at_, c < 256 := fun c hc => hb c (List.mem_of_mem_drop hc)
  have hrl : (b.drop at_).length = b.length - at_ := List.length_drop
  have hbad : ∀ e : Int, e ≠ 0 → takeP (b.drop at_) = none → (match takeP (b.drop at_) with
      | some (n, r) => RO.ret (.tup [.int .u64 0, .int .i64 (at_ : Int), .int .i64 e]) = .ret (.tup [.int .u64 (n : Int), .int .i64 ((b.length - r.length : Nat) : Int), .int .i64 0])
      | none => ∃ e' : Int, e' ≠ 0 ∧ RO.ret (.tup [.int .u64 0, .int .i64 (at_ : Int), .int .i64 e]) = .ret (.tup [.int .u64 0, .int .i64 (at_ : Int), .int .i64 e'])) := fun e he h => by rw [h]; exact ⟨e, he, rfl⟩
  have hcut := cut_from (P := Try.prog) tblOk (t := 9) (s := b) (k := .i64) (a := (at_ : Int)) rfl (by omega) (by omega)
  have hnn : ¬ ((at_ : Int) < 0) := by omega
  have hng : ¬ ((b.length : Int) < (at_ : Int)) := by omega
  repeat first | (with_reducible first | refine za ?_ | refine zb ?_ | refine zc ?_) | refine ym zr ?_ | refine yn 0 zr ?_ | refine yn 1 zr ?_ | refine yn 2 zr ?_ | refine yn 3 zr ?_ | (refine yo zr ?_; intro _) | (refine yp zr ?_; intro _) | refine yq zr ?_ | refine ys zr ?_ | refine yu zr ?_ | refine yv zr ?_ | (with_reducible first | refine zd ?_ | refine ze ?_ | refine zf ?_ | refine zg ?_ | refine zh ?_ | refine zi ?_ | refine zj ?_ | refine zk ?_ | refine zl ?_) | refine zz zr ?_ | refine zw (by decide +kernel) ?_ | refine zx zr zr zr ?_ | refine zy zr zr ?_ | refine W.condT zr ?_ | refine W.condF zr ?_
  refine W.condP (p := (b.length : Int) < (at_ : Int)) rfl (fun h => absurd h hng) ?_
  intro _
  repeat first | refine W.sli rfl rfl rfl rfl rfl rfl hcut ?_ | (with_reducible first | refine za ?_ | refine zb ?_ | refine zc ?_) | refine ym zr ?_ | refine yn 0 zr ?_ | refine yn 1 zr ?_ | refine yn 2 zr ?_ | refine yn 3 zr ?_ | (refine yo zr ?_; intro _) | (refine yp zr ?_; intro _) | refine yq zr ?_ | refine ys zr ?_ | refine yu zr ?_ | refine yv zr ?_ | (with_reducible first | refine zd ?_ | refine ze ?_ | refine zf ?_ | refine zg ?_ | refine zh ?_ | refine zi ?_ | refine zj ?_ | refine zk ?_ | refine zl ?_) | refine zz zr ?_ | refine zw (by decide +kernel) ?_ | refine zx zr zr zr ?_ | refine zy zr zr ?_ | refine W.condT zr ?_ | refine W.condF zr ?_
  rw [Int.toNat_natCast]
  unfold takeP at *
  generalize hrest : b.drop at_ = rest at hrb hrl hbad
  refine W.loopR (α := { q : Nat × Nat // q.1 ≤ 9 ∧ q.1 ≤ rest.length ∧ q.2 < 128 ^ q.1 ∧ takeG (rest.drop q.1) q.1 q.2 = takeG rest 0 0 }) (fun q => rest.length - q.1.1) (fun q => [(0, _), (1, _), (7, .int .u64 (q.1.2 : Int)), (8, .int .i64 (q.1.1 : Int)), (9, .str rest)]) (fun q => []) ⟨(0, 0), by simp, by simp, by simp, rfl⟩ ⟨rfl, rfl, rfl, rfl, rfl⟩ (List.nil_sublist _) ?_
  rintro ⟨⟨i, n⟩, hi9, hi, hn, hinv⟩ ih
  simp only at ih hi9 hi hn hinv ⊢
  repeat first | (with_reducible first | refine za ?_ | refine zb ?_ | refine zc ?_) | refine ym zr ?_ | refine yn 0 zr ?_ | refine yn 1 zr ?_ | refine yn 2 zr ?_ | refine yn 3 zr ?_ | (refine yo zr ?_; intro _) | (refine yp zr ?_; intro _) | refine yq zr ?_ | refine ys zr ?_ | refine yu zr ?_ | refine yv zr ?_ | (with_reducible first | refine zd ?_ | refine ze ?_ | refine zf ?_ | refine zg ?_ | refine zh ?_ | refine zi ?_ | refine zj ?_ | refine zk ?_ | refine zl ?_) | refine zz zr ?_ | refine zw (by decide +kernel) ?_ | refine zx zr zr zr ?_ | refine zy zr zr ?_ | refine W.condT zr ?_ | refine W.condF zr ?_
  refine W.condP rfl ?_ ?_ <;> intro hlt
  rotate_left
  · clear ih
    rw [List.drop_eq_nil_of_le (by omega)] at hinv
    repeat' first | (with_reducible first | refine za ?_ | refine zb ?_ | refine zc ?_) | refine ym zr ?_ | refine yn 0 zr ?_ | refine yn 1 zr ?_ | refine yn 2 zr ?_ | refine yn 3 zr ?_ | (refine yo zr ?_; intro _) | (refine yp zr ?_; intro _) | refine yq zr ?_ | refine ys zr ?_ | refine yu zr ?_ | refine yv zr ?_ | (with_reducible first | refine zd ?_ | refine ze ?_ | refine zf ?_ | refine zg ?_ | refine zh ?_ | refine zi ?_ | refine zj ?_ | refine zk ?_ | refine zl ?_) | refine zz zr ?_ | refine zw (by decide +kernel) ?_ | refine zx zr zr zr ?_ | refine zy zr zr ?_ | (refine W.condP zr ?_ ?_ <;> intro _) | refine W.condT zr ?_ | refine W.condF zr ?_ | (refine W.cond zr ?_ ?_ <;> intro _) | (refine W.gs zr zr zr zr ?_ ?_ <;> intro _) | (refine W.gsB zr zr zr zr ?_ ?_ <;> intro _) | refine W.done zr ?_ | refine W.doneN zr ?_
    exact hbad 30 (by decide) (by rw [← hinv]; rfl)
  have hlt : i < rest.length := by omega
  have hc := hrb _ (List.getElem_mem hlt)
  have hg : rest[(i : Int).toNat]? = some rest[i] := List.getElem?_eq_getElem hlt
  rw [List.drop_eq_getElem_cons hlt, takeG] at hinv
  generalize rest[i] = c at hc hg hinv
  have ec : ((c % 256 : Nat) : Int) = (c : Int) := by omega
  have hp := pows hi9
  have hnext := fun (h9 : ¬ (i = 9 ∧ c ≠ 1)) (h128 : 128 ≤ c) => ih ⟨(i + 1, n + c % 128 * 128 ^ i), by
    show i + 1 ≤ 9
    by_cases e : i = 9
    · exact absurd ⟨e, by omega⟩ h9
    · omega, by show i + 1 ≤ _; omega, by
    show n + c % 128 * 128 ^ i < 128 ^ (i + 1)
    rw [hp.1]
    have : c % 128 * 128 ^ i ≤ 127 * 128 ^ i := Nat.mul_le_mul_right _ (by omega)
    omega, by rw [if_neg h9, if_pos h128] at hinv; exact hinv⟩ (by show rest.length - (i + 1) < rest.length - i; omega)
  have hor : (i = 9 → c = 1) → bitI .or .u64 (n : Int) (IntKind.u64.wrap (IntKind.u64.wrap (bitI .and .u8 ((c % 256 : Nat) : Int) 127) * 2 ^ (min (IntKind.i64.wrap (7 * (i : Int))).toNat IntKind.u64.bits))) = ((n + c % 128 * 128 ^ i : Nat) : Int) := fun h9 => by
    rw [shl_part hc hi9 h9, bits_or (by have := hp.2.2.1; omega) ?_, or_add hn]
    by_cases e : i = 9
    · rw [hp.2.2.2.2 e, h9 e]; decide
    · have h8 := hp.2.2.2.1 (by omega)
      rw [hp.1] at h8
      have : c % 128 * 128 ^ i ≤ 127 * 128 ^ i := Nat.mul_le_mul_right _ (by omega)
      omega
  have hw : IntKind.i64.wrap (IntKind.i64.wrap ((at_ : Int) + (i : Int)) + 1) = ((b.length - (rest.drop (i + 1)).length : Nat) : Int) := by
    rw [w64 (n := (at_ : Int) + (i : Int)) (by omega) (by omega), w64 (n := (at_ : Int) + (i : Int) + 1) (by omega) (by omega), List.length_drop, hrl]; omega
  have hi1 : IntKind.i64.wrap ((i : Int) + 1) = ((i + 1 : Nat) : Int) := by rw [w64 (by omega) (by omega)]; omega
  have hend : ∀ (h9 : ¬ (i = 9 ∧ c ≠ 1)) (h128 : ¬ 128 ≤ c) (h0 : ¬ (c = 0 ∧ 0 < i)) (x y : Int), x = ((n + c % 128 * 128 ^ i : Nat) : Int) → y = ((b.length - (rest.drop (i + 1)).length : Nat) : Int) → (match takeG rest 0 0 with
      | some (n, r) => RO.ret (.tup [.int .u64 x, .int .i64 y, .int .i64 0]) = .ret (.tup [.int .u64 (n : Int), .int .i64 ((b.length - r.length : Nat) : Int), .int .i64 0])
      | none => ∃ e' : Int, e' ≠ 0 ∧ RO.ret (.tup [.int .u64 x, .int .i64 y, .int .i64 0]) = .ret (.tup [.int .u64 0, .int .i64 (at_ : Int), .int .i64 e'])) := fun h9 h128 h0 x y hx hy => by
    rw [← hinv, if_neg h9, if_neg h128, if_neg h0, hx, hy]
  dsimp only at hnext
  clear ih hn hcut hnn hng hb hrb
  clear hp
  repeat' first | (refine W.shl rfl rfl rfl rfl ?hm ?_; case hm => (rw [w64 (by omega) (by omega)]; omega)) | refine W.idx tblOk rfl rfl rfl rfl rfl (by omega) hg ?_ | (with_reducible first | refine za ?_ | refine zb ?_ | refine zc ?_) | refine ym zr ?_ | refine yn 0 zr ?_ | refine yn 1 zr ?_ | refine yn 2 zr ?_ | refine yn 3 zr ?_ | (refine yo zr ?_; intro _) | (refine yp zr ?_; intro _) | refine yq zr ?_ | refine ys zr ?_ | refine yu zr ?_ | refine yv zr ?_ | (with_reducible first | refine zd ?_ | refine ze ?_ | refine zf ?_ | refine zg ?_ | refine zh ?_ | refine zi ?_ | refine zj ?_ | refine zk ?_ | refine zl ?_) | refine zz zr ?_ | refine zw (by decide +kernel) ?_ | refine zx zr zr zr ?_ | refine zy zr zr ?_ | (refine W.condP zr ?_ ?_ <;> intro _) | refine W.condT zr ?_ | refine W.condF zr ?_ | (refine W.cond zr ?_ ?_ <;> intro _) | (refine W.gs zr zr zr zr ?_ ?_ <;> intro _) | (refine W.gsB zr zr zr zr ?_ ?_ <;> intro _) | refine W.done zr ?_ | refine W.doneN zr ?_
  · exact hbad 31 (by decide) (by rw [← hinv, if_pos ⟨by omega, by omega⟩])
  · refine W.weak _ _ ?_ ?_ (hnext (by omega) (by omega))
    · exact ⟨rfl, rfl, congrArg (fun x => some (AV.int .u64 x)) (hor (by omega)), congrArg (fun x => some (AV.int .i64 x)) hi1, rfl⟩
    · exact List.nil_sublist _
  · exact hbad 31 (by decide) (by rw [← hinv, if_neg (by omega), if_neg (by omega), if_pos ⟨by omega, by omega⟩])
  · exact hend (by omega) (by omega) (by omega) _ _ (hor (by omega)) hw
  · exact hend (by omega) (by omega) (by omega) _ _ (hor (by omega)) hw
  · refine W.weak _ _ ?_ ?_ (hnext (by omega) (by omega))
    · exact ⟨rfl, rfl, congrArg (fun x => some (AV.int .u64 x)) (hor (by omega)), congrArg (fun x => some (AV.int .i64 x)) hi1, rfl⟩
    · exact List.nil_sublist _
  · exact hbad 31 (by decide) (by rw [← hinv, if_neg (by omega), if_neg (by omega), if_pos ⟨by omega, by omega⟩])
  · exact hend (by omega) (by omega) (by omega) _ _ (hor (by omega)) hw
  · exact hend (by omega) (by omega) (by omega) _ _ (hor (by omega)) hw
end Go.Proofs.Ythkkphkeonnnfaa.Abs
/- Texts and frames are read: the program's TakeText and Unframe. No condition but those that each theorem names. -/
namespace Go.Proofs.Ythkkphkeonnnfaa.Abs
open Go
set_option linter.unusedVariables false
set_option linter.unusedSimpArgs false
set_option maxRecDepth 100000
set_option maxHeartbeats 4000000
/-- A text: its length, and it. -/
def textP (l : List Nat) : Option (List Nat × List Nat) := match takeP l with
  | some (n, r) => if 65536 < n then none else if r.length < n then none else some (r.take n, r.drop n)
  | none => none
/-- A frame: a text, and its check. -/
def unframeP (l : List Nat) : Option (List Nat × List Nat) := match textP l with
  | some (s, r) => if r.length < 4 then none else if r.take 4 = checkB s then some (s, r.drop 4) else none
  | none => none
theorem tailS_byte (c : Nat) (h : c < 4294967296) : ∀ x ∈ tailS c, x < 256 := fun x hx => by
  simp only [tailS, List.mem_cons, List.not_mem_nil, or_false] at hx
  omega
theorem takeG_drop : ∀ (l : List Nat) (i n m : Nat) (r : List Nat), takeG l i n = some (m, r) → ∃ k, r = l.drop k ∧ 1 ≤ k ∧ k ≤ l.length
  | [], _, _, _, _, h => by cases h
  | c :: l, i, n, m, r, h => by
    rw [takeG] at h
    split at h
    · cases h
    split at h
    · obtain ⟨k, h1, h2, h3⟩ := takeG_drop l _ _ m r h
      exact ⟨k + 1, h1, by omega, by simp; omega⟩
    split at h
    · cases h
    · injection h with h; injection h with h1 h2
      exact ⟨1, h2.symm, by omega, by simp⟩
theorem takeP_drop {l r : List Nat} {m : Nat} (h : takeP l = some (m, r)) : r = l.drop (l.length - r.length) ∧ r.length < l.length := by
  obtain ⟨k, h1, h2, h3⟩ := takeG_drop l 0 0 m r h
  have hl : r.length = l.length - k := by rw [h1, List.length_drop]
  exact ⟨by rw [hl, show l.length - (l.length - k) = k by omega]; exact h1, by omega⟩
theorem textP_drop {l s r : List Nat} (h : textP l = some (s, r)) : r = l.drop (l.length - r.length) ∧ r.length < l.length ∧ s.length ≤ 65536 ∧ (∀ c ∈ s, c ∈ l) := by
  unfold textP at h
  split at h
  · rename_i n q hq
    obtain ⟨h1, h2⟩ := takeP_drop hq
    split at h
    · cases h
    split at h
    · cases h
    · injection h with h; injection h with h3 h4
      have hl : r.length = q.length - n := by rw [← h4, List.length_drop]
      refine ⟨?_, by omega, by rw [← h3, List.length_take]; omega, ?_⟩
      · rw [hl, ← h4]
        conv => lhs; rw [h1]
        rw [List.drop_drop]
        congr 1; omega
      · intro c hc
        rw [← h3] at hc
        have := List.mem_of_mem_take hc
        rw [h1] at this
        exact List.mem_of_mem_drop this
  · cases h
section
variable {P : Program} {g : Cg} {n : Nat} {V : K → Option (List AV)} {rs : List ResultVar} {st : List Fr} {Γ : Gm} {Δ : Dm} {Q : RO → Dm → Prop} {b : Bool} {all rest : List Oper} {ty : TypeId} {pos : String} {after : Array Edge} {gd : Option (Nat × Bool)} {d : Nat}
/-- A call of which not all is told: what it comes to is one of some values. -/
theorem W.callX {α : Type} {Pr : α → Prop} {v : α → AV} {fx : Operand} {xs : Array Operand} {tys : Array TypeId} {f : Nat} {first caps vs : List AV} (hf : eg Γ fx = some (.func f first caps)) (ha : egs Γ xs.toList = some vs)
    (hn : Nat.ble (d + 1) n = true) (hw : wantG all Γ ⟨some d, .call ⟨.value fx, xs, tys⟩, ty, pos, after, gd⟩ = some true)
    (hc : Cl P g V f (first ++ vs ++ caps) [] fun o _ => ∃ a, Pr a ∧ o = .ret (v a))
    (h : ∀ a, Pr a → W P g n V rs (.o b all rest :: st) .nrm ((d, v a) :: Γ) Δ Q) : W P g n V rs (.o b all (⟨some d, .call ⟨.value fx, xs, tys⟩, ty, pos, after, gd⟩ :: rest) :: st) .nrm Γ Δ Q :=
  W.callR (Δ := []) (R := Δ) hf ha hn hw hc (fun _ _ h => by obtain ⟨_, _, h⟩ := h; cases h) fun u Δ' hq F s tm hM hG => by
    obtain ⟨a, hq1, hq⟩ := hq
    injection hq with hq; subst hq
    exact h a hq1 F s tm (hM.drop (List.sublist_append_right _ _)) hG
end
attribute [local irreducible] W Cl Bd
variable {g : Cg} {V : K → Option (List AV)}
theorem takeText_c (hp : Plain g 67 = true) (h1 : Plain g 83 = true) {b : List Nat} (hb : ∀ c ∈ b, c < 256) (hl : b.length ≤ 281474976710656) {at_ : Nat} (hat : at_ ≤ b.length) :
    Cl Try.prog g V 67 [.str b, .int .i64 (at_ : Int)] [] fun o _ => match textP (b.drop at_) with
      | some (s, r) => o = .ret (.tup [.str s, .int .i64 ((b.length - r.length : Nat) : Int), .int .i64 0])
      | none => ∃ e : Int, e ≠ 0 ∧ o = .ret (.tup [.str [], .int .i64 (at_ : Int), .int .i64 e]) := by
  refine Cl.enter hp Try.func67 rfl ?_
  have ht := take_c (V := V) h1 hb hl hat
  have hrl : (b.drop at_).length = b.length - at_ := List.length_drop
  unfold textP
  cases hr : takeP (b.drop at_) with
  | none =>
    simp only [hr] at ht ⊢
    repeat first | (refine W.callX rfl rfl rfl rfl ht ?_; intro e he) | (with_reducible first | refine za ?_ | refine zb ?_ | refine zc ?_) | refine ym zr ?_ | refine yn 0 zr ?_ | refine yn 1 zr ?_ | refine yn 2 zr ?_ | refine yn 3 zr ?_ | (refine yo zr ?_; intro _) | (refine yp zr ?_; intro _) | refine yq zr ?_ | refine ys zr ?_ | refine yu zr ?_ | refine yv zr ?_ | (with_reducible first | refine zd ?_ | refine ze ?_ | refine zf ?_ | refine zg ?_ | refine zh ?_ | refine zi ?_ | refine zj ?_ | refine zk ?_ | refine zl ?_) | refine zz zr ?_ | refine zw (by decide +kernel) ?_ | refine zx zr zr zr ?_ | refine zy zr zr ?_ | refine W.condT zr ?_ | refine W.condF zr ?_
    refine W.condP rfl ?_ ?_ <;> intro h
    · skip
      repeat' first | (with_reducible first | refine za ?_ | refine zb ?_ | refine zc ?_) | refine ym zr ?_ | refine yn 0 zr ?_ | refine yn 1 zr ?_ | refine yn 2 zr ?_ | refine yn 3 zr ?_ | (refine yo zr ?_; intro _) | (refine yp zr ?_; intro _) | refine yq zr ?_ | refine ys zr ?_ | refine yu zr ?_ | refine yv zr ?_ | (with_reducible first | refine zd ?_ | refine ze ?_ | refine zf ?_ | refine zg ?_ | refine zh ?_ | refine zi ?_ | refine zj ?_ | refine zk ?_ | refine zl ?_) | refine zz zr ?_ | refine zw (by decide +kernel) ?_ | refine zx zr zr zr ?_ | refine zy zr zr ?_ | (refine W.condP zr ?_ ?_ <;> intro _) | refine W.condT zr ?_ | refine W.condF zr ?_ | (refine W.cond zr ?_ ?_ <;> intro _) | (refine W.gs zr zr zr zr ?_ ?_ <;> intro _) | (refine W.gsB zr zr zr zr ?_ ?_ <;> intro _) | refine W.done zr ?_ | refine W.doneN zr ?_
      exact ⟨e, he, rfl⟩
    · exact absurd he h
  | some q =>
    obtain ⟨n, r⟩ := q
    obtain ⟨hd, hlt⟩ := takeP_drop hr
    simp only [hr] at ht ⊢
    have ec : IntKind.i64.wrap ((b.length : Int) - ((b.length - r.length : Nat) : Int)) = (r.length : Int) := by rw [w64 (by omega) (by omega)]; omega
    have eu : IntKind.u64.wrap ((r.length : Nat) : Int) = ((r.length : Nat) : Int) := by rw [wrapU64]; omega
    have ed : b.drop (b.length - r.length) = r := by
      rw [hrl] at hd
      rw [List.drop_drop] at hd
      conv => rhs; rw [hd]
      congr 1; omega
    have hmin : (n : Int) ≤ r.length → IntKind.i64.wrap (n : Int) = (n : Int) := fun h => w64 (by omega) (by omega)
    have hto : (n : Int) ≤ r.length → IntKind.i64.wrap (((b.length - r.length : Nat) : Int) + (n : Int)) = ((b.length - r.length + n : Nat) : Int) := fun h => by rw [w64 (by omega) (by omega)]; omega
    have hcut := fun h : (n : Int) ≤ r.length => cut_fromTo (P := Try.prog) tblOk (t := 9) (s := b) (k := .i64) (k' := .i64) (a := ((b.length - r.length : Nat) : Int)) (e := ((b.length - r.length + n : Nat) : Int)) rfl (by omega) (by omega) (by omega)
    repeat first | refine W.callP rfl rfl rfl rfl ht ?_ | (with_reducible first | refine za ?_ | refine zb ?_ | refine zc ?_) | refine ym zr ?_ | refine yn 0 zr ?_ | refine yn 1 zr ?_ | refine yn 2 zr ?_ | refine yn 3 zr ?_ | (refine yo zr ?_; intro _) | (refine yp zr ?_; intro _) | refine yq zr ?_ | refine ys zr ?_ | refine yu zr ?_ | refine yv zr ?_ | (with_reducible first | refine zd ?_ | refine ze ?_ | refine zf ?_ | refine zg ?_ | refine zh ?_ | refine zi ?_ | refine zj ?_ | refine zk ?_ | refine zl ?_) | refine zz zr ?_ | refine zw (by decide +kernel) ?_ | refine zx zr zr zr ?_ | refine zy zr zr ?_ | refine W.condT zr ?_ | refine W.condF zr ?_
    refine W.condP rfl ?_ ?_ <;> intro h1
    · skip
      repeat' first | (with_reducible first | refine za ?_ | refine zb ?_ | refine zc ?_) | refine ym zr ?_ | refine yn 0 zr ?_ | refine yn 1 zr ?_ | refine yn 2 zr ?_ | refine yn 3 zr ?_ | (refine yo zr ?_; intro _) | (refine yp zr ?_; intro _) | refine yq zr ?_ | refine ys zr ?_ | refine yu zr ?_ | refine yv zr ?_ | (with_reducible first | refine zd ?_ | refine ze ?_ | refine zf ?_ | refine zg ?_ | refine zh ?_ | refine zi ?_ | refine zj ?_ | refine zk ?_ | refine zl ?_) | refine zz zr ?_ | refine zw (by decide +kernel) ?_ | refine zx zr zr zr ?_ | refine zy zr zr ?_ | (refine W.condP zr ?_ ?_ <;> intro _) | refine W.condT zr ?_ | refine W.condF zr ?_ | (refine W.cond zr ?_ ?_ <;> intro _) | (refine W.gs zr zr zr zr ?_ ?_ <;> intro _) | (refine W.gsB zr zr zr zr ?_ ?_ <;> intro _) | refine W.done zr ?_ | refine W.doneN zr ?_
      rw [if_pos (by omega)]
      exact ⟨31, by decide, rfl⟩
    rw [if_neg (by omega)]
    repeat first | (with_reducible first | refine za ?_ | refine zb ?_ | refine zc ?_) | refine ym zr ?_ | refine yn 0 zr ?_ | refine yn 1 zr ?_ | refine yn 2 zr ?_ | refine yn 3 zr ?_ | (refine yo zr ?_; intro _) | (refine yp zr ?_; intro _) | refine yq zr ?_ | refine ys zr ?_ | refine yu zr ?_ | refine yv zr ?_ | (with_reducible first | refine zd ?_ | refine ze ?_ | refine zf ?_ | refine zg ?_ | refine zh ?_ | refine zi ?_ | refine zj ?_ | refine zk ?_ | refine zl ?_) | refine zz zr ?_ | refine zw (by decide +kernel) ?_ | refine zx zr zr zr ?_ | refine zy zr zr ?_ | refine W.condT zr ?_ | refine W.condF zr ?_
    rw [ec, eu]
    refine W.condP rfl ?_ ?_ <;> intro h2
    · skip
      repeat' first | (with_reducible first | refine za ?_ | refine zb ?_ | refine zc ?_) | refine ym zr ?_ | refine yn 0 zr ?_ | refine yn 1 zr ?_ | refine yn 2 zr ?_ | refine yn 3 zr ?_ | (refine yo zr ?_; intro _) | (refine yp zr ?_; intro _) | refine yq zr ?_ | refine ys zr ?_ | refine yu zr ?_ | refine yv zr ?_ | (with_reducible first | refine zd ?_ | refine ze ?_ | refine zf ?_ | refine zg ?_ | refine zh ?_ | refine zi ?_ | refine zj ?_ | refine zk ?_ | refine zl ?_) | refine zz zr ?_ | refine zw (by decide +kernel) ?_ | refine zx zr zr zr ?_ | refine zy zr zr ?_ | (refine W.condP zr ?_ ?_ <;> intro _) | refine W.condT zr ?_ | refine W.condF zr ?_ | (refine W.cond zr ?_ ?_ <;> intro _) | (refine W.gs zr zr zr zr ?_ ?_ <;> intro _) | (refine W.gsB zr zr zr zr ?_ ?_ <;> intro _) | refine W.done zr ?_ | refine W.doneN zr ?_
      rw [if_pos (by omega)]
      exact ⟨30, by decide, rfl⟩
    have h2 : (n : Int) ≤ r.length := by omega
    rw [if_neg (by omega)]
    repeat first | (with_reducible first | refine za ?_ | refine zb ?_ | refine zc ?_) | refine ym zr ?_ | refine yn 0 zr ?_ | refine yn 1 zr ?_ | refine yn 2 zr ?_ | refine yn 3 zr ?_ | (refine yo zr ?_; intro _) | (refine yp zr ?_; intro _) | refine yq zr ?_ | refine ys zr ?_ | refine yu zr ?_ | refine yv zr ?_ | (with_reducible first | refine zd ?_ | refine ze ?_ | refine zf ?_ | refine zg ?_ | refine zh ?_ | refine zi ?_ | refine zj ?_ | refine zk ?_ | refine zl ?_) | refine zz zr ?_ | refine zw (by decide +kernel) ?_ | refine zx zr zr zr ?_ | refine zy zr zr ?_ | refine W.condT zr ?_ | refine W.condF zr ?_
    rw [hmin h2, hto h2]
    repeat' first | refine W.sli rfl rfl rfl rfl rfl rfl (hcut h2) ?_ | (with_reducible first | refine za ?_ | refine zb ?_ | refine zc ?_) | refine ym zr ?_ | refine yn 0 zr ?_ | refine yn 1 zr ?_ | refine yn 2 zr ?_ | refine yn 3 zr ?_ | (refine yo zr ?_; intro _) | (refine yp zr ?_; intro _) | refine yq zr ?_ | refine ys zr ?_ | refine yu zr ?_ | refine yv zr ?_ | (with_reducible first | refine zd ?_ | refine ze ?_ | refine zf ?_ | refine zg ?_ | refine zh ?_ | refine zi ?_ | refine zj ?_ | refine zk ?_ | refine zl ?_) | refine zz zr ?_ | refine zw (by decide +kernel) ?_ | refine zx zr zr zr ?_ | refine zy zr zr ?_ | (refine W.condP zr ?_ ?_ <;> intro _) | refine W.condT zr ?_ | refine W.condF zr ?_ | (refine W.cond zr ?_ ?_ <;> intro _) | (refine W.gs zr zr zr zr ?_ ?_ <;> intro _) | (refine W.gsB zr zr zr zr ?_ ?_ <;> intro _) | refine W.done zr ?_ | refine W.doneN zr ?_
    show RO.ret (AV.tup [.str _, .int .i64 _, .int .i64 0]) = RO.ret (AV.tup [.str _, .int .i64 _, .int .i64 0])
    rw [show (((b.length - r.length + n : Nat) : Int) - ((b.length - r.length : Nat) : Int)).toNat = n by omega, Int.toNat_natCast, ed, List.length_drop, show b.length - (r.length - n) = b.length - r.length + n by omega]
theorem unframe_c (hp : Plain g 46 = true) (h2 : Plain g 67 = true) (h1 : Plain g 83 = true) (hc : Plain g 62 = true) (hs : Plain g 81 = true) {b : List Nat} (hb : ∀ c ∈ b, c < 256) (hl : b.length ≤ 281474976710656) {at_ : Nat} (hat : at_ ≤ b.length) :
    Cl Try.prog g V 46 [.str b, .int .i64 (at_ : Int)] [] fun o _ => match unframeP (b.drop at_) with
      | some (s, r) => o = .ret (.tup [.str s, .int .i64 ((b.length - r.length : Nat) : Int), .int .i64 0])
      | none => ∃ e : Int, e ≠ 0 ∧ o = .ret (.tup [.str [], .int .i64 (at_ : Int), .int .i64 e]) := by
  refine Cl.enter hp Try.func46 rfl ?_
  have ht := takeText_c (V := V) h2 h1 hb hl hat
  have hrl : (b.drop at_).length = b.length - at_ := List.length_drop
  unfold unframeP
  cases hr : textP (b.drop at_) with
  | none =>
    simp only [hr] at ht ⊢
    repeat first | (refine W.callX rfl rfl rfl rfl ht ?_; intro e he) | (with_reducible first | refine za ?_ | refine zb ?_ | refine zc ?_) | refine ym zr ?_ | refine yn 0 zr ?_ | refine yn 1 zr ?_ | refine yn 2 zr ?_ | refine yn 3 zr ?_ | (refine yo zr ?_; intro _) | (refine yp zr ?_; intro _) | refine yq zr ?_ | refine ys zr ?_ | refine yu zr ?_ | refine yv zr ?_ | (with_reducible first | refine zd ?_ | refine ze ?_ | refine zf ?_ | refine zg ?_ | refine zh ?_ | refine zi ?_ | refine zj ?_ | refine zk ?_ | refine zl ?_) | refine zz zr ?_ | refine zw (by decide +kernel) ?_ | refine zx zr zr zr ?_ | refine zy zr zr ?_ | refine W.condT zr ?_ | refine W.condF zr ?_
    refine W.condP rfl ?_ ?_ <;> intro h
    · skip
      repeat' first | (with_reducible first | refine za ?_ | refine zb ?_ | refine zc ?_) | refine ym zr ?_ | refine yn 0 zr ?_ | refine yn 1 zr ?_ | refine yn 2 zr ?_ | refine yn 3 zr ?_ | (refine yo zr ?_; intro _) | (refine yp zr ?_; intro _) | refine yq zr ?_ | refine ys zr ?_ | refine yu zr ?_ | refine yv zr ?_ | (with_reducible first | refine zd ?_ | refine ze ?_ | refine zf ?_ | refine zg ?_ | refine zh ?_ | refine zi ?_ | refine zj ?_ | refine zk ?_ | refine zl ?_) | refine zz zr ?_ | refine zw (by decide +kernel) ?_ | refine zx zr zr zr ?_ | refine zy zr zr ?_ | (refine W.condP zr ?_ ?_ <;> intro _) | refine W.condT zr ?_ | refine W.condF zr ?_ | (refine W.cond zr ?_ ?_ <;> intro _) | (refine W.gs zr zr zr zr ?_ ?_ <;> intro _) | (refine W.gsB zr zr zr zr ?_ ?_ <;> intro _) | refine W.done zr ?_ | refine W.doneN zr ?_
      exact ⟨e, he, rfl⟩
    · exact absurd he h
  | some q =>
    obtain ⟨s, r⟩ := q
    obtain ⟨hd, hlt, hsl, hsb⟩ := textP_drop hr
    simp only [hr] at ht ⊢
    have hsb : ∀ c ∈ s, c < 256 := fun c hc => hb c (List.mem_of_mem_drop (hsb c hc))
    have hck := check_cW (g := g) (V := V) hc hs hsb (by omega)
    have ec : IntKind.i64.wrap ((b.length : Int) - ((b.length - r.length : Nat) : Int)) = (r.length : Int) := by rw [w64 (by omega) (by omega)]; omega
    have ed : b.drop (b.length - r.length) = r := by
      rw [hrl] at hd
      rw [List.drop_drop] at hd
      conv => rhs; rw [hd]
      congr 1; omega
    repeat first | refine W.callP rfl rfl rfl rfl ht ?_ | (with_reducible first | refine za ?_ | refine zb ?_ | refine zc ?_) | refine ym zr ?_ | refine yn 0 zr ?_ | refine yn 1 zr ?_ | refine yn 2 zr ?_ | refine yn 3 zr ?_ | (refine yo zr ?_; intro _) | (refine yp zr ?_; intro _) | refine yq zr ?_ | refine ys zr ?_ | refine yu zr ?_ | refine yv zr ?_ | (with_reducible first | refine zd ?_ | refine ze ?_ | refine zf ?_ | refine zg ?_ | refine zh ?_ | refine zi ?_ | refine zj ?_ | refine zk ?_ | refine zl ?_) | refine zz zr ?_ | refine zw (by decide +kernel) ?_ | refine zx zr zr zr ?_ | refine zy zr zr ?_ | refine W.condT zr ?_ | refine W.condF zr ?_
    rw [ec]
    refine W.condP rfl ?_ ?_ <;> intro h4
    · skip
      repeat' first | (with_reducible first | refine za ?_ | refine zb ?_ | refine zc ?_) | refine ym zr ?_ | refine yn 0 zr ?_ | refine yn 1 zr ?_ | refine yn 2 zr ?_ | refine yn 3 zr ?_ | (refine yo zr ?_; intro _) | (refine yp zr ?_; intro _) | refine yq zr ?_ | refine ys zr ?_ | refine yu zr ?_ | refine yv zr ?_ | (with_reducible first | refine zd ?_ | refine ze ?_ | refine zf ?_ | refine zg ?_ | refine zh ?_ | refine zi ?_ | refine zj ?_ | refine zk ?_ | refine zl ?_) | refine zz zr ?_ | refine zw (by decide +kernel) ?_ | refine zx zr zr zr ?_ | refine zy zr zr ?_ | (refine W.condP zr ?_ ?_ <;> intro _) | refine W.condT zr ?_ | refine W.condF zr ?_ | (refine W.cond zr ?_ ?_ <;> intro _) | (refine W.gs zr zr zr zr ?_ ?_ <;> intro _) | (refine W.gsB zr zr zr zr ?_ ?_ <;> intro _) | refine W.done zr ?_ | refine W.doneN zr ?_
      rw [if_pos (by omega)]
      exact ⟨30, by decide, rfl⟩
    have h4 : 4 ≤ r.length := by omega
    rw [if_neg (by omega)]
    have hto : IntKind.i64.wrap (((b.length - r.length : Nat) : Int) + 4) = ((b.length - r.length + 4 : Nat) : Int) := by rw [w64 (by omega) (by omega)]; omega
    have hcut := cut_fromTo (P := Try.prog) tblOk (t := 9) (s := b) (k := .i64) (k' := .i64) (a := ((b.length - r.length : Nat) : Int)) (e := ((b.length - r.length + 4 : Nat) : Int)) rfl (by omega) (by omega) (by omega)
    rw [show (((b.length - r.length + 4 : Nat) : Int) - ((b.length - r.length : Nat) : Int)).toNat = 4 by omega, Int.toNat_natCast, ed, ← hto] at hcut
    have heq := eqN_iff (r.take 4) (checkB s) (fun c hc => hb c (by rw [← ed] at hc; exact List.mem_of_mem_drop (List.mem_of_mem_take hc))) (tailS_byte _ (sumS_lt s _ (by decide)))
    by_cases hq : r.take 4 = checkB s
    · rw [if_pos hq]
      have he := heq.2 hq
      repeat first | refine W.sli rfl rfl rfl rfl rfl rfl hcut ?_ | refine W.callP rfl rfl rfl rfl hck ?_ | (with_reducible first | refine za ?_ | refine zb ?_ | refine zc ?_) | refine ym zr ?_ | refine yn 0 zr ?_ | refine yn 1 zr ?_ | refine yn 2 zr ?_ | refine yn 3 zr ?_ | (refine yo zr ?_; intro _) | (refine yp zr ?_; intro _) | refine yq zr ?_ | refine ys zr ?_ | refine yu zr ?_ | refine yv zr ?_ | (with_reducible first | refine zd ?_ | refine ze ?_ | refine zf ?_ | refine zg ?_ | refine zh ?_ | refine zi ?_ | refine zj ?_ | refine zk ?_ | refine zl ?_) | refine zz zr ?_ | refine zw (by decide +kernel) ?_ | refine zx zr zr zr ?_ | refine zy zr zr ?_ | refine W.condT zr ?_ | refine W.condF zr ?_
      refine W.condF (by show some (AV.bool (!eqN _ _)) = some (AV.bool false); rw [he]; rfl) ?_
      repeat' first | (with_reducible first | refine za ?_ | refine zb ?_ | refine zc ?_) | refine ym zr ?_ | refine yn 0 zr ?_ | refine yn 1 zr ?_ | refine yn 2 zr ?_ | refine yn 3 zr ?_ | (refine yo zr ?_; intro _) | (refine yp zr ?_; intro _) | refine yq zr ?_ | refine ys zr ?_ | refine yu zr ?_ | refine yv zr ?_ | (with_reducible first | refine zd ?_ | refine ze ?_ | refine zf ?_ | refine zg ?_ | refine zh ?_ | refine zi ?_ | refine zj ?_ | refine zk ?_ | refine zl ?_) | refine zz zr ?_ | refine zw (by decide +kernel) ?_ | refine zx zr zr zr ?_ | refine zy zr zr ?_ | (refine W.condP zr ?_ ?_ <;> intro _) | refine W.condT zr ?_ | refine W.condF zr ?_ | (refine W.cond zr ?_ ?_ <;> intro _) | (refine W.gs zr zr zr zr ?_ ?_ <;> intro _) | (refine W.gsB zr zr zr zr ?_ ?_ <;> intro _) | refine W.done zr ?_ | refine W.doneN zr ?_
      show RO.ret (AV.tup [.str _, .int .i64 (IntKind.i64.wrap _), .int .i64 0]) = RO.ret (AV.tup [.str _, .int .i64 _, .int .i64 0])
      rw [hto, List.length_drop, show b.length - (r.length - 4) = b.length - r.length + 4 by omega]
    · rw [if_neg hq]
      have he : eqN (r.take 4) (checkB s) = false := by
        cases h : eqN (r.take 4) (checkB s) with
        | true => exact absurd (heq.1 h) hq
        | false => rfl
      repeat first | refine W.sli rfl rfl rfl rfl rfl rfl hcut ?_ | refine W.callP rfl rfl rfl rfl hck ?_ | (with_reducible first | refine za ?_ | refine zb ?_ | refine zc ?_) | refine ym zr ?_ | refine yn 0 zr ?_ | refine yn 1 zr ?_ | refine yn 2 zr ?_ | refine yn 3 zr ?_ | (refine yo zr ?_; intro _) | (refine yp zr ?_; intro _) | refine yq zr ?_ | refine ys zr ?_ | refine yu zr ?_ | refine yv zr ?_ | (with_reducible first | refine zd ?_ | refine ze ?_ | refine zf ?_ | refine zg ?_ | refine zh ?_ | refine zi ?_ | refine zj ?_ | refine zk ?_ | refine zl ?_) | refine zz zr ?_ | refine zw (by decide +kernel) ?_ | refine zx zr zr zr ?_ | refine zy zr zr ?_ | refine W.condT zr ?_ | refine W.condF zr ?_
      refine W.condT (by show some (AV.bool (!eqN _ _)) = some (AV.bool true); rw [he]; rfl) ?_
      repeat' first | (with_reducible first | refine za ?_ | refine zb ?_ | refine zc ?_) | refine ym zr ?_ | refine yn 0 zr ?_ | refine yn 1 zr ?_ | refine yn 2 zr ?_ | refine yn 3 zr ?_ | (refine yo zr ?_; intro _) | (refine yp zr ?_; intro _) | refine yq zr ?_ | refine ys zr ?_ | refine yu zr ?_ | refine yv zr ?_ | (with_reducible first | refine zd ?_ | refine ze ?_ | refine zf ?_ | refine zg ?_ | refine zh ?_ | refine zi ?_ | refine zj ?_ | refine zk ?_ | refine zl ?_) | refine zz zr ?_ | refine zw (by decide +kernel) ?_ | refine zx zr zr zr ?_ | refine zy zr zr ?_ | (refine W.condP zr ?_ ?_ <;> intro _) | refine W.condT zr ?_ | refine W.condF zr ?_ | (refine W.cond zr ?_ ?_ <;> intro _) | (refine W.gs zr zr zr zr ?_ ?_ <;> intro _) | (refine W.gsB zr zr zr zr ?_ ?_ <;> intro _) | refine W.done zr ?_ | refine W.doneN zr ?_
      exact ⟨32, by decide, rfl⟩
end Go.Proofs.Ythkkphkeonnnfaa.Abs
/- The reader's numbers: cursor.wide, cursor.number. No condition but those that each theorem names. -/
namespace Go.Proofs.Ythkkphkeonnnfaa.Abs
open Go
set_option linter.unusedVariables false
set_option linter.unusedSimpArgs false
set_option maxRecDepth 100000
set_option maxHeartbeats 4000000
attribute [local irreducible] W Cl Bd
variable {g : Cg} {V : K → Option (List AV)}
/-- A reader's own block. -/
def rdB (k : K) (b : List Nat) (a : Nat) (nx : Int) : K × Bk := (k, .cells [.str b, .int .i64 (a : Int), .int .i64 nx] 91 3 true)
theorem wide_c (hp : Plain g 85 = true) (hm : Plain g 29 = true) (h1 : Plain g 83 = true) {b : List Nat} (hb : ∀ c ∈ b, c < 256) (hl : b.length ≤ 281474976710656) {at_ : Nat} (hat : at_ ≤ b.length) (k : K) (nx : Int) :
    Cl Try.prog g V 85 [.ptr (some (k, 0))] [rdB k b at_ nx] fun o Δ => match takeP (b.drop at_) with
      | some (n, r) => o = .ret (.int .u64 (n : Int)) ∧ Δ = [rdB k b (b.length - r.length) nx]
      | none => o = .pan (pn 194) ∧ Δ = [rdB k b at_ nx] := by
  refine Cl.enter hp Try.func85 rfl ?_
  have ht := take_c (V := V) h1 hb hl hat
  unfold rdB
  cases hr : takeP (b.drop at_) with
  | none =>
    simp only [hr] at ht ⊢
    repeat first | (refine W.callX rfl rfl rfl rfl ht ?_; intro e he) | (with_reducible first | refine za ?_ | refine zb ?_ | refine zc ?_) | refine ym zr ?_ | refine yn 0 zr ?_ | refine yn 1 zr ?_ | refine yn 2 zr ?_ | refine yn 3 zr ?_ | (refine yo zr ?_; intro _) | (refine yp zr ?_; intro _) | refine yq zr ?_ | refine ys zr ?_ | refine yu zr ?_ | refine yv zr ?_ | (with_reducible first | refine zd ?_ | refine ze ?_ | refine zf ?_ | refine zg ?_ | refine zh ?_ | refine zi ?_ | refine zj ?_ | refine zk ?_ | refine zl ?_) | refine zz zr ?_ | refine zw (by decide +kernel) ?_ | refine zx zr zr zr ?_ | refine zy zr zr ?_ | refine W.condT zr ?_ | refine W.condF zr ?_
    refine W.callM rfl rfl rfl rfl (must_c hm _ _) (by decide +kernel) ?_ ?_ <;> intro hm_ <;> (try simp only [decide_eq_true_eq, decide_eq_false_iff_not, Bool.true_eq_false, Bool.false_eq_true] at hm_)
    · exact absurd hm_ he
    · exact ⟨rfl, rfl⟩
  | some q =>
    obtain ⟨n, r⟩ := q
    simp only [hr] at ht ⊢
    repeat' first | refine W.callP rfl rfl rfl rfl ht ?_ | (refine W.callM rfl rfl rfl rfl (must_c hm _ _) (by decide +kernel) ?_ ?_ <;> intro hm_ <;> (try simp only [decide_eq_true_eq, decide_eq_false_iff_not, Bool.true_eq_false, Bool.false_eq_true] at hm_)) | (with_reducible first | refine za ?_ | refine zb ?_ | refine zc ?_) | refine ym zr ?_ | refine yn 0 zr ?_ | refine yn 1 zr ?_ | refine yn 2 zr ?_ | refine yn 3 zr ?_ | (refine yo zr ?_; intro _) | (refine yp zr ?_; intro _) | refine yq zr ?_ | refine ys zr ?_ | refine yu zr ?_ | refine yv zr ?_ | (with_reducible first | refine zd ?_ | refine ze ?_ | refine zf ?_ | refine zg ?_ | refine zh ?_ | refine zi ?_ | refine zj ?_ | refine zk ?_ | refine zl ?_) | refine zz zr ?_ | refine zw (by decide +kernel) ?_ | refine zx zr zr zr ?_ | refine zy zr zr ?_ | (refine W.condP zr ?_ ?_ <;> intro _) | refine W.condT zr ?_ | refine W.condF zr ?_ | (refine W.cond zr ?_ ?_ <;> intro _) | (refine W.gs zr zr zr zr ?_ ?_ <;> intro _) | (refine W.gsB zr zr zr zr ?_ ?_ <;> intro _) | refine W.done zr ?_ | refine W.doneN zr ?_
    · exact ⟨rfl, rfl⟩
    · exact absurd trivial hm_
theorem number_c (hp : Plain g 69 = true) (hw : Plain g 85 = true) (hm : Plain g 29 = true) (h1 : Plain g 83 = true) {b : List Nat} (hb : ∀ c ∈ b, c < 256) (hl : b.length ≤ 281474976710656) {at_ : Nat} (hat : at_ ≤ b.length) (k : K) (nx : Int) (most : Nat) (hmost : most ≤ 1000000) :
    Cl Try.prog g V 69 [.ptr (some (k, 0)), .int .i64 (most : Int)] [rdB k b at_ nx] fun o Δ => match takeP (b.drop at_) with
      | some (n, r) => if n ≤ most then o = .ret (.int .i64 (n : Int)) ∧ Δ = [rdB k b (b.length - r.length) nx] else o = .pan (pn 194) ∧ Δ = [rdB k b (b.length - r.length) nx]
      | none => o = .pan (pn 194) ∧ Δ = [rdB k b at_ nx] := by
  refine Cl.enter hp Try.func69 rfl ?_
  have hw := wide_c (V := V) hw hm h1 hb hl hat k nx
  have eu : IntKind.u64.wrap (most : Int) = (most : Int) := by rw [wrapU64]; omega
  cases hr : takeP (b.drop at_) with
  | none =>
    simp only [hr] at hw ⊢
    repeat first | (with_reducible first | refine za ?_ | refine zb ?_ | refine zc ?_) | refine ym zr ?_ | refine yn 0 zr ?_ | refine yn 1 zr ?_ | refine yn 2 zr ?_ | refine yn 3 zr ?_ | (refine yo zr ?_; intro _) | (refine yp zr ?_; intro _) | refine yq zr ?_ | refine ys zr ?_ | refine yu zr ?_ | refine yv zr ?_ | (with_reducible first | refine zd ?_ | refine ze ?_ | refine zf ?_ | refine zg ?_ | refine zh ?_ | refine zi ?_ | refine zj ?_ | refine zk ?_ | refine zl ?_) | refine zz zr ?_ | refine zw (by decide +kernel) ?_ | refine zx zr zr zr ?_ | refine zy zr zr ?_ | refine W.condT zr ?_ | refine W.condF zr ?_
    refine W.callR (Δ := [rdB k b at_ nx]) (R := []) rfl rfl rfl rfl hw ?_ ?_
    · rintro v Δ' ⟨h1, rfl⟩
      injection h1 with h1; subst h1
      exact ⟨by decide +kernel, rfl, rfl⟩
    · rintro v Δ' ⟨h1, rfl⟩
      cases h1
  | some q =>
    obtain ⟨n, r⟩ := q
    simp only [hr] at hw ⊢
    repeat first | (with_reducible first | refine za ?_ | refine zb ?_ | refine zc ?_) | refine ym zr ?_ | refine yn 0 zr ?_ | refine yn 1 zr ?_ | refine yn 2 zr ?_ | refine yn 3 zr ?_ | (refine yo zr ?_; intro _) | (refine yp zr ?_; intro _) | refine yq zr ?_ | refine ys zr ?_ | refine yu zr ?_ | refine yv zr ?_ | (with_reducible first | refine zd ?_ | refine ze ?_ | refine zf ?_ | refine zg ?_ | refine zh ?_ | refine zi ?_ | refine zj ?_ | refine zk ?_ | refine zl ?_) | refine zz zr ?_ | refine zw (by decide +kernel) ?_ | refine zx zr zr zr ?_ | refine zy zr zr ?_ | refine W.condT zr ?_ | refine W.condF zr ?_
    refine W.callR (Δ := [rdB k b at_ nx]) (R := []) rfl rfl rfl rfl hw ?_ ?_
    · rintro v Δ' ⟨h1, rfl⟩
      cases h1
    rintro v Δ' ⟨h1, rfl⟩
    injection h1 with h1; subst h1
    repeat first | (with_reducible first | refine za ?_ | refine zb ?_ | refine zc ?_) | refine ym zr ?_ | refine yn 0 zr ?_ | refine yn 1 zr ?_ | refine yn 2 zr ?_ | refine yn 3 zr ?_ | (refine yo zr ?_; intro _) | (refine yp zr ?_; intro _) | refine yq zr ?_ | refine ys zr ?_ | refine yu zr ?_ | refine yv zr ?_ | (with_reducible first | refine zd ?_ | refine ze ?_ | refine zf ?_ | refine zg ?_ | refine zh ?_ | refine zi ?_ | refine zj ?_ | refine zk ?_ | refine zl ?_) | refine zz zr ?_ | refine zw (by decide +kernel) ?_ | refine zx zr zr zr ?_ | refine zy zr zr ?_ | refine W.condT zr ?_ | refine W.condF zr ?_
    rw [eu]
    refine W.callM rfl rfl rfl rfl (must_c hm _ _) (by decide +kernel) ?_ ?_ <;> intro hm_ <;> (try simp only [decide_eq_true_eq, decide_eq_false_iff_not, Bool.true_eq_false, Bool.false_eq_true] at hm_)
    · have e1 : IntKind.i64.wrap (n : Int) = (n : Int) := w64 (by omega) (by omega)
      repeat' first | (with_reducible first | refine za ?_ | refine zb ?_ | refine zc ?_) | refine ym zr ?_ | refine yn 0 zr ?_ | refine yn 1 zr ?_ | refine yn 2 zr ?_ | refine yn 3 zr ?_ | (refine yo zr ?_; intro _) | (refine yp zr ?_; intro _) | refine yq zr ?_ | refine ys zr ?_ | refine yu zr ?_ | refine yv zr ?_ | (with_reducible first | refine zd ?_ | refine ze ?_ | refine zf ?_ | refine zg ?_ | refine zh ?_ | refine zi ?_ | refine zj ?_ | refine zk ?_ | refine zl ?_) | refine zz zr ?_ | refine zw (by decide +kernel) ?_ | refine zx zr zr zr ?_ | refine zy zr zr ?_ | (refine W.condP zr ?_ ?_ <;> intro _) | refine W.condT zr ?_ | refine W.condF zr ?_ | (refine W.cond zr ?_ ?_ <;> intro _) | (refine W.gs zr zr zr zr ?_ ?_ <;> intro _) | (refine W.gsB zr zr zr zr ?_ ?_ <;> intro _) | refine W.done zr ?_ | refine W.doneN zr ?_
      rw [if_pos (by omega), e1]
      exact ⟨rfl, rfl⟩
    · show ite _ _ _
      rw [if_neg (by omega)]
      exact ⟨rfl, rfl⟩
end Go.Proofs.Ythkkphkeonnnfaa.Abs
