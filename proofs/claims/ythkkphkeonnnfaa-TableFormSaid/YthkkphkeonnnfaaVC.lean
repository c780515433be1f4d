/- Checks, frames, numbers with signs: the program's functions. No condition but those that each theorem names. -/
import Derived.Test.YthkkphkeonnnfaaVB
namespace Go.Proofs.Ythkkphkeonnnfaa.Abs
open Go
set_option linter.unusedVariables false
set_option linter.unusedSimpArgs false
set_option maxRecDepth 100000
set_option maxHeartbeats 4000000
attribute [local irreducible] W Cl Bd
variable {g : Cg} {V : K → Option (List AV)}
theorem zig_c (hp : Plain g 39 = true) {n : Int} (h : In64 n) : Cl Try.prog g V 39 [.int .i64 n] [] fun o _ => o = .ret (.int .u64 (zigS n)) := by
  have hz := zig_bits h
  refine Cl.enter hp Try.func39 rfl ?_
  repeat' first | refine W.shl rfl rfl rfl rfl (by decide) ?_ | refine W.shr rfl rfl rfl rfl (by decide) ?_ | (with_reducible first | refine za ?_ | refine zb ?_ | refine zc ?_) | refine ym zr ?_ | refine yn 0 zr ?_ | refine yn 1 zr ?_ | refine yn 2 zr ?_ | refine yn 3 zr ?_ | (refine yo zr ?_; intro _) | (refine yp zr ?_; intro _) | refine yq zr ?_ | refine ys zr ?_ | refine yu zr ?_ | refine yv zr ?_ | (with_reducible first | refine zd ?_ | refine ze ?_ | refine zf ?_ | refine zg ?_ | refine zh ?_ | refine zi ?_ | refine zj ?_ | refine zk ?_ | refine zl ?_) | refine zz zr ?_ | refine zw (by decide +kernel) ?_ | refine zx zr zr zr ?_ | refine zy zr zr ?_ | (refine W.condP zr ?_ ?_ <;> intro _) | refine W.condT zr ?_ | refine W.condF zr ?_ | (refine W.cond zr ?_ ?_ <;> intro _) | (refine W.gs zr zr zr zr ?_ ?_ <;> intro _) | (refine W.gsB zr zr zr zr ?_ ?_ <;> intro _) | refine W.done zr ?_ | refine W.doneN zr ?_
  show RO.ret (AV.int .u64 (bitI .xor .u64 _ _)) = _
  rw [hz]
theorem zigR_c (hp : Plain g 65 = true) {n : Int} (h : In64 n) : Cl Try.prog g V 65 [.int .i64 n] [] fun o _ => o = .ret (.int .u64 (zigS n)) := by
  unfold In64 at h
  refine Cl.enter hp Try.func65 rfl ?_
  repeat' first | (with_reducible first | refine za ?_ | refine zb ?_ | refine zc ?_) | refine ym zr ?_ | refine yn 0 zr ?_ | refine yn 1 zr ?_ | refine yn 2 zr ?_ | refine yn 3 zr ?_ | (refine yo zr ?_; intro _) | (refine yp zr ?_; intro _) | refine yq zr ?_ | refine ys zr ?_ | refine yu zr ?_ | refine yv zr ?_ | (with_reducible first | refine zd ?_ | refine ze ?_ | refine zf ?_ | refine zg ?_ | refine zh ?_ | refine zi ?_ | refine zj ?_ | refine zk ?_ | refine zl ?_) | refine zz zr ?_ | refine zw (by decide +kernel) ?_ | refine zx zr zr zr ?_ | refine zy zr zr ?_ | (refine W.condP zr ?_ ?_ <;> intro _) | refine W.condT zr ?_ | refine W.condF zr ?_ | (refine W.cond zr ?_ ?_ <;> intro _) | (refine W.gs zr zr zr zr ?_ ?_ <;> intro _) | (refine W.gsB zr zr zr zr ?_ ?_ <;> intro _) | refine W.done zr ?_ | refine W.doneN zr ?_
  all_goals
    show RO.ret (AV.int .u64 _) = RO.ret (AV.int .u64 _)
    congr 2
    simp only [wrapU64, wrap64]
    unfold zigS
    first | (rw [if_pos (by assumption)]; omega) | (rw [if_neg (by assumption)]; omega)
theorem step_u32 {c x : Nat} (hc : c < 4294967296) (hx : x < 256) : IntKind.u32.wrap (bitI .xor .u32 (c : Int) (IntKind.u32.wrap ((x % 256 : Nat) : Int)) * 16777619) = ((stepS c x : Nat) : Int) := by
  have e : IntKind.u32.wrap ((x % 256 : Nat) : Int) = (x : Int) := by rw [wrapU32]; omega
  rw [e, bits_u rfl (by exact hc) (by show x < 4294967296; omega), wrapU32]
  unfold stepS
  omega
theorem step_u64 {c x : Nat} (hc : c < 4294967296) (hx : x < 256) : (IntKind.u64.wrap (bitI .xor .u64 (c : Int) (IntKind.u64.wrap ((x % 256 : Nat) : Int)) * 16777619)).tmod 4294967296 = ((stepS c x : Nat) : Int) := by
  have e : IntKind.u64.wrap ((x % 256 : Nat) : Int) = (x : Int) := by rw [wrapU64]; omega
  have hx' : c ^^^ x < 4294967296 := Nat.xor_lt_two_pow (n := 32) hc (by omega)
  rw [e, bits_u rfl (by show c < 18446744073709551616; omega) (by show x < 18446744073709551616; omega), wrapU64]
  rw [Int.tmod_eq_emod_of_nonneg (by omega)]
  unfold stepS
  omega
theorem sum_c (hp : Plain g 81 = true) {b : List Nat} (hb : ∀ c ∈ b, c < 256) (hl : b.length ≤ 281474976710656) : Cl Try.prog g V 81 [.str b] [] fun o _ => o = .ret (.int .u32 ((sumS b 2166136261 : Nat) : Int)) := by
  refine Cl.enter hp Try.func81 rfl ?_
  generalize hR : sumS b 2166136261 = R
  repeat first | (with_reducible first | refine za ?_ | refine zb ?_ | refine zc ?_) | refine ym zr ?_ | refine yn 0 zr ?_ | refine yn 1 zr ?_ | refine yn 2 zr ?_ | refine yn 3 zr ?_ | (refine yo zr ?_; intro _) | (refine yp zr ?_; intro _) | refine yq zr ?_ | refine ys zr ?_ | refine yu zr ?_ | refine yv zr ?_ | (with_reducible first | refine zd ?_ | refine ze ?_ | refine zf ?_ | refine zg ?_ | refine zh ?_ | refine zi ?_ | refine zj ?_ | refine zk ?_ | refine zl ?_) | refine zz zr ?_ | refine zw (by decide +kernel) ?_ | refine zx zr zr zr ?_ | refine zy zr zr ?_ | refine W.condT zr ?_ | refine W.condF zr ?_
  refine W.loopR (α := { q : Nat × Nat // q.1 ≤ b.length ∧ q.2 < 4294967296 ∧ sumS (b.drop q.1) q.2 = R }) (fun q => b.length - q.1.1) (fun q => [(0, _), (3, .int .u32 (q.1.2 : Int)), (6, _), (7, .int .i64 (q.1.1 : Int))]) (fun _ => _) ⟨(0, 2166136261), by simp, by simp, hR⟩ ⟨rfl, rfl, rfl, rfl⟩ (List.Sublist.refl _) ?_
  rintro ⟨⟨k, c⟩, hk, hc, hs⟩ ih
  simp only at ih hk hc hs ⊢
  repeat first | (with_reducible first | refine za ?_ | refine zb ?_ | refine zc ?_) | refine ym zr ?_ | refine yn 0 zr ?_ | refine yn 1 zr ?_ | refine yn 2 zr ?_ | refine yn 3 zr ?_ | (refine yo zr ?_; intro _) | (refine yp zr ?_; intro _) | refine yq zr ?_ | refine ys zr ?_ | refine yu zr ?_ | refine yv zr ?_ | (with_reducible first | refine zd ?_ | refine ze ?_ | refine zf ?_ | refine zg ?_ | refine zh ?_ | refine zi ?_ | refine zj ?_ | refine zk ?_ | refine zl ?_) | refine zz zr ?_ | refine zw (by decide +kernel) ?_ | refine zx zr zr zr ?_ | refine zy zr zr ?_ | refine W.condT zr ?_ | refine W.condF zr ?_
  refine W.condP rfl ?_ ?_ <;> intro hlt
  · have hlt : k < b.length := by omega
    have hx := hb _ (List.getElem_mem hlt)
    have hg : b[(k : Int).toNat]? = some b[k] := List.getElem?_eq_getElem hlt
    rw [List.drop_eq_getElem_cons hlt, sumS_cons] at hs
    generalize b[k] = x at hx hg hs
    have e := step_u32 hc hx
    repeat first | refine W.idx tblOk rfl rfl rfl rfl rfl (by omega) hg ?_ | (with_reducible first | refine za ?_ | refine zb ?_ | refine zc ?_) | refine ym zr ?_ | refine yn 0 zr ?_ | refine yn 1 zr ?_ | refine yn 2 zr ?_ | refine yn 3 zr ?_ | (refine yo zr ?_; intro _) | (refine yp zr ?_; intro _) | refine yq zr ?_ | refine ys zr ?_ | refine yu zr ?_ | refine yv zr ?_ | (with_reducible first | refine zd ?_ | refine ze ?_ | refine zf ?_ | refine zg ?_ | refine zh ?_ | refine zi ?_ | refine zj ?_ | refine zk ?_ | refine zl ?_) | refine zz zr ?_ | refine zw (by decide +kernel) ?_ | refine zx zr zr zr ?_ | refine zy zr zr ?_ | refine W.condT zr ?_ | refine W.condF zr ?_
    rw [wN (by omega)]
    refine W.weak _ _ ?_ ?_ (ih ⟨(k + 1, stepS c x), by show k + 1 ≤ _; omega, stepS_lt _ _, hs⟩ (by show b.length - (k + 1) < b.length - k; omega))
    · refine ⟨rfl, ?_, rfl, rfl⟩
      show some (AV.int .u32 _) = some (AV.int .u32 ((stepS c x : Nat) : Int))
      rw [← e]
    · exact List.Sublist.refl _
  · rw [List.drop_eq_nil_of_le (by omega), sumS_nil] at hs
    clear ih
    repeat' first | (with_reducible first | refine za ?_ | refine zb ?_ | refine zc ?_) | refine ym zr ?_ | refine yn 0 zr ?_ | refine yn 1 zr ?_ | refine yn 2 zr ?_ | refine yn 3 zr ?_ | (refine yo zr ?_; intro _) | (refine yp zr ?_; intro _) | refine yq zr ?_ | refine ys zr ?_ | refine yu zr ?_ | refine yv zr ?_ | (with_reducible first | refine zd ?_ | refine ze ?_ | refine zf ?_ | refine zg ?_ | refine zh ?_ | refine zi ?_ | refine zj ?_ | refine zk ?_ | refine zl ?_) | refine zz zr ?_ | refine zw (by decide +kernel) ?_ | refine zx zr zr zr ?_ | refine zy zr zr ?_ | (refine W.condP zr ?_ ?_ <;> intro _) | refine W.condT zr ?_ | refine W.condF zr ?_ | (refine W.cond zr ?_ ?_ <;> intro _) | (refine W.gs zr zr zr zr ?_ ?_ <;> intro _) | (refine W.gsB zr zr zr zr ?_ ?_ <;> intro _) | refine W.done zr ?_ | refine W.doneN zr ?_
    rw [hs]; rfl
theorem sumR_c (hp : Plain g 82 = true) {b : List Nat} (hb : ∀ c ∈ b, c < 256) (hl : b.length ≤ 281474976710656) : Cl Try.prog g V 82 [.str b] [] fun o _ => o = .ret (.int .u32 ((sumS b 2166136261 : Nat) : Int)) := by
  refine Cl.enter hp Try.func82 rfl ?_
  have hRl := sumS_lt b 2166136261 (by decide)
  generalize hR : sumS b 2166136261 = R at hRl
  repeat first | (with_reducible first | refine za ?_ | refine zb ?_ | refine zc ?_) | refine ym zr ?_ | refine yn 0 zr ?_ | refine yn 1 zr ?_ | refine yn 2 zr ?_ | refine yn 3 zr ?_ | (refine yo zr ?_; intro _) | (refine yp zr ?_; intro _) | refine yq zr ?_ | refine ys zr ?_ | refine yu zr ?_ | refine yv zr ?_ | (with_reducible first | refine zd ?_ | refine ze ?_ | refine zf ?_ | refine zg ?_ | refine zh ?_ | refine zi ?_ | refine zj ?_ | refine zk ?_ | refine zl ?_) | refine zz zr ?_ | refine zw (by decide +kernel) ?_ | refine zx zr zr zr ?_ | refine zy zr zr ?_ | refine W.condT zr ?_ | refine W.condF zr ?_
  refine W.loopR (α := { q : Nat × Nat // q.1 ≤ b.length ∧ q.2 < 4294967296 ∧ sumS (b.drop q.1) q.2 = R }) (fun q => b.length - q.1.1) (fun q => [(0, _), (3, .int .u64 (q.1.2 : Int)), (4, .int .i64 (q.1.1 : Int))]) (fun _ => _) ⟨(0, 2166136261), by simp, by simp, hR⟩ ⟨rfl, rfl, rfl⟩ (List.Sublist.refl _) ?_
  rintro ⟨⟨k, c⟩, hk, hc, hs⟩ ih
  simp only at ih hk hc hs ⊢
  repeat first | (with_reducible first | refine za ?_ | refine zb ?_ | refine zc ?_) | refine ym zr ?_ | refine yn 0 zr ?_ | refine yn 1 zr ?_ | refine yn 2 zr ?_ | refine yn 3 zr ?_ | (refine yo zr ?_; intro _) | (refine yp zr ?_; intro _) | refine yq zr ?_ | refine ys zr ?_ | refine yu zr ?_ | refine yv zr ?_ | (with_reducible first | refine zd ?_ | refine ze ?_ | refine zf ?_ | refine zg ?_ | refine zh ?_ | refine zi ?_ | refine zj ?_ | refine zk ?_ | refine zl ?_) | refine zz zr ?_ | refine zw (by decide +kernel) ?_ | refine zx zr zr zr ?_ | refine zy zr zr ?_ | refine W.condT zr ?_ | refine W.condF zr ?_
  refine W.condP rfl ?_ ?_ <;> intro hlt
  · have hlt : k < b.length := by omega
    have hx := hb _ (List.getElem_mem hlt)
    have hg : b[(k : Int).toNat]? = some b[k] := List.getElem?_eq_getElem hlt
    rw [List.drop_eq_getElem_cons hlt, sumS_cons] at hs
    generalize b[k] = x at hx hg hs
    have e := step_u64 hc hx
    repeat first | refine W.idx tblOk rfl rfl rfl rfl rfl (by omega) hg ?_ | refine W.rem rfl rfl rfl rfl (by decide) ?_ | (with_reducible first | refine za ?_ | refine zb ?_ | refine zc ?_) | refine ym zr ?_ | refine yn 0 zr ?_ | refine yn 1 zr ?_ | refine yn 2 zr ?_ | refine yn 3 zr ?_ | (refine yo zr ?_; intro _) | (refine yp zr ?_; intro _) | refine yq zr ?_ | refine ys zr ?_ | refine yu zr ?_ | refine yv zr ?_ | (with_reducible first | refine zd ?_ | refine ze ?_ | refine zf ?_ | refine zg ?_ | refine zh ?_ | refine zi ?_ | refine zj ?_ | refine zk ?_ | refine zl ?_) | refine zz zr ?_ | refine zw (by decide +kernel) ?_ | refine zx zr zr zr ?_ | refine zy zr zr ?_ | refine W.condT zr ?_ | refine W.condF zr ?_
    rw [wN (by omega)]
    refine W.weak _ _ ?_ ?_ (ih ⟨(k + 1, stepS c x), by show k + 1 ≤ _; omega, stepS_lt _ _, hs⟩ (by show b.length - (k + 1) < b.length - k; omega))
    · refine ⟨rfl, ?_, rfl⟩
      show some (AV.int .u64 _) = some (AV.int .u64 ((stepS c x : Nat) : Int))
      rw [← e]
    · exact List.Sublist.refl _
  · rw [List.drop_eq_nil_of_le (by omega), sumS_nil] at hs
    have e : IntKind.u32.wrap (c : Int) = (R : Int) := by rw [wrapU32, hs]; omega
    clear ih
    repeat' first | (with_reducible first | refine za ?_ | refine zb ?_ | refine zc ?_) | refine ym zr ?_ | refine yn 0 zr ?_ | refine yn 1 zr ?_ | refine yn 2 zr ?_ | refine yn 3 zr ?_ | (refine yo zr ?_; intro _) | (refine yp zr ?_; intro _) | refine yq zr ?_ | refine ys zr ?_ | refine yu zr ?_ | refine yv zr ?_ | (with_reducible first | refine zd ?_ | refine ze ?_ | refine zf ?_ | refine zg ?_ | refine zh ?_ | refine zi ?_ | refine zj ?_ | refine zk ?_ | refine zl ?_) | refine zz zr ?_ | refine zw (by decide +kernel) ?_ | refine zx zr zr zr ?_ | refine zy zr zr ?_ | (refine W.condP zr ?_ ?_ <;> intro _) | refine W.condT zr ?_ | refine W.condF zr ?_ | (refine W.cond zr ?_ ?_ <;> intro _) | (refine W.gs zr zr zr zr ?_ ?_ <;> intro _) | (refine W.gsB zr zr zr zr ?_ ?_ <;> intro _) | refine W.done zr ?_ | refine W.doneN zr ?_
    show RO.ret (AV.int .u32 _) = _
    rw [e]
theorem textA_four {a b c d : Nat} : textA [.int .u8 (a : Int), .int .u8 (b : Int), .int .u8 (c : Int), .int .u8 (d : Int)] = some [a, b, c, d] := rfl
theorem check_cW (hp : Plain g 62 = true) (hs : Plain g 81 = true) {b : List Nat} (hb : ∀ c ∈ b, c < 256) (hl : b.length ≤ 281474976710656) : Cl Try.prog g V 62 [.str b] [] fun o _ => o = .ret (.str (checkB b)) := by
  refine Cl.enter hp Try.func62 rfl ?_
  have hsum := sum_c (g := g) (V := V) hs hb hl
  have hlt := sumS_lt b 2166136261 (by decide)
  unfold checkB
  generalize sumS b 2166136261 = c at hsum hlt
  have e0 : IntKind.u8.wrap (c : Int) = ((c % 256 : Nat) : Int) := by rw [wrapU8]; omega
  have e1 : IntKind.u8.wrap ((c : Int).fdiv (2 ^ (min (8 : Int).toNat IntKind.u32.bits))) = ((c / 256 % 256 : Nat) : Int) := by
    rw [show (2 : Int) ^ (min (8 : Int).toNat IntKind.u32.bits) = 256 from rfl, Int.fdiv_eq_ediv_of_nonneg _ (by decide), wrapU8]; omega
  have e2 : IntKind.u8.wrap ((c : Int).fdiv (2 ^ (min (16 : Int).toNat IntKind.u32.bits))) = ((c / 65536 % 256 : Nat) : Int) := by
    rw [show (2 : Int) ^ (min (16 : Int).toNat IntKind.u32.bits) = 65536 from rfl, Int.fdiv_eq_ediv_of_nonneg _ (by decide), wrapU8]; omega
  have e3 : IntKind.u8.wrap ((c : Int).fdiv (2 ^ (min (24 : Int).toNat IntKind.u32.bits))) = ((c / 16777216 : Nat) : Int) := by
    rw [show (2 : Int) ^ (min (24 : Int).toNat IntKind.u32.bits) = 16777216 from rfl, Int.fdiv_eq_ediv_of_nonneg _ (by decide), wrapU8]; omega
  repeat first | refine W.callP rfl rfl rfl rfl hsum ?_ | refine W.shr rfl rfl rfl rfl (by decide) ?_ | (refine W.bsl tblOk rfl rfl rfl rfl (by decide) rfl rfl rfl ?_; intro i0) | (with_reducible first | refine za ?_ | refine zb ?_ | refine zc ?_) | refine ym zr ?_ | refine yn 0 zr ?_ | refine yn 1 zr ?_ | refine yn 2 zr ?_ | refine yn 3 zr ?_ | (refine yo zr ?_; intro _) | (refine yp zr ?_; intro _) | refine yq zr ?_ | refine ys zr ?_ | refine yu zr ?_ | refine yv zr ?_ | (with_reducible first | refine zd ?_ | refine ze ?_ | refine zf ?_ | refine zg ?_ | refine zh ?_ | refine zi ?_ | refine zj ?_ | refine zk ?_ | refine zl ?_) | refine zz zr ?_ | refine zw (by decide +kernel) ?_ | refine zx zr zr zr ?_ | refine zy zr zr ?_ | refine W.condT zr ?_ | refine W.condF zr ?_
  rw [e0, e1, e2, e3]
  repeat' first | refine W.text tblOk 0 rfl rfl rfl rfl rfl rfl rfl rfl rfl textA_four ?_ | (with_reducible first | refine za ?_ | refine zb ?_ | refine zc ?_) | refine ym zr ?_ | refine yn 0 zr ?_ | refine yn 1 zr ?_ | refine yn 2 zr ?_ | refine yn 3 zr ?_ | (refine yo zr ?_; intro _) | (refine yp zr ?_; intro _) | refine yq zr ?_ | refine ys zr ?_ | refine yu zr ?_ | refine yv zr ?_ | (with_reducible first | refine zd ?_ | refine ze ?_ | refine zf ?_ | refine zg ?_ | refine zh ?_ | refine zi ?_ | refine zj ?_ | refine zk ?_ | refine zl ?_) | refine zz zr ?_ | refine zw (by decide +kernel) ?_ | refine zx zr zr zr ?_ | refine zy zr zr ?_ | (refine W.condP zr ?_ ?_ <;> intro _) | refine W.condT zr ?_ | refine W.condF zr ?_ | (refine W.cond zr ?_ ?_ <;> intro _) | (refine W.gs zr zr zr zr ?_ ?_ <;> intro _) | (refine W.gsB zr zr zr zr ?_ ?_ <;> intro _) | refine W.done zr ?_ | refine W.doneN zr ?_
  rfl
theorem tail_cR (hp : Plain g 66 = true) (hs : Plain g 82 = true) {b : List Nat} (hb : ∀ c ∈ b, c < 256) (hl : b.length ≤ 281474976710656) : Cl Try.prog g V 66 [.str b] [] fun o _ => o = .ret (.str (checkB b)) := by
  refine Cl.enter hp Try.func66 rfl ?_
  have hsum := sumR_c (g := g) (V := V) hs hb hl
  have hlt := sumS_lt b 2166136261 (by decide)
  unfold checkB
  generalize sumS b 2166136261 = c at hsum hlt
  have e0 : IntKind.u8.wrap ((c : Int).tmod 256) = ((c % 256 : Nat) : Int) := by rw [Int.tmod_eq_emod_of_nonneg (by omega), wrapU8]; omega
  have d1 : IntKind.u32.wrap ((c : Int).tdiv 256) = ((c / 256 : Nat) : Int) := by rw [Int.tdiv_eq_ediv_of_nonneg (by omega), wrapU32]; omega
  have d2 : IntKind.u32.wrap ((c : Int).tdiv 65536) = ((c / 65536 : Nat) : Int) := by rw [Int.tdiv_eq_ediv_of_nonneg (by omega), wrapU32]; omega
  have d3 : IntKind.u32.wrap ((c : Int).tdiv 16777216) = ((c / 16777216 : Nat) : Int) := by rw [Int.tdiv_eq_ediv_of_nonneg (by omega), wrapU32]; omega
  have e1 : IntKind.u8.wrap (((c / 256 : Nat) : Int).tmod 256) = ((c / 256 % 256 : Nat) : Int) := by rw [Int.tmod_eq_emod_of_nonneg (by omega), wrapU8]; omega
  have e2 : IntKind.u8.wrap (((c / 65536 : Nat) : Int).tmod 256) = ((c / 65536 % 256 : Nat) : Int) := by rw [Int.tmod_eq_emod_of_nonneg (by omega), wrapU8]; omega
  have e3 : IntKind.u8.wrap ((c / 16777216 : Nat) : Int) = ((c / 16777216 : Nat) : Int) := by rw [wrapU8]; omega
  repeat first | refine W.callP rfl rfl rfl rfl hsum ?_ | refine W.rem rfl rfl rfl rfl (by decide) ?_ | refine W.div rfl rfl rfl rfl (by decide) ?_ | (refine W.bsl tblOk rfl rfl rfl rfl (by decide) rfl rfl rfl ?_; intro i0) | (with_reducible first | refine za ?_ | refine zb ?_ | refine zc ?_) | refine ym zr ?_ | refine yn 0 zr ?_ | refine yn 1 zr ?_ | refine yn 2 zr ?_ | refine yn 3 zr ?_ | (refine yo zr ?_; intro _) | (refine yp zr ?_; intro _) | refine yq zr ?_ | refine ys zr ?_ | refine yu zr ?_ | refine yv zr ?_ | (with_reducible first | refine zd ?_ | refine ze ?_ | refine zf ?_ | refine zg ?_ | refine zh ?_ | refine zi ?_ | refine zj ?_ | refine zk ?_ | refine zl ?_) | refine zz zr ?_ | refine zw (by decide +kernel) ?_ | refine zx zr zr zr ?_ | refine zy zr zr ?_ | refine W.condT zr ?_ | refine W.condF zr ?_
  rw [d1, d2, d3, e0, e1, e2, e3]
  repeat' first | refine W.text tblOk 0 rfl rfl rfl rfl rfl rfl rfl rfl rfl textA_four ?_ | (with_reducible first | refine za ?_ | refine zb ?_ | refine zc ?_) | refine ym zr ?_ | refine yn 0 zr ?_ | refine yn 1 zr ?_ | refine yn 2 zr ?_ | refine yn 3 zr ?_ | (refine yo zr ?_; intro _) | (refine yp zr ?_; intro _) | refine yq zr ?_ | refine ys zr ?_ | refine yu zr ?_ | refine yv zr ?_ | (with_reducible first | refine zd ?_ | refine ze ?_ | refine zf ?_ | refine zg ?_ | refine zh ?_ | refine zi ?_ | refine zj ?_ | refine zk ?_ | refine zl ?_) | refine zz zr ?_ | refine zw (by decide +kernel) ?_ | refine zx zr zr zr ?_ | refine zy zr zr ?_ | (refine W.condP zr ?_ ?_ <;> intro _) | refine W.condT zr ?_ | refine W.condF zr ?_ | (refine W.cond zr ?_ ?_ <;> intro _) | (refine W.gs zr zr zr zr ?_ ?_ <;> intro _) | (refine W.gsB zr zr zr zr ?_ ?_ <;> intro _) | refine W.done zr ?_ | refine W.doneN zr ?_
  rfl
/-- A frame, or what is wrong: nothing behind the first number. -/
def frameV (b : List Nat) : AV := if b.length > 65536 then .tup [.str [], .int .i64 31] else .tup [.str (frameS b), .int .i64 0]
theorem frame_c (hp : Plain g 40 = true) (h3 : Plain g 36 = true) (h2 : Plain g 38 = true) (h1 : Plain g 61 = true) (hc : Plain g 62 = true) (hs : Plain g 81 = true) {b : List Nat} (hb : ∀ c ∈ b, c < 256) (hl : b.length ≤ 1000000000) : Cl Try.prog g V 40 [.str b] [] fun o _ => o = .ret (frameV b) := by
  refine Cl.enter hp Try.func40 rfl ?_
  have k1 := putText_c (g := g) (V := V) h3 h2 h1 (b := []) (s := b) (by simp) (by simp; omega)
  have k2 := check_cW (g := g) (V := V) hc hs hb (by omega)
  have hp10 := putS_len10 (n := b.length) (by omega)
  rw [List.nil_append] at k1
  unfold frameV
  repeat' first | refine W.callP rfl rfl rfl rfl k1 ?_ | refine W.callP rfl rfl rfl rfl k2 ?_ | refine W.cat rfl rfl rfl rfl (by rw [List.length_append]; show _ + 4 ≤ _; omega) ?_ | (with_reducible first | refine za ?_ | refine zb ?_ | refine zc ?_) | refine ym zr ?_ | refine yn 0 zr ?_ | refine yn 1 zr ?_ | refine yn 2 zr ?_ | refine yn 3 zr ?_ | (refine yo zr ?_; intro _) | (refine yp zr ?_; intro _) | refine yq zr ?_ | refine ys zr ?_ | refine yu zr ?_ | refine yv zr ?_ | (with_reducible first | refine zd ?_ | refine ze ?_ | refine zf ?_ | refine zg ?_ | refine zh ?_ | refine zi ?_ | refine zj ?_ | refine zk ?_ | refine zl ?_) | refine zz zr ?_ | refine zw (by decide +kernel) ?_ | refine zx zr zr zr ?_ | refine zy zr zr ?_ | (refine W.condP zr ?_ ?_ <;> intro _) | refine W.condT zr ?_ | refine W.condF zr ?_ | (refine W.cond zr ?_ ?_ <;> intro _) | (refine W.gs zr zr zr zr ?_ ?_ <;> intro _) | (refine W.gsB zr zr zr zr ?_ ?_ <;> intro _) | refine W.done zr ?_ | refine W.doneN zr ?_
  · rw [if_pos (by omega)]; rfl
  · rw [if_neg (by omega)]; rfl
end Go.Proofs.Ythkkphkeonnnfaa.Abs
