/- Numbers and texts as bytes: what the program's functions write, and the document's. No condition but those that each theorem names. -/
import Derived.Test.YthkkphkeonnnfaaVA
import Derived.Test.YthkkphkeonnnfaaTF
namespace Go.Proofs.Ythkkphkeonnnfaa.Abs
open Go
set_option linter.unusedVariables false
set_option linter.unusedSimpArgs false
set_option maxRecDepth 100000
set_option maxHeartbeats 4000000
attribute [local irreducible] W Cl Bd
variable {g : Cg} {V : K → Option (List AV)}
/-- A row of bytes of one's own. -/
noncomputable def byB (i : K) (l : List Nat) : K × Bk := (i, .cells (bytesA l) 5 1 false)
theorem put_c (hp : Plain g 61 = true) (i : K) (l : List Nat) {m : Nat} (hm : m < 18446744073709551616) (hb : l.length + 10 ≤ 140737488355328) :
    Cl Try.prog g V 61 [.slice (some (i, 0)) l.length (.own 0), .int .u64 (m : Int)] [byB i l] fun o Δ' => ∃ i', o = .ret (.slice (some (i', 0)) (l ++ putS m).length (.own 0)) ∧ byB i' (l ++ putS m) ∈ Δ' := by
  refine Cl.enter hp Try.func61 rfl ?_
  have hlen := putS_len10 hm
  generalize hR : l ++ putS m = R
  have hRl : R.length ≤ 140737488355328 := by rw [← hR, List.length_append]; omega
  repeat first | (with_reducible first | refine za ?_ | refine zb ?_ | refine zc ?_) | refine ym zr ?_ | refine yn 0 zr ?_ | refine yn 1 zr ?_ | refine yn 2 zr ?_ | refine yn 3 zr ?_ | (refine yo zr ?_; intro _) | (refine yp zr ?_; intro _) | refine yq zr ?_ | refine ys zr ?_ | refine yu zr ?_ | refine yv zr ?_ | (with_reducible first | refine zd ?_ | refine ze ?_ | refine zf ?_ | refine zg ?_ | refine zh ?_ | refine zi ?_ | refine zj ?_ | refine zk ?_ | refine zl ?_) | refine zz zr ?_ | refine zw (by decide +kernel) ?_ | refine zx zr zr zr ?_ | refine zy zr zr ?_ | refine W.condT zr ?_ | refine W.condF zr ?_
  refine W.loopR (α := { q : List Nat × Nat × K // q.1 ++ putS q.2.1 = R ∧ q.2.1 < 18446744073709551616 }) (fun q => q.1.2.1) (fun q => [(0, .slice (some (q.1.2.2, 0)) q.1.1.length (.own 0)), (1, .int .u64 (q.1.2.1 : Int))]) (fun q => [byB q.1.2.2 q.1.1]) ⟨(l, m, i), hR, hm⟩ ⟨rfl, rfl⟩ (List.Sublist.refl _) ?_
  clear hm hR hlen hb
  rintro ⟨⟨l, m, i⟩, hR, hm⟩ ih
  simp only at ih hR hm ⊢
  unfold byB
  repeat first | (with_reducible first | refine za ?_ | refine zb ?_ | refine zc ?_) | refine ym zr ?_ | refine yn 0 zr ?_ | refine yn 1 zr ?_ | refine yn 2 zr ?_ | refine yn 3 zr ?_ | (refine yo zr ?_; intro _) | (refine yp zr ?_; intro _) | refine yq zr ?_ | refine ys zr ?_ | refine yu zr ?_ | refine yv zr ?_ | (with_reducible first | refine zd ?_ | refine ze ?_ | refine zf ?_ | refine zg ?_ | refine zh ?_ | refine zi ?_ | refine zj ?_ | refine zk ?_ | refine zl ?_) | refine zz zr ?_ | refine zw (by decide +kernel) ?_ | refine zx zr zr zr ?_ | refine zy zr zr ?_ | refine W.condT zr ?_ | refine W.condF zr ?_
  refine W.condP rfl ?_ ?_ <;> intro hge
  · have hge : ¬ m < 128 := by omega
    rw [putS_ge hge] at hR
    have e1 : IntKind.u8.wrap (m : Int) = ((m % 256 : Nat) : Int) := by rw [wrapU8]; omega
    have e2 : bitI .or .u8 ((m % 256 : Nat) : Int) 128 = ((m % 128 + 128 : Nat) : Int) := by
      have := or128 ⟨m % 256, Nat.mod_lt _ (by decide)⟩
      simp only at this
      rw [this, Nat.mod_mod_of_dvd _ (by decide)]
    have hl1 : l.length + 1 ≤ 140737488355328 := by rw [← hR] at hRl; simp at hRl; have := putS_pos (m / 128); omega
    have hold : takeL (l.length * 1) (bytesA l) = some (bytesA l) := by rw [Nat.mul_one, ← bytesA_len]; exact takeL_all _
    have e3 : (m : Int).fdiv (2 ^ (min (7 : Int).toNat IntKind.u64.bits)) = ((m / 128 : Nat) : Int) := by
      rw [show (2 : Int) ^ (min (7 : Int).toNat IntKind.u64.bits) = 128 from rfl, Int.fdiv_eq_ediv_of_nonneg _ (by decide)]; omega
    repeat first | (refine W.bsl tblOk rfl rfl rfl rfl (by decide) rfl rfl rfl ?_; intro _) | (refine W.fr1 ?_; refine W.appO tblOk (len := l.length) rfl rfl rfl rfl rfl rfl rfl (by decide) (by decide) (by simpa using hl1) hold (src_own (p := 1) rfl rfl rfl) rfl rfl rfl ?_; intro i2) | refine W.shr rfl rfl rfl rfl (by decide) ?_ | (with_reducible first | refine za ?_ | refine zb ?_ | refine zc ?_) | refine ym zr ?_ | refine yn 0 zr ?_ | refine yn 1 zr ?_ | refine yn 2 zr ?_ | refine yn 3 zr ?_ | (refine yo zr ?_; intro _) | (refine yp zr ?_; intro _) | refine yq zr ?_ | refine ys zr ?_ | refine yu zr ?_ | refine yv zr ?_ | (with_reducible first | refine zd ?_ | refine ze ?_ | refine zf ?_ | refine zg ?_ | refine zh ?_ | refine zi ?_ | refine zj ?_ | refine zk ?_ | refine zl ?_) | refine zz zr ?_ | refine zw (by decide +kernel) ?_ | refine zx zr zr zr ?_ | refine zy zr zr ?_ | refine W.condT zr ?_ | refine W.condF zr ?_
    rw [e1, e2, e3, bytesA_one (by omega), bytesA_app]
    have h9 := ih ⟨(l ++ [m % 128 + 128], m / 128, i2), by show (l ++ [m % 128 + 128]) ++ putS (m / 128) = R; rw [← hR]; simp, by show m / 128 < _; omega⟩ (by show m / 128 < m; omega)
    refine W.weak _ _ ?_ ?_ h9
    · refine ⟨?_, rfl⟩
      show some _ = some (AV.slice (some (i2, 0)) (l ++ [m % 128 + 128]).length (.own 0))
      rw [List.length_append]; rfl
    · exact .cons_cons _ (.cons _ (List.Sublist.refl _))
  · have hlt : m < 128 := by omega
    rw [putS_lt hlt] at hR
    have e1 : IntKind.u8.wrap (m : Int) = ((m : Nat) : Int) := by rw [wrapU8]; omega
    have hl1 : l.length + 1 ≤ 140737488355328 := by rw [← hR] at hRl; simpa using hRl
    have hold : takeL (l.length * 1) (bytesA l) = some (bytesA l) := by rw [Nat.mul_one, ← bytesA_len]; exact takeL_all _
    clear ih
    repeat first | (refine W.bsl tblOk rfl rfl rfl rfl (by decide) rfl rfl rfl ?_; intro _) | (refine W.fr1 ?_; refine W.appO tblOk (len := l.length) rfl rfl rfl rfl rfl rfl rfl (by decide) (by decide) (by simpa using hl1) hold (src_own (p := 1) rfl rfl rfl) rfl rfl rfl ?_; intro i2) | (with_reducible first | refine za ?_ | refine zb ?_ | refine zc ?_) | refine ym zr ?_ | refine yn 0 zr ?_ | refine yn 1 zr ?_ | refine yn 2 zr ?_ | refine yn 3 zr ?_ | (refine yo zr ?_; intro _) | (refine yp zr ?_; intro _) | refine yq zr ?_ | refine ys zr ?_ | refine yu zr ?_ | refine yv zr ?_ | (with_reducible first | refine zd ?_ | refine ze ?_ | refine zf ?_ | refine zg ?_ | refine zh ?_ | refine zi ?_ | refine zj ?_ | refine zk ?_ | refine zl ?_) | refine zz zr ?_ | refine zw (by decide +kernel) ?_ | refine zx zr zr zr ?_ | refine zy zr zr ?_ | refine W.condT zr ?_ | refine W.condF zr ?_
    rw [e1, bytesA_one (by omega), bytesA_app, hR]
    repeat' first | (with_reducible first | refine za ?_ | refine zb ?_ | refine zc ?_) | refine ym zr ?_ | refine yn 0 zr ?_ | refine yn 1 zr ?_ | refine yn 2 zr ?_ | refine yn 3 zr ?_ | (refine yo zr ?_; intro _) | (refine yp zr ?_; intro _) | refine yq zr ?_ | refine ys zr ?_ | refine yu zr ?_ | refine yv zr ?_ | (with_reducible first | refine zd ?_ | refine ze ?_ | refine zf ?_ | refine zg ?_ | refine zh ?_ | refine zi ?_ | refine zj ?_ | refine zk ?_ | refine zl ?_) | refine zz zr ?_ | refine zw (by decide +kernel) ?_ | refine zx zr zr zr ?_ | refine zy zr zr ?_ | (refine W.condP zr ?_ ?_ <;> intro _) | refine W.condT zr ?_ | refine W.condF zr ?_ | (refine W.cond zr ?_ ?_ <;> intro _) | (refine W.gs zr zr zr zr ?_ ?_ <;> intro _) | (refine W.gsB zr zr zr zr ?_ ?_ <;> intro _) | refine W.done zr ?_ | refine W.doneN zr ?_
    refine ⟨i2, ?_, by simp⟩
    show RO.ret (AV.slice (some (i2, 0)) (l.length + 1) (.own 0)) = _
    rw [← hR, List.length_append]; rfl
theorem puts_c (hp : Plain g 38 = true) (h1 : Plain g 61 = true) {b : List Nat} {s : Sl Int} (hs : s.In V false 1 (AV.int .u64)) (hx : ∀ x ∈ s.l, 0 ≤ x ∧ x < 18446744073709551616) (hb : ∀ c ∈ b, c < 256) (hl : b.length + 10 * s.l.length + 10 ≤ 140737488355328) :
    Cl Try.prog g V 38 [.str b, s.v] [] fun o _ => o = .ret (.str (b ++ putsS s.l)) := by
  refine Cl.enter hp Try.func38 rfl ?_
  generalize hR : b ++ putsS s.l = R
  have hRl : R.length ≤ 140737488355328 := by
    have := putsS_len s.l fun x h => by have := hx x h; omega
    rw [← hR, List.length_append]; omega
  have hRb : ∀ c ∈ R, c < 256 := fun c hc => by
    rw [← hR] at hc
    rcases List.mem_append.1 hc with h | h
    · exact hb c h
    · exact putsS_byte _ c h
  repeat first | (refine W.bytes tblOk rfl rfl rfl rfl rfl rfl ?_; intro i0) | (with_reducible first | refine za ?_ | refine zb ?_ | refine zc ?_) | refine ym zr ?_ | refine yn 0 zr ?_ | refine yn 1 zr ?_ | refine yn 2 zr ?_ | refine yn 3 zr ?_ | (refine yo zr ?_; intro _) | (refine yp zr ?_; intro _) | refine yq zr ?_ | refine ys zr ?_ | refine yu zr ?_ | refine yv zr ?_ | (with_reducible first | refine zd ?_ | refine ze ?_ | refine zf ?_ | refine zg ?_ | refine zh ?_ | refine zi ?_ | refine zj ?_ | refine zk ?_ | refine zl ?_) | refine zz zr ?_ | refine zw (by decide +kernel) ?_ | refine zx zr zr zr ?_ | refine zy zr zr ?_ | refine W.condT zr ?_ | refine W.condF zr ?_
  refine W.loopR (α := { q : Nat × List Nat × K // q.1 ≤ s.l.length ∧ q.2.1 ++ putsS (s.l.drop q.1) = R ∧ q.2.1.length ≤ b.length + 10 * q.1 }) (fun q => s.l.length - q.1.1) (fun q => [(5, .slice (some (q.1.2.2, 0)) q.1.2.1.length (.own 0)), (10, _), (11, _), (12, .int .i64 (q.1.1 : Int))]) (fun q => [byB q.1.2.2 q.1.2.1]) ⟨(0, b, i0), by simp, by simpa using hR, by simp⟩ ⟨rfl, rfl, rfl, rfl⟩ (List.Sublist.refl _) ?_
  rintro ⟨⟨k, c, i⟩, hk, hc, hcl⟩ ih
  simp only at ih hk hc hcl ⊢
  repeat first | (with_reducible first | refine za ?_ | refine zb ?_ | refine zc ?_) | refine ym zr ?_ | refine yn 0 zr ?_ | refine yn 1 zr ?_ | refine yn 2 zr ?_ | refine yn 3 zr ?_ | (refine yo zr ?_; intro _) | (refine yp zr ?_; intro _) | refine yq zr ?_ | refine ys zr ?_ | refine yu zr ?_ | refine yv zr ?_ | (with_reducible first | refine zd ?_ | refine ze ?_ | refine zf ?_ | refine zg ?_ | refine zh ?_ | refine zi ?_ | refine zj ?_ | refine zk ?_ | refine zl ?_) | refine zz zr ?_ | refine zw (by decide +kernel) ?_ | refine zx zr zr zr ?_ | refine zy zr zr ?_ | refine W.condT zr ?_ | refine W.condF zr ?_
  refine W.condP rfl ?_ ?_ <;> intro hlt
  rotate_left
  · clear ih
    rw [List.drop_eq_nil_of_le (by omega)] at hc
    have hcR : c = R := by simpa [putsS] using hc
    subst hcR
    have hsub : subL (bytesA c) 0 c.length = some (bytesA c) := by
      show takeL c.length (bytesA c) = _
      rw [← bytesA_len]; exact takeL_all _
    repeat' first | refine W.text tblOk 0 rfl rfl rfl rfl rfl rfl rfl rfl hsub (textA_bytes _ hRb) ?_ | (with_reducible first | refine za ?_ | refine zb ?_ | refine zc ?_) | refine ym zr ?_ | refine yn 0 zr ?_ | refine yn 1 zr ?_ | refine yn 2 zr ?_ | refine yn 3 zr ?_ | (refine yo zr ?_; intro _) | (refine yp zr ?_; intro _) | refine yq zr ?_ | refine ys zr ?_ | refine yu zr ?_ | refine yv zr ?_ | (with_reducible first | refine zd ?_ | refine ze ?_ | refine zf ?_ | refine zg ?_ | refine zh ?_ | refine zi ?_ | refine zj ?_ | refine zk ?_ | refine zl ?_) | refine zz zr ?_ | refine zw (by decide +kernel) ?_ | refine zx zr zr zr ?_ | refine zy zr zr ?_ | (refine W.condP zr ?_ ?_ <;> intro _) | refine W.condT zr ?_ | refine W.condF zr ?_ | (refine W.cond zr ?_ ?_ <;> intro _) | (refine W.gs zr zr zr zr ?_ ?_ <;> intro _) | (refine W.gsB zr zr zr zr ?_ ?_ <;> intro _) | refine W.done zr ?_ | refine W.doneN zr ?_
    rfl
  have hlt : k < s.l.length := by omega
  obtain ⟨jn, o, cs, ha, hV, hpt⟩ := Sl.In.get hs hlt
  have hx1 := hx _ (List.getElem_mem hlt)
  rw [List.drop_eq_getElem_cons hlt, putsS_cons] at hc
  generalize s.l[k] = x at hpt hx1 hc
  obtain ⟨m, rfl⟩ := Int.eq_ofNat_of_zero_le hx1.1
  have hm : m < 18446744073709551616 := by omega
  repeat first | refine W.ia tblOk rfl rfl rfl rfl rfl rfl ha (by omega) (by omega) ?_ | refine W.ldV tblOk rfl rfl rfl hV hpt ?_ | (with_reducible first | refine za ?_ | refine zb ?_ | refine zc ?_) | refine ym zr ?_ | refine yn 0 zr ?_ | refine yn 1 zr ?_ | refine yn 2 zr ?_ | refine yn 3 zr ?_ | (refine yo zr ?_; intro _) | (refine yp zr ?_; intro _) | refine yq zr ?_ | refine ys zr ?_ | refine yu zr ?_ | refine yv zr ?_ | (with_reducible first | refine zd ?_ | refine ze ?_ | refine zf ?_ | refine zg ?_ | refine zh ?_ | refine zi ?_ | refine zj ?_ | refine zk ?_ | refine zl ?_) | refine zz zr ?_ | refine zw (by decide +kernel) ?_ | refine zx zr zr zr ?_ | refine zy zr zr ?_ | refine W.condT zr ?_ | refine W.condF zr ?_
  refine W.callR (Δ := [byB i c]) (R := []) rfl rfl rfl rfl (put_c h1 i c hm (by omega)) ?_ ?_
  · rintro v Δ' ⟨i', h, -⟩; cases h
  rintro v Δ' ⟨i', hv, hmem⟩
  injection hv with hv; subst hv
  refine W.keep _ hmem ?_
  repeat first | (with_reducible first | refine za ?_ | refine zb ?_ | refine zc ?_) | refine ym zr ?_ | refine yn 0 zr ?_ | refine yn 1 zr ?_ | refine yn 2 zr ?_ | refine yn 3 zr ?_ | (refine yo zr ?_; intro _) | (refine yp zr ?_; intro _) | refine yq zr ?_ | refine ys zr ?_ | refine yu zr ?_ | refine yv zr ?_ | (with_reducible first | refine zd ?_ | refine ze ?_ | refine zf ?_ | refine zg ?_ | refine zh ?_ | refine zi ?_ | refine zj ?_ | refine zk ?_ | refine zl ?_) | refine zz zr ?_ | refine zw (by decide +kernel) ?_ | refine zx zr zr zr ?_ | refine zy zr zr ?_ | refine W.condT zr ?_ | refine W.condF zr ?_
  rw [wN (by omega)]
  have hp10 := putS_len10 hm
  have h9 := ih ⟨(k + 1, c ++ putS m, i'), by show k + 1 ≤ _; omega, by show (c ++ putS m) ++ _ = R; rw [← hc, List.append_assoc]; rfl, by show (c ++ putS m).length ≤ _; rw [List.length_append]; omega⟩ (by show s.l.length - (k + 1) < s.l.length - k; omega)
  refine W.weak _ _ ?_ ?_ h9
  · exact ⟨rfl, rfl, rfl, rfl⟩
  · exact List.Sublist.refl _
theorem putText_c (hp : Plain g 36 = true) (h2 : Plain g 38 = true) (h1 : Plain g 61 = true) {b s : List Nat} (hb : ∀ c ∈ b, c < 256) (hl : b.length + s.length + 40 ≤ 140737488355328) :
    Cl Try.prog g V 36 [.str b, .str s] [] fun o _ => o = .ret (.str (b ++ putS s.length ++ s)) := by
  refine Cl.enter hp Try.func36 rfl ?_
  have e1 : IntKind.u64.wrap (s.length : Int) = (s.length : Int) := by rw [wrapU64]; omega
  have hc : ∀ V (i : K), (⟨some (i, 0), .ex 1, [(s.length : Int)]⟩ : Sl Int).In V false 1 (AV.int .u64) → Cl Try.prog g V 38 [.str b, .slice (some (i, 0)) 1 (.ex 1)] [] fun o _ => o = .ret (.str (b ++ putS s.length)) := fun V i h => by
    have h9 : Cl Try.prog g V 38 [.str b, .slice (some (i, 0)) 1 (.ex 1)] [] fun o _ => o = .ret (.str (b ++ putsS [(s.length : Int)])) := puts_c h2 h1 (b := b) h (fun x hx => by simp at hx; subst hx; omega) hb (by simp; omega)
    rw [show putsS [(s.length : Int)] = putS s.length by simp [putsS]] at h9
    exact h9
  have hlen := putS_len10 (n := s.length) (by omega)
  repeat first | (refine W.bsl tblOk rfl rfl rfl rfl (by decide) rfl rfl rfl ?_; intro i0) | (with_reducible first | refine za ?_ | refine zb ?_ | refine zc ?_) | refine ym zr ?_ | refine yn 0 zr ?_ | refine yn 1 zr ?_ | refine yn 2 zr ?_ | refine yn 3 zr ?_ | (refine yo zr ?_; intro _) | (refine yp zr ?_; intro _) | refine yq zr ?_ | refine ys zr ?_ | refine yu zr ?_ | refine yv zr ?_ | (with_reducible first | refine zd ?_ | refine ze ?_ | refine zf ?_ | refine zg ?_ | refine zh ?_ | refine zi ?_ | refine zj ?_ | refine zk ?_ | refine zl ?_) | refine zz zr ?_ | refine zw (by decide +kernel) ?_ | refine zx zr zr zr ?_ | refine zy zr zr ?_ | refine W.condT zr ?_ | refine W.condF zr ?_
  rw [e1]
  refine W.callLP rfl rfl rfl rfl (hc _ i0 (lent_in (c := .ex 1) (xs := [(s.length : Int)]))) ?_
  repeat' first | refine W.cat rfl rfl rfl rfl (by rw [List.length_append]; omega) ?_ | (with_reducible first | refine za ?_ | refine zb ?_ | refine zc ?_) | refine ym zr ?_ | refine yn 0 zr ?_ | refine yn 1 zr ?_ | refine yn 2 zr ?_ | refine yn 3 zr ?_ | (refine yo zr ?_; intro _) | (refine yp zr ?_; intro _) | refine yq zr ?_ | refine ys zr ?_ | refine yu zr ?_ | refine yv zr ?_ | (with_reducible first | refine zd ?_ | refine ze ?_ | refine zf ?_ | refine zg ?_ | refine zh ?_ | refine zi ?_ | refine zj ?_ | refine zk ?_ | refine zl ?_) | refine zz zr ?_ | refine zw (by decide +kernel) ?_ | refine zx zr zr zr ?_ | refine zy zr zr ?_ | (refine W.condP zr ?_ ?_ <;> intro _) | refine W.condT zr ?_ | refine W.condF zr ?_ | (refine W.cond zr ?_ ?_ <;> intro _) | (refine W.gs zr zr zr zr ?_ ?_ <;> intro _) | (refine W.gsB zr zr zr zr ?_ ?_ <;> intro _) | refine W.done zr ?_ | refine W.doneN zr ?_
  rfl
end Go.Proofs.Ythkkphkeonnnfaa.Abs
