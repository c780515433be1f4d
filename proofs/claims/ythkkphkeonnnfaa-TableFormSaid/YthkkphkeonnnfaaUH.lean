/- Whatever bytes are taken are the bytes of the table that they are read as, which may be: in the abstract machine. No condition but those that each theorem names. -/
import Derived.Test.YthkkphkeonnnfaaUF
namespace Go.Proofs.Ythkkphkeonnnfaa.Abs
open Go
set_option linter.unusedVariables false
set_option linter.unusedSimpArgs false
set_option maxRecDepth 100000
set_option maxHeartbeats 4000000
theorem decodeS_some {b : List Nat} (hb : ∀ c ∈ b, c < 256) {y : Table} (h : decodeS b = some y) : TabRd y ∧ (∀ c ∈ y.name, c < 256) ∧ checkS y = none ∧ (encS y).length ≤ 65536 ∧ b = frameS (encS y) := by
  unfold decodeS at h
  split at h
  · rename_i s hu
    split at h
    · rename_i y' hy
      split at h
      · rename_i hc
        injection h with h; subst h
        obtain ⟨h1, h2⟩ := (unframeP_iff hb s []).1 hu
        have hs : Bytes s := fun c hc => hb c ((unframeP_text hu).2 c hc)
        obtain ⟨h3, h4⟩ := (tableP_iff hs _).1 hy
        rw [List.append_nil] at h2
        refine ⟨h3, fun c hc => hs c (by rw [h4]; unfold encS; simp [hc]), hc, by rw [← h4]; exact h1, by rw [← h4]; exact h2⟩
      · cases h
    · cases h
  · cases h
attribute [local irreducible] W Cl Bd
variable {V : K → Option (List AV)}
theorem tableForm_c {b : List Nat} (hb : ∀ c ∈ b, c < 256) (hl : b.length ≤ 140737488355328) : Cl Try.prog G19 V 8 [.str b] [] fun o _ => o = .ret (.bool true) := by
  have hd := decodeC V hb (by omega)
  refine Cl.enter rfl Try.func8 rfl ?_
  cases hy : decodeS b with
  | none =>
    simp only [hy] at hd
    unfold noT at hd
    repeat' first | refine W.callP rfl rfl rfl rfl awakeC ?_ | refine W.callP rfl rfl rfl rfl hd ?_ | (with_reducible first | refine za ?_ | refine zb ?_ | refine zc ?_) | refine ym zr ?_ | refine yn 0 zr ?_ | refine yn 1 zr ?_ | refine yn 2 zr ?_ | refine yn 3 zr ?_ | (refine yo zr ?_; intro _) | (refine yp zr ?_; intro _) | refine yq zr ?_ | refine ys zr ?_ | refine yu zr ?_ | refine yv zr ?_ | (with_reducible first | refine zd ?_ | refine ze ?_ | refine zf ?_ | refine zg ?_ | refine zh ?_ | refine zi ?_ | refine zj ?_ | refine zk ?_ | refine zl ?_) | refine zz zr ?_ | refine zw (by decide +kernel) ?_ | refine zx zr zr zr ?_ | refine zy zr zr ?_ | (refine W.condP zr ?_ ?_ <;> intro _) | refine W.condT zr ?_ | refine W.condF zr ?_ | (refine W.cond zr ?_ ?_ <;> intro _) | (refine W.gs zr zr zr zr ?_ ?_ <;> intro _) | (refine W.gsB zr zr zr zr ?_ ?_ <;> intro _) | refine W.done zr ?_ | refine W.doneN zr ?_
    all_goals first
      | rfl
      | exact (‹¬ ¬ ((194 : Int) = 0)› (by decide)).elim
  | some y =>
    simp only [hy] at hd
    obtain ⟨hrd, hnb, hck, hel, he⟩ := decodeS_some hb hy
    repeat' first | refine W.callP rfl rfl rfl rfl awakeC ?_ | (refine W.callN rfl rfl rfl rfl hd ?_; intro x Δ' hcp) | (with_reducible first | refine za ?_ | refine zb ?_ | refine zc ?_) | refine ym zr ?_ | refine yn 0 zr ?_ | refine yn 1 zr ?_ | refine yn 2 zr ?_ | refine yn 3 zr ?_ | (refine yo zr ?_; intro _) | (refine yp zr ?_; intro _) | refine yq zr ?_ | refine ys zr ?_ | refine yu zr ?_ | refine yv zr ?_ | (with_reducible first | refine zd ?_ | refine ze ?_ | refine zf ?_ | refine zg ?_ | refine zh ?_ | refine zi ?_ | refine zj ?_ | refine zk ?_ | refine zl ?_) | refine zz zr ?_ | refine zw (by decide +kernel) ?_ | refine zx zr zr zr ?_ | refine zy zr zr ?_ | (refine W.condP zr ?_ ?_ <;> intro _) | refine W.condT zr ?_ | refine W.condF zr ?_ | (refine W.cond zr ?_ ?_ <;> intro _) | (refine W.gs zr zr zr zr ?_ ?_ <;> intro _) | (refine W.gsB zr zr zr zr ?_ ?_ <;> intro _) | refine W.done zr ?_ | refine W.doneN zr ?_
    all_goals first
      | rfl
      | exact absurd rfl ‹¬ ((0 : Int) = 0)›
      | skip
    refine W.know fun hva hnd => ?_
    have hx := (hcp.mono fun z hz => List.mem_cons_of_mem _ (by simp [hz])).okN (V := V) hrd.num hnd
    have hr := hcp.same.room (hrd.num.room hrd.name hnb)
    have h1 := checkRC hx hr
    have h2 := encodeC hx hr
    rw [hcp.same.check, hck] at h1 h2
    have hev : encodeV x none = .tup [.str b, .int .i64 0] := by
      unfold encodeV frameV
      simp only
      rw [hcp.same.enc, if_neg (by omega), ← he]
    rw [hev] at h2
    have h1 : Cl Try.prog G19 (withV V _) 15 [x.v] [] fun o _ => o = .ret (.int .i64 0) := h1
    have hes := eqN_self b
    repeat' first | refine W.callLP rfl rfl rfl rfl h1 ?_ | refine W.callLP rfl rfl rfl rfl h2 ?_ | (with_reducible first | refine za ?_ | refine zb ?_ | refine zc ?_) | refine ym zr ?_ | refine yn 0 zr ?_ | refine yn 1 zr ?_ | refine yn 2 zr ?_ | refine yn 3 zr ?_ | (refine yo zr ?_; intro _) | (refine yp zr ?_; intro _) | refine yq zr ?_ | refine ys zr ?_ | refine yu zr ?_ | refine yv zr ?_ | (with_reducible first | refine zd ?_ | refine ze ?_ | refine zf ?_ | refine zg ?_ | refine zh ?_ | refine zi ?_ | refine zj ?_ | refine zk ?_ | refine zl ?_) | refine zz zr ?_ | refine zw (by decide +kernel) ?_ | refine zx zr zr zr ?_ | refine zy zr zr ?_ | (refine W.condP zr ?_ ?_ <;> intro _) | refine W.condT zr ?_ | refine W.condF zr ?_ | (refine W.cond zr ?_ ?_ <;> intro _) | (refine W.gs zr zr zr zr ?_ ?_ <;> intro _) | (refine W.gsB zr zr zr zr ?_ ?_ <;> intro _) | refine W.done zr ?_ | refine W.doneN zr ?_
    show RO.ret (AV.bool (eqN b b)) = _
    rw [hes]
end Go.Proofs.Ythkkphkeonnnfaa.Abs
