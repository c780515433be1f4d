/- Every table has the bytes that the document says, or is refused with its error: in the abstract machine. No condition but those that each theorem names. -/
import Derived.Test.YthkkphkeonnnfaaUA
import Derived.Test.YthkkphkeonnnfaaTY
import Derived.Test.YthkkphkeonnnfaaTT
import Derived.Test.YthkkphkeonnnfaaVH
namespace Go.Proofs.Ythkkphkeonnnfaa.Abs
open Go
set_option linter.unusedVariables false
set_option linter.unusedSimpArgs false
set_option maxRecDepth 100000
set_option maxHeartbeats 4000000
theorem encS_er (t : Table) : encS t.er = encS t := by
  have e : (t.states.l.map erG).flatMap (fun s => stS s.l) = t.states.l.flatMap fun s => stS s.l := by
    rw [List.flatMap_map]
    congr 1
    funext s
    show stS (s.l.map Guard.er) = stS s.l
    unfold stS
    rw [List.length_map, List.flatMap_map]
    rfl
  have e2 : t.er.states.l.length = t.states.l.length := List.length_map ..
  show putS _ ++ (_ ++ (_ ++ (_ ++ (_ ++ (_ ++ (_ ++ (nS t.er.states.l.length ++ (t.states.l.map erG).flatMap fun s => stS s.l))))))) = _
  rw [e, e2]; rfl
theorem SameT.enc {x y : Table} (h : SameT x y) : encS x = encS y := by rw [← encS_er x, ← encS_er y, h.er]
theorem encodeV_is (t : Table) (e : Option Int) : ∃ s c, encodeV t e = .tup [.str s, .int .i64 c] := by
  unfold encodeV frameV
  cases e with
  | some c => exact ⟨_, _, rfl⟩
  | none => simp only; split <;> exact ⟨_, _, rfl⟩
attribute [local irreducible] W Cl Bd
variable {V : K → Option (List AV)} {t : Table}
theorem encodeRC (ht : t.Ok V) (hr : t.Room) : Cl Try.prog G19 V 21 [t.v] [] fun o _ => o = .ret (encodeV t (checkS t)) := encodeR_c ⟨rfl, rfl, rfl, rfl, rfl, rfl, rfl, rfl, rfl, rfl, rfl, rfl⟩ ht hr (checkRC ht hr)
theorem encodeC (ht : t.Ok V) (hr : t.Room) : Cl Try.prog G19 V 20 [t.v] [] fun o _ => o = .ret (encodeV t (checkS t)) := encode_c ⟨rfl, rfl, rfl, rfl, rfl, rfl, rfl, rfl, rfl, rfl⟩ ht hr (checkC ht hr)
theorem tableEncodes_c (ht : t.Ok V) (hr : t.Room) : Cl Try.prog G19 V 6 [t.v] [] fun o _ => o = .ret (.bool true) := by
  have h2 := encodeRC ht hr
  refine Cl.enter rfl Try.func6 rfl ?_
  repeat' first | refine W.callP rfl rfl rfl rfl awakeC ?_ | (refine W.callV rfl rfl rfl rfl (farC ht) ?_; rintro _ ⟨b_, rfl⟩) | (refine W.callN rfl rfl rfl rfl (copy_c rfl ht hr) ?_; intro c Δ' hcp) | (with_reducible first | refine za ?_ | refine zb ?_ | refine zc ?_) | refine ym zr ?_ | refine yn 0 zr ?_ | refine yn 1 zr ?_ | refine yn 2 zr ?_ | refine yn 3 zr ?_ | (refine yo zr ?_; intro _) | (refine yp zr ?_; intro _) | refine yq zr ?_ | refine ys zr ?_ | refine yu zr ?_ | refine yv zr ?_ | (with_reducible first | refine zd ?_ | refine ze ?_ | refine zf ?_ | refine zg ?_ | refine zh ?_ | refine zi ?_ | refine zj ?_ | refine zk ?_ | refine zl ?_) | refine zz zr ?_ | refine zw (by decide +kernel) ?_ | refine zx zr zr zr ?_ | refine zy zr zr ?_ | (refine W.condP zr ?_ ?_ <;> intro _) | refine W.condT zr ?_ | refine W.condF zr ?_ | (refine W.cond zr ?_ ?_ <;> intro _) | (refine W.gs zr zr zr zr ?_ ?_ <;> intro _) | (refine W.gsB zr zr zr zr ?_ ?_ <;> intro _) | refine W.done zr ?_ | refine W.doneN zr ?_
  · rfl
  refine W.know fun hva hnd => ?_
  have hx := fun h => CpT.ok (CpT.mono hcp h) ht hnd
  have hx := hx fun z hz => by simp [hz]
  have ht' := Table.okM (withV_le hva) ht
  have h1 := encodeC hx (hcp.room hr)
  have he : encodeV c (checkS c) = encodeV t (checkS t) := by
    rw [hcp.same.check]
    unfold encodeV
    rw [hcp.same.enc]
  rw [he] at h1
  have h3 := sameT_c (g := G19) rfl rfl hx ht' hcp.same
  obtain ⟨s, e, hv⟩ := encodeV_is t (checkS t)
  rw [hv] at h1 h2
  repeat' first | refine W.callLP rfl rfl rfl rfl h1 ?_ | refine W.callLP rfl rfl rfl rfl h3 ?_ | refine W.callP rfl rfl rfl rfl h2 ?_ | (with_reducible first | refine za ?_ | refine zb ?_ | refine zc ?_) | refine ym zr ?_ | refine yn 0 zr ?_ | refine yn 1 zr ?_ | refine yn 2 zr ?_ | refine yn 3 zr ?_ | (refine yo zr ?_; intro _) | (refine yp zr ?_; intro _) | refine yq zr ?_ | refine ys zr ?_ | refine yu zr ?_ | refine yv zr ?_ | (with_reducible first | refine zd ?_ | refine ze ?_ | refine zf ?_ | refine zg ?_ | refine zh ?_ | refine zi ?_ | refine zj ?_ | refine zk ?_ | refine zl ?_) | refine zz zr ?_ | refine zw (by decide +kernel) ?_ | refine zx zr zr zr ?_ | refine zy zr zr ?_ | (refine W.condP zr ?_ ?_ <;> intro _) | refine W.condT zr ?_ | refine W.condF zr ?_ | (refine W.cond zr ?_ ?_ <;> intro _) | (refine W.gs zr zr zr zr ?_ ?_ <;> intro _) | (refine W.gsB zr zr zr zr ?_ ?_ <;> intro _) | refine W.done zr ?_ | refine W.doneN zr ?_
  all_goals have hes := eqN_self s
  all_goals first
    | rfl
    | (exfalso; simp_all; done)
end Go.Proofs.Ythkkphkeonnnfaa.Abs
