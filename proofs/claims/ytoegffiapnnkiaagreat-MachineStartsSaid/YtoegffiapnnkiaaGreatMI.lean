/- Every table begins in its first state with its registers, or is refused with its error: in the abstract machine. No condition but those that each theorem names. -/
import Derived.Test.YtoegffiapnnkiaaGreatMU
import Derived.Test.YtoegffiapnnkiaaGreatMH
import Derived.Test.YtoegffiapnnkiaaGreatTT
namespace Go.Proofs.YtoegffiapnnkiaaGreat.Abs
open Go
set_option linter.unusedVariables false
set_option linter.unusedSimpArgs false
set_option maxRecDepth 100000
set_option maxHeartbeats 4000000
/-- A row of numbers that came out. -/
def orow (i : K) (l : List Int) : OR := match l with
  | [] => .nil
  | _ :: _ => .blk i false true (l.flatMap iC) l.length 0
theorem orow_v (i : K) (l : List Int) : (orow i l).v = (gS i l).v := by cases l <;> rfl
theorem orow_b (i : K) (l : List Int) : bL (orow i l) = gD iC 2 1 i l := by cases l <;> rfl
theorem iC_len (l : List Int) : (l.flatMap iC).length = l.length := by
  induction l with
  | nil => rfl
  | cons x l ih => rw [List.flatMap_cons, List.length_append, ih]; show 1 + l.length = l.length + 1; omega
theorem orow_ok (i : K) {l : List Int} (h : l.length ≤ 1000000) : (orow i l).Ok 1 := by
  cases l with
  | nil => trivial
  | cons x l => exact ⟨by rw [iC_len]; omega, h, rfl, fun _ => ⟨rfl, rfl⟩⟩
theorem gD_sub {i : K} {l : List Int} {D : Dm} (h : ∀ z ∈ gD iC 2 1 i l, z ∈ D) : (gD iC 2 1 i l).Sublist D := by
  cases l with
  | nil => exact List.nil_sublist _
  | cons x l => exact List.singleton_sublist.2 (h _ (.head _))
theorem bookG20 : BookG G20 := ⟨rfl, rfl, rfl, rfl, rfl, rfl, rfl, rfl, rfl, rfl, rfl, rfl, rfl⟩
attribute [local irreducible] W Cl Bd
variable {V : K → Option (List AV)} {t : Table}
theorem machineStarts_c (ht : t.Ok V) (hr : t.Room) : Cl Tryz.prog G20 V 3 [t.v] [] fun o _ => o = .ret (.bool true) := by
  refine Cl.enter rfl Tryz.func3 rfl ?_
  repeat first | refine W.callP rfl rfl rfl rfl awakeC ?_ | (refine W.callV rfl rfl rfl rfl (far20_c ht hr (regs := ⟨none, .ex 0, []⟩) 0) ?_; rintro _ ⟨b_, rfl, hb_⟩) | (with_reducible first | refine za ?_ | refine zb ?_ | refine zc ?_) | refine ym zr ?_ | refine yn 0 zr ?_ | refine yn 1 zr ?_ | refine yn 2 zr ?_ | refine yn 3 zr ?_ | (refine yo zr ?_; intro _) | (refine yp zr ?_; intro _) | refine yq zr ?_ | refine ys zr ?_ | refine yu zr ?_ | refine yv zr ?_ | (with_reducible first | refine zd ?_ | refine ze ?_ | refine zf ?_ | refine zg ?_ | refine zh ?_ | refine zi ?_ | refine zj ?_ | refine zk ?_ | refine zl ?_) | refine zz zr ?_ | refine zw (by decide +kernel) ?_ | refine zx zr zr zr ?_ | refine zy zr zr ?_ | refine W.condT zr ?_ | refine W.condF zr ?_
  cases b_ with
  | true =>
    repeat' first | (with_reducible first | refine za ?_ | refine zb ?_ | refine zc ?_) | refine ym zr ?_ | refine yn 0 zr ?_ | refine yn 1 zr ?_ | refine yn 2 zr ?_ | refine yn 3 zr ?_ | (refine yo zr ?_; intro _) | (refine yp zr ?_; intro _) | refine yq zr ?_ | refine ys zr ?_ | refine yu zr ?_ | refine yv zr ?_ | (with_reducible first | refine zd ?_ | refine ze ?_ | refine zf ?_ | refine zg ?_ | refine zh ?_ | refine zi ?_ | refine zj ?_ | refine zk ?_ | refine zl ?_) | refine zz zr ?_ | refine zw (by decide +kernel) ?_ | refine zx zr zr zr ?_ | refine zy zr zr ?_ | (refine W.condP zr ?_ ?_ <;> intro _) | refine W.condT zr ?_ | refine W.condF zr ?_ | (refine W.cond zr ?_ ?_ <;> intro _) | (refine W.gs zr zr zr zr ?_ ?_ <;> intro _) | (refine W.gsB zr zr zr zr ?_ ?_ <;> intro _) | refine W.done zr ?_ | refine W.doneN zr ?_
    rfl
  | false =>
  have hlen := (hb_ rfl).1
  repeat first | (refine W.callN rfl rfl rfl rfl (copyR_c rfl ht hr) ?_; intro c Δ' hcp) | (with_reducible first | refine za ?_ | refine zb ?_ | refine zc ?_) | refine ym zr ?_ | refine yn 0 zr ?_ | refine yn 1 zr ?_ | refine yn 2 zr ?_ | refine yn 3 zr ?_ | (refine yo zr ?_; intro _) | (refine yp zr ?_; intro _) | refine yq zr ?_ | refine ys zr ?_ | refine yu zr ?_ | refine yv zr ?_ | (with_reducible first | refine zd ?_ | refine ze ?_ | refine zf ?_ | refine zg ?_ | refine zh ?_ | refine zi ?_ | refine zj ?_ | refine zk ?_ | refine zl ?_) | refine zz zr ?_ | refine zw (by decide +kernel) ?_ | refine zx zr zr zr ?_ | refine zy zr zr ?_ | refine W.condT zr ?_ | refine W.condF zr ?_
  obtain ⟨hcp, ix, hix, hixm⟩ := hcp
  rename_i i1 i5
  have hLc : startL c = startL t := by unfold startL; rw [hcp.same.check, hcp.regs.1]
  have hL : (startL t).length ≤ 65536 := by
    unfold startL
    split
    · exact hlen
    · exact Nat.zero_le _
  have hS1 : ∀ D : Dm, (∀ z ∈ Δ', z ∈ D) → (names D).Nodup → Cl Tryz.prog G20 (withV V D) 15 [c.v] [] fun o Δ => ∃ i R, o = .ret (.tup [.agg [.int .i64 0, (gS i (startL t)).v], .int .i64 ((checkS t).getD 0)]) ∧ Δ = R ++ gD iC 2 1 i (startL t) := fun D hD hn => by
    have hx := CpT.ok (CpT.mono hcp hD) ht hn
    have h1 := checkC hx (hcp.room hr)
    have h2 := start_c (g := G20) rfl rfl hx (by rw [hcp.regs.1]; omega) h1
    rw [hLc, hcp.same.check] at h2
    exact h2
  have hS3 := startR_c (g := G20) (V := V) rfl rfl ht (by omega) (checkRC ht hr)
  generalize startL t = L at hS1 hS3 hL
  generalize (checkS t).getD 0 = e at hS1 hS3
  refine W.know fun hva hnd => ?_
  refine W.callL rfl rfl rfl rfl (hS1 _ (fun z hz => by simp [hz]) hnd) (by rintro v Δ' ⟨i, R, h1, -⟩; cases h1) ?_
  clear hva hnd
  rintro v_ Δ_ ⟨m1, R1, h1_, rfl⟩
  injection h1_ with h1_; subst h1_
  refine W.perm ((_ :: _ :: Δ') ++ (R1 ++ gD iC 2 1 m1 L)) List.perm_append_comm ?_
  repeat first | (with_reducible first | refine za ?_ | refine zb ?_ | refine zc ?_) | refine ym zr ?_ | refine yn 0 zr ?_ | refine yn 1 zr ?_ | refine yn 2 zr ?_ | refine yn 3 zr ?_ | (refine yo zr ?_; intro _) | (refine yp zr ?_; intro _) | refine yq zr ?_ | refine ys zr ?_ | refine yu zr ?_ | refine yv zr ?_ | (with_reducible first | refine zd ?_ | refine ze ?_ | refine zf ?_ | refine zg ?_ | refine zh ?_ | refine zi ?_ | refine zj ?_ | refine zk ?_ | refine zl ?_) | refine zz zr ?_ | refine zw (by decide +kernel) ?_ | refine zx zr zr zr ?_ | refine zy zr zr ?_ | refine W.condT zr ?_ | refine W.condF zr ?_
  refine W.know fun hva hnd => ?_
  refine W.callL rfl rfl rfl rfl (hS1 _ (fun z hz => by simp [hz]) hnd) (by rintro v Δ' ⟨i, R, h1, -⟩; cases h1) ?_
  clear hva hnd hS1
  rintro v_ Δ_ ⟨m2, R2, h1_, rfl⟩
  injection h1_ with h1_; subst h1_
  refine W.perm ((_ :: _ :: _ :: (Δ' ++ (R1 ++ gD iC 2 1 m1 L))) ++ (R2 ++ gD iC 2 1 m2 L)) List.perm_append_comm ?_
  repeat first | (with_reducible first | refine za ?_ | refine zb ?_ | refine zc ?_) | refine ym zr ?_ | refine yn 0 zr ?_ | refine yn 1 zr ?_ | refine yn 2 zr ?_ | refine yn 3 zr ?_ | (refine yo zr ?_; intro _) | (refine yp zr ?_; intro _) | refine yq zr ?_ | refine ys zr ?_ | refine yu zr ?_ | refine yv zr ?_ | (with_reducible first | refine zd ?_ | refine ze ?_ | refine zf ?_ | refine zg ?_ | refine zh ?_ | refine zi ?_ | refine zj ?_ | refine zk ?_ | refine zl ?_) | refine zz zr ?_ | refine zw (by decide +kernel) ?_ | refine zx zr zr zr ?_ | refine zy zr zr ?_ | refine W.condT zr ?_ | refine W.condF zr ?_
  refine W.callR (Δ := []) (R := _ :: _ :: _ :: _ :: ((Δ' ++ (R1 ++ gD iC 2 1 m1 L)) ++ (R2 ++ gD iC 2 1 m2 L))) rfl rfl rfl rfl hS3 (by rintro v Δ' ⟨i, R, h1, -⟩; cases h1) ?_
  clear hS3
  rintro v_ Δ_ ⟨m3, R3, h1_, rfl⟩
  injection h1_ with h1_; subst h1_
  refine W.perm ((_ :: _ :: _ :: _ :: ((Δ' ++ (R1 ++ gD iC 2 1 m1 L)) ++ (R2 ++ gD iC 2 1 m2 L))) ++ (R3 ++ gD iC 2 1 m3 L)) List.perm_append_comm ?_
  repeat first | (with_reducible first | refine za ?_ | refine zb ?_ | refine zc ?_) | refine ym zr ?_ | refine yn 0 zr ?_ | refine yn 1 zr ?_ | refine yn 2 zr ?_ | refine yn 3 zr ?_ | (refine yo zr ?_; intro _) | (refine yp zr ?_; intro _) | refine yq zr ?_ | refine ys zr ?_ | refine yu zr ?_ | refine yv zr ?_ | (with_reducible first | refine zd ?_ | refine ze ?_ | refine zf ?_ | refine zg ?_ | refine zh ?_ | refine zi ?_ | refine zj ?_ | refine zk ?_ | refine zl ?_) | refine zz zr ?_ | refine zw (by decide +kernel) ?_ | refine zx zr zr zr ?_ | refine zy zr zr ?_ | refine W.condT zr ?_ | refine W.condF zr ?_
  refine W.know fun hva hnd => ?_
  have in1 := (gS_in (enc := iC) (el := 2) (sz := 1) (i := m1) (l := L) (fun z hz => by simp [hz])).in (V := V) (one := AV.int .i64) (ag := false) hnd (fun _ => rfl) (fun _ => rfl)
  have in2 := (gS_in (enc := iC) (el := 2) (sz := 1) (i := m2) (l := L) (fun z hz => by simp [hz])).in (V := V) (one := AV.int .i64) (ag := false) hnd (fun _ => rfl) (fun _ => rfl)
  have in3 := (gS_in (enc := iC) (el := 2) (sz := 1) (i := m3) (l := L) (fun z hz => by simp [hz])).in (V := V) (one := AV.int .i64) (ag := false) hnd (fun _ => rfl) (fun _ => rfl)
  have e13 : (gS m1 L).l = (gS m3 L).l := by rw [gS_l, gS_l]
  have e23 : (gS m2 L).l = (gS m3 L).l := by rw [gS_l, gS_l]
  repeat first | refine W.callLP rfl rfl rfl rfl (sameMode_c rfl in1 in3 e13 (by rw [gS_l]; omega) 0) ?_ | refine W.callLP rfl rfl rfl rfl (sameMode_c rfl in2 in3 e23 (by rw [gS_l]; omega) 0) ?_ | (with_reducible first | refine za ?_ | refine zb ?_ | refine zc ?_) | refine ym zr ?_ | refine yn 0 zr ?_ | refine yn 1 zr ?_ | refine yn 2 zr ?_ | refine yn 3 zr ?_ | (refine yo zr ?_; intro _) | (refine yp zr ?_; intro _) | refine yq zr ?_ | refine ys zr ?_ | refine yu zr ?_ | refine yv zr ?_ | (with_reducible first | refine zd ?_ | refine ze ?_ | refine zf ?_ | refine zg ?_ | refine zh ?_ | refine zi ?_ | refine zj ?_ | refine zk ?_ | refine zl ?_) | refine zz zr ?_ | refine zw (by decide +kernel) ?_ | refine zx zr zr zr ?_ | refine zy zr zr ?_ | refine W.condT zr ?_ | refine W.condF zr ?_
  clear in1 in2 in3 hva hnd
  rename_i i6 i8 i10 ib
  refine W.dropE ((ib, _) :: (i8, _) :: (i6, _) :: (i5, _) :: ((gD iC 2 1 ix t.regs.l ++ gD iC 2 1 m1 L) ++ gD iC 2 1 m2 L)) (.cons_cons _ (.cons _ (.cons_cons _ (.cons_cons _ (.cons_cons _ (.cons _ ((((gD_sub hixm).append (List.sublist_append_right R1 _)).append (List.sublist_append_right R2 _)).trans (List.sublist_append_left _ _)))))))) ?_
  have l1 := longs_c (V := V) bookG20 ib nilV .z (.view []) [] 0 (fun h => absurd h (by simp)) (by simp) (gS m1 L).a (gS m1 L).l.length (gS m1 L).c
  generalize hX : (gD iC 2 1 ix t.regs.l ++ gD iC 2 1 m1 L) ++ gD iC 2 1 m2 L = X
  refine W.callR (Δ := [_]) (R := _ :: _ :: _ :: X) rfl rfl rfl rfl l1 (by rintro v Δ' ⟨h1, -⟩; cases h1) ?_
  rintro v_ Δ_ ⟨h1_, jl1, bk1, q1, rfl, hg1, hq1⟩
  injection h1_ with h1_; subst h1_
  repeat first | (with_reducible first | refine za ?_ | refine zb ?_ | refine zc ?_) | refine ym zr ?_ | refine yn 0 zr ?_ | refine yn 1 zr ?_ | refine yn 2 zr ?_ | refine yn 3 zr ?_ | (refine yo zr ?_; intro _) | (refine yp zr ?_; intro _) | refine yq zr ?_ | refine ys zr ?_ | refine yu zr ?_ | refine yv zr ?_ | (with_reducible first | refine zd ?_ | refine ze ?_ | refine zf ?_ | refine zg ?_ | refine zh ?_ | refine zi ?_ | refine zj ?_ | refine zk ?_ | refine zl ?_) | refine zz zr ?_ | refine zw (by decide +kernel) ?_ | refine zx zr zr zr ?_ | refine zy zr zr ?_ | refine W.condT zr ?_ | refine W.condF zr ?_
  have l2 := longs_c (V := V) bookG20 ib nilV jl1 bk1 ([] ++ [.slice (gS m1 L).a (gS m1 L).l.length (gS m1 L).c]) q1 (fun _ => ⟨hg1, by simpa using hq1⟩) (by simp) (gS m2 L).a (gS m2 L).l.length (gS m2 L).c
  refine W.callR (Δ := [_, _]) (R := _ :: _ :: _ :: X) rfl rfl rfl rfl l2 (by rintro v Δ' ⟨h1, -⟩; cases h1) ?_
  rintro v_ Δ_ ⟨h1_, jl2, bk2, q2, rfl, hg2, hq2⟩
  injection h1_ with h1_; subst h1_
  repeat first | refine yn 4 zr ?_ | (with_reducible first | refine za ?_ | refine zb ?_ | refine zc ?_) | refine ym zr ?_ | refine yn 0 zr ?_ | refine yn 1 zr ?_ | refine yn 2 zr ?_ | refine yn 3 zr ?_ | (refine yo zr ?_; intro _) | (refine yp zr ?_; intro _) | refine yq zr ?_ | refine ys zr ?_ | refine yu zr ?_ | refine yv zr ?_ | (with_reducible first | refine zd ?_ | refine ze ?_ | refine zf ?_ | refine zg ?_ | refine zh ?_ | refine zi ?_ | refine zj ?_ | refine zk ?_ | refine zl ?_) | refine zz zr ?_ | refine zw (by decide +kernel) ?_ | refine zx zr zr zr ?_ | refine zy zr zr ?_ | refine W.condT zr ?_ | refine W.condF zr ?_
  rw [hix]
  have l3 := longs_c (V := V) bookG20 ib nilV jl2 bk2 (([] ++ [.slice (gS m1 L).a (gS m1 L).l.length (gS m1 L).c]) ++ [.slice (gS m2 L).a (gS m2 L).l.length (gS m2 L).c]) q2 (fun _ => ⟨hg2, by simpa using hq2⟩) (by simp) (gS ix t.regs.l).a (gS ix t.regs.l).l.length (gS ix t.regs.l).c
  refine W.callR (Δ := [_, _]) (R := _ :: _ :: _ :: X) rfl rfl rfl rfl l3 (by rintro v Δ' ⟨h1, -⟩; cases h1) ?_
  rintro v_ Δ_ ⟨h1_, jl3, bk3, q3, rfl, hg3, hq3⟩
  injection h1_ with h1_; subst h1_
  repeat first | (with_reducible first | refine za ?_ | refine zb ?_ | refine zc ?_) | refine ym zr ?_ | refine yn 0 zr ?_ | refine yn 1 zr ?_ | refine yn 2 zr ?_ | refine yn 3 zr ?_ | (refine yo zr ?_; intro _) | (refine yp zr ?_; intro _) | refine yq zr ?_ | refine ys zr ?_ | refine yu zr ?_ | refine yv zr ?_ | (with_reducible first | refine zd ?_ | refine ze ?_ | refine zf ?_ | refine zg ?_ | refine zh ?_ | refine zi ?_ | refine zj ?_ | refine zk ?_ | refine zl ?_) | refine zz zr ?_ | refine zw (by decide +kernel) ?_ | refine zx zr zr zr ?_ | refine zy zr zr ?_ | refine W.condT zr ?_ | refine W.condF zr ?_
  refine W.dropE (bookB ib (hdL jl3 3) nilV :: (jl3, bk3) :: X) (.cons_cons _ (.cons_cons _ (.cons _ (.cons _ (.cons _ (List.Sublist.refl _)))))) ?_
  have hrows : (([] ++ [AV.slice (gS m1 L).a (gS m1 L).l.length (gS m1 L).c]) ++ [.slice (gS m2 L).a (gS m2 L).l.length (gS m2 L).c]) ++ [.slice (gS ix t.regs.l).a (gS ix t.regs.l).l.length (gS ix t.regs.l).c] = [orow m1 L, orow m2 L, orow ix t.regs.l].map OR.v := by
    simp only [List.map_cons, List.map_nil, orow_v]
    rfl
  have ho := bookOwn_c (V := V) bookG20 ib [orow m1 L, orow m2 L, orow ix t.regs.l] jl3 bk3 (by rw [hg3.rdl, hrows]) (fun r hr => by
    simp only [List.mem_cons, List.not_mem_nil, or_false] at hr
    rcases hr with rfl | rfl | rfl
    · exact orow_ok _ (by omega)
    · exact orow_ok _ (by omega)
    · exact orow_ok _ (by omega)) (by show 3 ≤ 1000000; decide)
  have hperm : (bookB ib (hdL jl3 3) nilV :: (jl3, bk3) :: X).Perm ((bookB ib (hdL jl3 [orow m1 L, orow m2 L, orow ix t.regs.l].length) nilV :: (blL jl3 bk3 [orow m1 L, orow m2 L, orow ix t.regs.l].length ++ [orow m1 L, orow m2 L, orow ix t.regs.l].flatMap bL)) ++ []) := by
    rw [List.append_nil]
    refine .cons _ (.cons _ ?_)
    rw [← hX]
    simp only [List.flatMap_cons, List.flatMap_nil, orow_b, List.append_nil]
    rw [List.append_assoc, ← List.append_assoc (gD iC 2 1 m1 L)]
    exact List.perm_append_comm
  refine W.perm _ hperm.symm ?_
  refine W.callR (R := []) rfl rfl rfl rfl ho (by rintro v Δ' h1; cases h1) ?_
  rintro v_ Δ_ h1_
  injection h1_ with h1_; subst h1_
  repeat' first | (refine W.gs rfl rfl rfl rfl ?_ (fun h => absurd rfl h); intro _) | (with_reducible first | refine za ?_ | refine zb ?_ | refine zc ?_) | refine ym zr ?_ | refine yn 0 zr ?_ | refine yn 1 zr ?_ | refine yn 2 zr ?_ | refine yn 3 zr ?_ | (refine yo zr ?_; intro _) | (refine yp zr ?_; intro _) | refine yq zr ?_ | refine ys zr ?_ | refine yu zr ?_ | refine yv zr ?_ | (with_reducible first | refine zd ?_ | refine ze ?_ | refine zf ?_ | refine zg ?_ | refine zh ?_ | refine zi ?_ | refine zj ?_ | refine zk ?_ | refine zl ?_) | refine zz zr ?_ | refine zw (by decide +kernel) ?_ | refine zx zr zr zr ?_ | refine zy zr zr ?_ | (refine W.condP zr ?_ ?_ <;> intro _) | refine W.condT zr ?_ | refine W.condF zr ?_ | (refine W.cond zr ?_ ?_ <;> intro _) | (refine W.gs zr zr zr zr ?_ ?_ <;> intro _) | (refine W.gsB zr zr zr zr ?_ ?_ <;> intro _) | refine W.done zr ?_ | refine W.doneN zr ?_
  rfl
end Go.Proofs.YtoegffiapnnkiaaGreat.Abs
