/- The reader's guards. No condition but those that each theorem names. -/
import Derived.Test.YthkkphkeonnnfaaVR
namespace Go.Proofs.Ythkkphkeonnnfaa.Abs
open Go
set_option linter.unusedVariables false
set_option linter.unusedSimpArgs false
set_option maxRecDepth 100000
set_option maxHeartbeats 4000000
attribute [local irreducible] W Cl Bd
variable {g : Cg} {V : K → Option (List AV)}
theorem spB_get (r : K) {ps : List Nat} {j : Nat} (h : j < ps.length) : getL (ps.map fun p => AV.ptr (some (r, p))) (0 + (j : Int).toNat * 1) = some (.ptr (some (r, ps[j]))) := by
  rw [getL_eq, Nat.zero_add, Nat.mul_one, Int.toNat_natCast, List.getElem?_map, List.getElem?_eq_getElem h]; rfl
theorem spB_one {i r : K} {ps : List Nat} {j : Nat} (h : j < ps.length) : spA i ps = some (i, 0) ∧ spB i r ps = [(i, .cells (ps.map fun p => .ptr (some (r, p))) 71 1 true)] := by
  cases ps with
  | nil => simp at h
  | cons p0 ps => exact ⟨rfl, rfl⟩
theorem offs_in (k o : Int) : ∀ p ∈ offs k o, p = 3 ∨ p = 5 ∨ p = 7 ∨ p = 9 := fun p hp => by
  unfold offs at hp
  (repeat' split at hp) <;> simp at hp <;> omega
theorem offs_len (k o : Int) : (offs k o).length ≤ 3 := by
  unfold offs
  (repeat' split) <;> simp
/-- The readers' functions, all. -/
structure ReadH (g : Cg) : Prop where
  G : ReadG g
  span : Plain g 86 = true
  guard : Plain g 70 = true
  signed : Plain g 68 = true
  reads : Plain g 16 = true
  spans : Plain g 30 = true
theorem rguard_c (G : ReadH g) (hC : ∀ k, CallS Try.prog (callA Try.prog g (exec Try.prog g k))) {b : List Nat} (hb : ∀ c ∈ b, c < 256) (hl : b.length ≤ 65536) {nx : Int} {l : List Nat} (hA : At b nx l) (k : K) {t : Table} (ht : t.Ok V) :
    Cl Try.prog g V 70 [.ptr (some (k, 0)), t.v] [rdB k b (b.length - l.length) nx] fun o Δ => match guardP t.code.l nx l with
      | some (y, nx9, r9) => ∃ (x : Guard) (D : Dm), o = .ret x.v ∧ CpG D x y ∧ Δ = rdB k b (b.length - r9.length) nx9 :: D
      | none => o = .pan (pn 194) := by
  refine Cl.enter G.guard Try.func70 rfl ?_
  have hs := rspan_c (V := V) G.G G.span hb (by omega) hA.e k nx (hA.le hl)
  generalize hg : guardP t.code.l nx l = H
  unfold guardP spanP at hg
  cases hr : numP 4096 l with
  | none =>
    simp only [hr] at hs hg
    subst hg
    have hs := hs.mono fun _ _ h => h.1
    repeat first | (with_reducible first | refine za ?_ | refine zb ?_ | refine zc ?_) | refine ym zr ?_ | refine yn 0 zr ?_ | refine yn 1 zr ?_ | refine yn 2 zr ?_ | refine yn 3 zr ?_ | (refine yo zr ?_; intro _) | (refine yp zr ?_; intro _) | refine yq zr ?_ | refine ys zr ?_ | refine yu zr ?_ | refine yv zr ?_ | (with_reducible first | refine zd ?_ | refine ze ?_ | refine zf ?_ | refine zg ?_ | refine zh ?_ | refine zi ?_ | refine zj ?_ | refine zk ?_ | refine zl ?_) | refine zz zr ?_ | refine zw (by decide +kernel) ?_ | refine zx zr zr zr ?_ | refine zy zr zr ?_ | refine W.condT zr ?_ | refine W.condF zr ?_
    refine W.fr2 ?_
    exact W.callPan rfl rfl rfl rfl hs (by decide +kernel) fun _ => rfl
  | some q =>
  obtain ⟨n1, r1⟩ := q
  simp only [hr] at hs hg
  have hA1 := hA.sp hr
  have h1le := hA1.le hl
  have h0le := hA.le hl
  have hn := num_c (V := V) G.G hb (by omega) hA1.e k (nx + (n1 : Int)) 8 (by decide)
  rw [show ((8 : Nat) : Int) = 8 from rfl] at hn
  repeat first | (with_reducible first | refine za ?_ | refine zb ?_ | refine zc ?_) | refine ym zr ?_ | refine yn 0 zr ?_ | refine yn 1 zr ?_ | refine yn 2 zr ?_ | refine yn 3 zr ?_ | (refine yo zr ?_; intro _) | (refine yp zr ?_; intro _) | refine yq zr ?_ | refine ys zr ?_ | refine yu zr ?_ | refine yv zr ?_ | (with_reducible first | refine zd ?_ | refine ze ?_ | refine zf ?_ | refine zg ?_ | refine zh ?_ | refine zi ?_ | refine zj ?_ | refine zk ?_ | refine zl ?_) | refine zz zr ?_ | refine zw (by decide +kernel) ?_ | refine zx zr zr zr ?_ | refine zy zr zr ?_ | refine W.condT zr ?_ | refine W.condF zr ?_
  refine W.fr2 ?_
  refine W.callR (Δ := [_]) (R := [_, _]) rfl rfl rfl rfl hs ?_ ?_
  · rintro v Δ' ⟨h1, -⟩
    cases h1
  rintro v Δ' ⟨h1, h2⟩
  injection h1 with h1; subst h1
  refine W.keep _ h2 ?_
  have hrd := reads_c (V := V) G.reads ht (f := nx) (z := nx + (n1 : Int)) (by omega) (by omega)
  rw [show readsS (codeAt t) (min (nx + (n1 : Int)) t.code.l.length - max nx 0).toNat (max nx 0) 0 0 = rdsL t.code.l nx (nx + (n1 : Int)) from rfl] at hrd
  generalize rdsL t.code.l nx (nx + (n1 : Int)) = M at hrd hg
  repeat first | refine W.callP rfl rfl rfl rfl hrd ?_ | (with_reducible first | refine za ?_ | refine zb ?_ | refine zc ?_) | refine ym zr ?_ | refine yn 0 zr ?_ | refine yn 1 zr ?_ | refine yn 2 zr ?_ | refine yn 3 zr ?_ | (refine yo zr ?_; intro _) | (refine yp zr ?_; intro _) | refine yq zr ?_ | refine ys zr ?_ | refine yu zr ?_ | refine yv zr ?_ | (with_reducible first | refine zd ?_ | refine ze ?_ | refine zf ?_ | refine zg ?_ | refine zh ?_ | refine zi ?_ | refine zj ?_ | refine zk ?_ | refine zl ?_) | refine zz zr ?_ | refine zw (by decide +kernel) ?_ | refine zx zr zr zr ?_ | refine zy zr zr ?_ | refine W.condT zr ?_ | refine W.condF zr ?_
  refine W.fr1 ?_
  cases hr2 : numP 8 r1 with
  | none =>
    simp only [hr2] at hn hg
    subst hg
    exact W.callPan rfl rfl rfl rfl (hn.mono fun _ _ h => h.1) (by decide +kernel) fun _ => rfl
  | some q =>
  obtain ⟨n2, r2⟩ := q
  simp only [hr2] at hn hg
  have hA2 := hA1.num hr2
  have hn2 := numP_len hr2
  refine W.callB rfl rfl rfl rfl hn ?_
  generalize hR : listP rowP n2 (nx + (n1 : Int)) r2 = R at hg
  repeat first | (with_reducible first | refine za ?_ | refine zb ?_ | refine zc ?_) | refine ym zr ?_ | refine yn 0 zr ?_ | refine yn 1 zr ?_ | refine yn 2 zr ?_ | refine yn 3 zr ?_ | (refine yo zr ?_; intro _) | (refine yp zr ?_; intro _) | refine yq zr ?_ | refine ys zr ?_ | refine yu zr ?_ | refine yv zr ?_ | (with_reducible first | refine zd ?_ | refine ze ?_ | refine zf ?_ | refine zg ?_ | refine zh ?_ | refine zi ?_ | refine zj ?_ | refine zk ?_ | refine zl ?_) | refine zz zr ?_ | refine zw (by decide +kernel) ?_ | refine zx zr zr zr ?_ | refine zy zr zr ?_ | refine W.condT zr ?_ | refine W.condF zr ?_
  refine W.loopR (α := { q : (List Row × K) × Int × List Nat // q.1.1.length ≤ n2 ∧ At b q.2.1 q.2.2 ∧ R = preP q.1.1 (listP rowP (n2 - q.1.1.length) q.2.1 q.2.2) }) (fun q => n2 - q.1.1.1.length) (fun q => [(0, .ptr (some (k, 0))), (4, _), (5, _), (24, .int .i64 (n2 : Int)), (25, .int .i64 (q.1.1.1.length : Int))])
    (fun q => rdB k b (b.length - q.1.2.2.length) q.1.2.1 :: (_, .cells [.int .i64 nx, .int .i64 (nx + (n1 : Int)), .int .u16 M.1, .int .u16 M.2, (gS q.1.1.2 q.1.1.1).v] 57 _ true) :: _ :: (gD Row.cs 67 11 q.1.1.2 q.1.1.1 ++ [])) ⟨(([], .z), nx + (n1 : Int), r2), by simp, hA2, by rw [← hR]; exact (preP_nil _).symm⟩ ⟨rfl, rfl, rfl, rfl, rfl⟩ (.cons_cons _ (.cons_cons _ (.cons_cons _ (List.nil_sublist _)))) ?_
  rintro ⟨⟨⟨xs, i⟩, nx3, l3⟩, hx, hA3, hinv⟩ ih
  simp only at ih hx hA3 hinv ⊢
  repeat first | (with_reducible first | refine za ?_ | refine zb ?_ | refine zc ?_) | refine ym zr ?_ | refine yn 0 zr ?_ | refine yn 1 zr ?_ | refine yn 2 zr ?_ | refine yn 3 zr ?_ | (refine yo zr ?_; intro _) | (refine yp zr ?_; intro _) | refine yq zr ?_ | refine ys zr ?_ | refine yu zr ?_ | refine yv zr ?_ | (with_reducible first | refine zd ?_ | refine ze ?_ | refine zf ?_ | refine zg ?_ | refine zh ?_ | refine zi ?_ | refine zj ?_ | refine zk ?_ | refine zl ?_) | refine zz zr ?_ | refine zw (by decide +kernel) ?_ | refine zx zr zr zr ?_ | refine zy zr zr ?_ | refine W.condT zr ?_ | refine W.condF zr ?_
  refine W.condP rfl ?_ ?_ <;> intro hlt
  rotate_left
  · clear ih
    have hxn : xs.length = n2 := by omega
    have hinv : R = some (xs, nx3, l3) := by rw [hinv, hxn, Nat.sub_self]; simp [listP, preP]
    clear hR
    subst hinv
    simp only at hg
    subst hg
    repeat' first | (with_reducible first | refine za ?_ | refine zb ?_ | refine zc ?_) | refine ym zr ?_ | refine yn 0 zr ?_ | refine yn 1 zr ?_ | refine yn 2 zr ?_ | refine yn 3 zr ?_ | (refine yo zr ?_; intro _) | (refine yp zr ?_; intro _) | refine yq zr ?_ | refine ys zr ?_ | refine yu zr ?_ | refine yv zr ?_ | (with_reducible first | refine zd ?_ | refine ze ?_ | refine zf ?_ | refine zg ?_ | refine zh ?_ | refine zi ?_ | refine zj ?_ | refine zk ?_ | refine zl ?_) | refine zz zr ?_ | refine zw (by decide +kernel) ?_ | refine zx zr zr zr ?_ | refine zy zr zr ?_ | (refine W.condP zr ?_ ?_ <;> intro _) | refine W.condT zr ?_ | refine W.condF zr ?_ | (refine W.cond zr ?_ ?_ <;> intro _) | (refine W.gs zr zr zr zr ?_ ?_ <;> intro _) | (refine W.gsB zr zr zr zr ?_ ?_ <;> intro _) | refine W.done zr ?_ | refine W.doneN zr ?_
    refine W.fr1 ?_
    refine W.doneC tblOk (.cell 1 rfl rfl rfl rfl .nil) ?_
    exact ⟨⟨⟨nx, nx + (n1 : Int)⟩, M.1, M.2, gS i xs⟩, _, rfl, ⟨⟨rfl, rfl, rfl, gS_l i xs⟩, gS_in fun z hz => List.mem_cons_of_mem _ (List.mem_cons_of_mem _ (by simpa using hz))⟩, rfl⟩
  have hlt : xs.length < n2 := by omega
  rw [show n2 - xs.length = (n2 - xs.length - 1) + 1 by omega] at hinv
  clear hR
  have hnone : rowP nx3 l3 = none → H = none := fun e => by
    rw [listP_none _ e] at hinv
    subst hinv; exact hg.symm
  have c6 := num_c (V := V) G.G hb (by omega) hA3.e k nx3 6 (by decide)
  rw [show ((6 : Nat) : Int) = 6 from rfl] at c6
  repeat first | (with_reducible first | refine za ?_ | refine zb ?_ | refine zc ?_) | refine ym zr ?_ | refine yn 0 zr ?_ | refine yn 1 zr ?_ | refine yn 2 zr ?_ | refine yn 3 zr ?_ | (refine yo zr ?_; intro _) | (refine yp zr ?_; intro _) | refine yq zr ?_ | refine ys zr ?_ | refine yu zr ?_ | refine yv zr ?_ | (with_reducible first | refine zd ?_ | refine ze ?_ | refine zf ?_ | refine zg ?_ | refine zh ?_ | refine zi ?_ | refine zj ?_ | refine zk ?_ | refine zl ?_) | refine zz zr ?_ | refine zw (by decide +kernel) ?_ | refine zx zr zr zr ?_ | refine zy zr zr ?_ | refine W.condT zr ?_ | refine W.condF zr ?_
  cases hc6 : numP 6 l3 with
  | none =>
    have hH := hnone (by unfold rowP; simp only [hc6])
    subst hH
    simp only [hc6] at c6
    have c6 := c6.mono fun _ _ h => h.1
    clear ih
    refine W.regP _ 3 [0, 1, 2, 5, 6, 7, 10, 11, 12, 3, 4, 8, 9, 13, 14, 15, 16] (by decide +kernel) ?_ ?_ ?_
    · show W _ _ _ _ _ [.o false _ [_, _, _]] _ _ _ _
      repeat' first | (with_reducible first | refine za ?_ | refine zb ?_ | refine zc ?_) | refine ym zr ?_ | refine yn 0 zr ?_ | refine yn 1 zr ?_ | refine yn 2 zr ?_ | refine yn 3 zr ?_ | (refine yo zr ?_; intro _) | (refine yp zr ?_; intro _) | refine yq zr ?_ | refine ys zr ?_ | refine yu zr ?_ | refine yv zr ?_ | (with_reducible first | refine zd ?_ | refine ze ?_ | refine zf ?_ | refine zg ?_ | refine zh ?_ | refine zi ?_ | refine zj ?_ | refine zk ?_ | refine zl ?_) | refine zz zr ?_ | refine zw (by decide +kernel) ?_ | refine zx zr zr zr ?_ | refine zy zr zr ?_ | (refine W.condP zr ?_ ?_ <;> intro _) | refine W.condT zr ?_ | refine W.condF zr ?_ | (refine W.cond zr ?_ ?_ <;> intro _) | (refine W.gs zr zr zr zr ?_ ?_ <;> intro _) | (refine W.gsB zr zr zr zr ?_ ?_ <;> intro _) | refine W.done zr ?_ | refine W.doneN zr ?_
      exact ⟨_, rfl⟩
    · show W _ _ _ _ _ [.o false _ [_, _, _, _]] _ _ _ _
      repeat first | (with_reducible first | refine za ?_ | refine zb ?_ | refine zc ?_) | refine ym zr ?_ | refine yn 0 zr ?_ | refine yn 1 zr ?_ | refine yn 2 zr ?_ | refine yn 3 zr ?_ | (refine yo zr ?_; intro _) | (refine yp zr ?_; intro _) | refine yq zr ?_ | refine ys zr ?_ | refine yu zr ?_ | refine yv zr ?_ | (with_reducible first | refine zd ?_ | refine ze ?_ | refine zf ?_ | refine zg ?_ | refine zh ?_ | refine zi ?_ | refine zj ?_ | refine zk ?_ | refine zl ?_) | refine zz zr ?_ | refine zw (by decide +kernel) ?_ | refine zx zr zr zr ?_ | refine zy zr zr ?_ | refine W.condT zr ?_ | refine W.condF zr ?_
      exact W.callPan rfl rfl rfl rfl c6 rfl fun _ => ⟨_, rfl⟩
    refine W.drawFD _ 15 (by decide +kernel) hC ?_ ?_
    · intro j hj
      rcases (by omega : j = 0 ∨ j = 1 ∨ j = 2 ∨ j = 3 ∨ j = 4 ∨ j = 5 ∨ j = 6 ∨ j = 7 ∨ j = 8 ∨ j = 9 ∨ j = 10 ∨ j = 11 ∨ j = 12 ∨ j = 13 ∨ j = 14 ∨ j = 15) with rfl | rfl | rfl | rfl | rfl | rfl | rfl | rfl | rfl | rfl | rfl | rfl | rfl | rfl | rfl | rfl
      all_goals first | show W _ _ _ _ _ [.o false _ []] _ _ _ _ | show W _ _ _ _ _ [.o false _ [_]] _ _ _ _ | show W _ _ _ _ _ [.o false _ [_, _]] _ _ _ _ | show W _ _ _ _ _ [.o false _ [_, _, _]] _ _ _ _ | show W _ _ _ _ _ [.o false _ [_, _, _, _]] _ _ _ _ | show W _ _ _ _ _ [.o false _ [_, _, _, _, _]] _ _ _ _ | show W _ _ _ _ _ [.o false _ [_, _, _, _, _, _]] _ _ _ _ | show W _ _ _ _ _ [.o false _ [_, _, _, _, _, _, _]] _ _ _ _ | show W _ _ _ _ _ [.o false _ [_, _, _, _, _, _, _, _]] _ _ _ _ | show W _ _ _ _ _ [.o false _ [_, _, _, _, _, _, _, _, _]] _ _ _ _ | show W _ _ _ _ _ [.o false _ [_, _, _, _, _, _, _, _, _, _]] _ _ _ _ | show W _ _ _ _ _ [.o false _ [_, _, _, _, _, _, _, _, _, _, _]] _ _ _ _ | show W _ _ _ _ _ [.o false _ [_, _, _, _, _, _, _, _, _, _, _, _]] _ _ _ _ | show W _ _ _ _ _ [.o false _ [_, _, _, _, _, _, _, _, _, _, _, _, _]] _ _ _ _ | show W _ _ _ _ _ [.o false _ [_, _, _, _, _, _, _, _, _, _, _, _, _, _]] _ _ _ _ | show W _ _ _ _ _ [.o false _ [_, _, _, _, _, _, _, _, _, _, _, _, _, _, _]] _ _ _ _
      all_goals (
        repeat' first | (exact W.callPan rfl rfl rfl rfl c6 rfl fun _ => trivial) | (with_reducible first | refine za ?_ | refine zb ?_ | refine zc ?_) | refine ym zr ?_ | refine yn 0 zr ?_ | refine yn 1 zr ?_ | refine yn 2 zr ?_ | refine yn 3 zr ?_ | (refine yo zr ?_; intro _) | (refine yp zr ?_; intro _) | refine yq zr ?_ | refine ys zr ?_ | refine yu zr ?_ | refine yv zr ?_ | (with_reducible first | refine zd ?_ | refine ze ?_ | refine zf ?_ | refine zg ?_ | refine zh ?_ | refine zi ?_ | refine zj ?_ | refine zk ?_ | refine zl ?_) | refine zz zr ?_ | refine zw (by decide +kernel) ?_ | refine zx zr zr zr ?_ | refine zy zr zr ?_ | (refine W.condP zr ?_ ?_ <;> intro _) | refine W.condT zr ?_ | refine W.condF zr ?_ | (refine W.cond zr ?_ ?_ <;> intro _) | (refine W.gs zr zr zr zr ?_ ?_ <;> intro _) | (refine W.gsB zr zr zr zr ?_ ?_ <;> intro _) | refine W.done zr ?_ | refine W.doneN zr ?_
        skip)
      all_goals trivial
    show W _ _ _ _ _ (.o true _ [_, _, _, _, _, _, _, _, _, _, _, _, _, _, _, _, _] :: _) _ _ _ _
    repeat first | (with_reducible first | refine za ?_ | refine zb ?_ | refine zc ?_) | refine ym zr ?_ | refine yn 0 zr ?_ | refine yn 1 zr ?_ | refine yn 2 zr ?_ | refine yn 3 zr ?_ | (refine yo zr ?_; intro _) | (refine yp zr ?_; intro _) | refine yq zr ?_ | refine ys zr ?_ | refine yu zr ?_ | refine yv zr ?_ | (with_reducible first | refine zd ?_ | refine ze ?_ | refine zf ?_ | refine zg ?_ | refine zh ?_ | refine zi ?_ | refine zj ?_ | refine zk ?_ | refine zl ?_) | refine zz zr ?_ | refine zw (by decide +kernel) ?_ | refine zx zr zr zr ?_ | refine zy zr zr ?_ | refine W.condT zr ?_ | refine W.condF zr ?_
    exact W.callPan rfl rfl rfl rfl c6 (by decide +kernel) fun _ => rfl
  | some q =>
  obtain ⟨n6, r6⟩ := q
  simp only [hc6] at c6
  have hA6 := hA3.num hc6
  have lc6 := numP_len hc6
  have c5 := num_c (V := V) G.G hb (by omega) hA6.e k nx3 5 (by decide)
  rw [show ((5 : Nat) : Int) = 5 from rfl] at c5
  cases hc5 : numP 5 r6 with
  | none =>
    have hH := hnone (by unfold rowP; simp only [hc6, hc5])
    subst hH
    simp only [hc5] at c5
    have c5 := c5.mono fun _ _ h => h.1
    clear ih
    refine W.regP _ 8 [0, 1, 2, 3, 4, 5, 6, 7, 10, 11, 12, 8, 9, 13, 14, 15, 16] (by decide +kernel) ?_ ?_ ?_
    · show W _ _ _ _ _ [.o false _ [_, _, _, _, _, _, _, _]] _ _ _ _
      repeat' first | refine W.callB rfl rfl rfl rfl c6 ?_ | (with_reducible first | refine za ?_ | refine zb ?_ | refine zc ?_) | refine ym zr ?_ | refine yn 0 zr ?_ | refine yn 1 zr ?_ | refine yn 2 zr ?_ | refine yn 3 zr ?_ | (refine yo zr ?_; intro _) | (refine yp zr ?_; intro _) | refine yq zr ?_ | refine ys zr ?_ | refine yu zr ?_ | refine yv zr ?_ | (with_reducible first | refine zd ?_ | refine ze ?_ | refine zf ?_ | refine zg ?_ | refine zh ?_ | refine zi ?_ | refine zj ?_ | refine zk ?_ | refine zl ?_) | refine zz zr ?_ | refine zw (by decide +kernel) ?_ | refine zx zr zr zr ?_ | refine zy zr zr ?_ | (refine W.condP zr ?_ ?_ <;> intro _) | refine W.condT zr ?_ | refine W.condF zr ?_ | (refine W.cond zr ?_ ?_ <;> intro _) | (refine W.gs zr zr zr zr ?_ ?_ <;> intro _) | (refine W.gsB zr zr zr zr ?_ ?_ <;> intro _) | refine W.done zr ?_ | refine W.doneN zr ?_
      exact ⟨_, rfl⟩
    · show W _ _ _ _ _ [.o false _ [_, _, _, _, _, _, _, _, _]] _ _ _ _
      repeat first | refine W.callB rfl rfl rfl rfl c6 ?_ | (with_reducible first | refine za ?_ | refine zb ?_ | refine zc ?_) | refine ym zr ?_ | refine yn 0 zr ?_ | refine yn 1 zr ?_ | refine yn 2 zr ?_ | refine yn 3 zr ?_ | (refine yo zr ?_; intro _) | (refine yp zr ?_; intro _) | refine yq zr ?_ | refine ys zr ?_ | refine yu zr ?_ | refine yv zr ?_ | (with_reducible first | refine zd ?_ | refine ze ?_ | refine zf ?_ | refine zg ?_ | refine zh ?_ | refine zi ?_ | refine zj ?_ | refine zk ?_ | refine zl ?_) | refine zz zr ?_ | refine zw (by decide +kernel) ?_ | refine zx zr zr zr ?_ | refine zy zr zr ?_ | refine W.condT zr ?_ | refine W.condF zr ?_
      exact W.callPan rfl rfl rfl rfl c5 rfl fun _ => ⟨_, rfl⟩
    refine W.drawFD _ 15 (by decide +kernel) hC ?_ ?_
    · intro j hj
      rcases (by omega : j = 0 ∨ j = 1 ∨ j = 2 ∨ j = 3 ∨ j = 4 ∨ j = 5 ∨ j = 6 ∨ j = 7 ∨ j = 8 ∨ j = 9 ∨ j = 10 ∨ j = 11 ∨ j = 12 ∨ j = 13 ∨ j = 14 ∨ j = 15) with rfl | rfl | rfl | rfl | rfl | rfl | rfl | rfl | rfl | rfl | rfl | rfl | rfl | rfl | rfl | rfl
      all_goals first | show W _ _ _ _ _ [.o false _ []] _ _ _ _ | show W _ _ _ _ _ [.o false _ [_]] _ _ _ _ | show W _ _ _ _ _ [.o false _ [_, _]] _ _ _ _ | show W _ _ _ _ _ [.o false _ [_, _, _]] _ _ _ _ | show W _ _ _ _ _ [.o false _ [_, _, _, _]] _ _ _ _ | show W _ _ _ _ _ [.o false _ [_, _, _, _, _]] _ _ _ _ | show W _ _ _ _ _ [.o false _ [_, _, _, _, _, _]] _ _ _ _ | show W _ _ _ _ _ [.o false _ [_, _, _, _, _, _, _]] _ _ _ _ | show W _ _ _ _ _ [.o false _ [_, _, _, _, _, _, _, _]] _ _ _ _ | show W _ _ _ _ _ [.o false _ [_, _, _, _, _, _, _, _, _]] _ _ _ _ | show W _ _ _ _ _ [.o false _ [_, _, _, _, _, _, _, _, _, _]] _ _ _ _ | show W _ _ _ _ _ [.o false _ [_, _, _, _, _, _, _, _, _, _, _]] _ _ _ _ | show W _ _ _ _ _ [.o false _ [_, _, _, _, _, _, _, _, _, _, _, _]] _ _ _ _ | show W _ _ _ _ _ [.o false _ [_, _, _, _, _, _, _, _, _, _, _, _, _]] _ _ _ _ | show W _ _ _ _ _ [.o false _ [_, _, _, _, _, _, _, _, _, _, _, _, _, _]] _ _ _ _ | show W _ _ _ _ _ [.o false _ [_, _, _, _, _, _, _, _, _, _, _, _, _, _, _]] _ _ _ _
      all_goals (
        repeat' first | refine W.callB rfl rfl rfl rfl c6 ?_ | (exact W.callPan rfl rfl rfl rfl c5 rfl fun _ => trivial) | (with_reducible first | refine za ?_ | refine zb ?_ | refine zc ?_) | refine ym zr ?_ | refine yn 0 zr ?_ | refine yn 1 zr ?_ | refine yn 2 zr ?_ | refine yn 3 zr ?_ | (refine yo zr ?_; intro _) | (refine yp zr ?_; intro _) | refine yq zr ?_ | refine ys zr ?_ | refine yu zr ?_ | refine yv zr ?_ | (with_reducible first | refine zd ?_ | refine ze ?_ | refine zf ?_ | refine zg ?_ | refine zh ?_ | refine zi ?_ | refine zj ?_ | refine zk ?_ | refine zl ?_) | refine zz zr ?_ | refine zw (by decide +kernel) ?_ | refine zx zr zr zr ?_ | refine zy zr zr ?_ | (refine W.condP zr ?_ ?_ <;> intro _) | refine W.condT zr ?_ | refine W.condF zr ?_ | (refine W.cond zr ?_ ?_ <;> intro _) | (refine W.gs zr zr zr zr ?_ ?_ <;> intro _) | (refine W.gsB zr zr zr zr ?_ ?_ <;> intro _) | refine W.done zr ?_ | refine W.doneN zr ?_
        skip)
      all_goals trivial
    show W _ _ _ _ _ (.o true _ [_, _, _, _, _, _, _, _, _, _, _, _, _, _, _, _, _] :: _) _ _ _ _
    repeat first | refine W.callB rfl rfl rfl rfl c6 ?_ | (with_reducible first | refine za ?_ | refine zb ?_ | refine zc ?_) | refine ym zr ?_ | refine yn 0 zr ?_ | refine yn 1 zr ?_ | refine yn 2 zr ?_ | refine yn 3 zr ?_ | (refine yo zr ?_; intro _) | (refine yp zr ?_; intro _) | refine yq zr ?_ | refine ys zr ?_ | refine yu zr ?_ | refine yv zr ?_ | (with_reducible first | refine zd ?_ | refine ze ?_ | refine zf ?_ | refine zg ?_ | refine zh ?_ | refine zi ?_ | refine zj ?_ | refine zk ?_ | refine zl ?_) | refine zz zr ?_ | refine zw (by decide +kernel) ?_ | refine zx zr zr zr ?_ | refine zy zr zr ?_ | refine W.condT zr ?_ | refine W.condF zr ?_
    exact W.callPan rfl rfl rfl rfl c5 (by decide +kernel) fun _ => rfl
  | some q =>
  obtain ⟨n5, r5⟩ := q
  simp only [hc5] at c5
  have hA5 := hA6.num hc5
  have lc5 := numP_len hc5
  have c4 := num_c (V := V) G.G hb (by omega) hA5.e k nx3 4096 (by decide)
  rw [show ((4096 : Nat) : Int) = 4096 from rfl] at c4
  cases hc4 : numP 4096 r5 with
  | none =>
    have hH := hnone (by unfold rowP; simp only [hc6, hc5, hc4])
    subst hH
    simp only [hc4] at c4
    have c4 := c4.mono fun _ _ h => h.1
    clear ih
    refine W.drawF _ 15 (by decide +kernel) hC ?_ ?_
    · intro j hj
      rcases (by omega : j = 0 ∨ j = 1 ∨ j = 2 ∨ j = 3 ∨ j = 4 ∨ j = 5 ∨ j = 6 ∨ j = 7 ∨ j = 8 ∨ j = 9 ∨ j = 10 ∨ j = 11 ∨ j = 12 ∨ j = 13 ∨ j = 14 ∨ j = 15) with rfl | rfl | rfl | rfl | rfl | rfl | rfl | rfl | rfl | rfl | rfl | rfl | rfl | rfl | rfl | rfl
      all_goals first | show W _ _ _ _ _ [.o false _ []] _ _ _ _ | show W _ _ _ _ _ [.o false _ [_]] _ _ _ _ | show W _ _ _ _ _ [.o false _ [_, _]] _ _ _ _ | show W _ _ _ _ _ [.o false _ [_, _, _]] _ _ _ _ | show W _ _ _ _ _ [.o false _ [_, _, _, _]] _ _ _ _ | show W _ _ _ _ _ [.o false _ [_, _, _, _, _]] _ _ _ _ | show W _ _ _ _ _ [.o false _ [_, _, _, _, _, _]] _ _ _ _ | show W _ _ _ _ _ [.o false _ [_, _, _, _, _, _, _]] _ _ _ _ | show W _ _ _ _ _ [.o false _ [_, _, _, _, _, _, _, _]] _ _ _ _ | show W _ _ _ _ _ [.o false _ [_, _, _, _, _, _, _, _, _]] _ _ _ _ | show W _ _ _ _ _ [.o false _ [_, _, _, _, _, _, _, _, _, _]] _ _ _ _ | show W _ _ _ _ _ [.o false _ [_, _, _, _, _, _, _, _, _, _, _]] _ _ _ _ | show W _ _ _ _ _ [.o false _ [_, _, _, _, _, _, _, _, _, _, _, _]] _ _ _ _ | show W _ _ _ _ _ [.o false _ [_, _, _, _, _, _, _, _, _, _, _, _, _]] _ _ _ _ | show W _ _ _ _ _ [.o false _ [_, _, _, _, _, _, _, _, _, _, _, _, _, _]] _ _ _ _ | show W _ _ _ _ _ [.o false _ [_, _, _, _, _, _, _, _, _, _, _, _, _, _, _]] _ _ _ _
      all_goals (
        repeat' first | refine W.callB rfl rfl rfl rfl c6 ?_ | refine W.callB rfl rfl rfl rfl c5 ?_ | (exact W.callPan rfl rfl rfl rfl c4 rfl fun _ => trivial) | (with_reducible first | refine za ?_ | refine zb ?_ | refine zc ?_) | refine ym zr ?_ | refine yn 0 zr ?_ | refine yn 1 zr ?_ | refine yn 2 zr ?_ | refine yn 3 zr ?_ | (refine yo zr ?_; intro _) | (refine yp zr ?_; intro _) | refine yq zr ?_ | refine ys zr ?_ | refine yu zr ?_ | refine yv zr ?_ | (with_reducible first | refine zd ?_ | refine ze ?_ | refine zf ?_ | refine zg ?_ | refine zh ?_ | refine zi ?_ | refine zj ?_ | refine zk ?_ | refine zl ?_) | refine zz zr ?_ | refine zw (by decide +kernel) ?_ | refine zx zr zr zr ?_ | refine zy zr zr ?_ | (refine W.condP zr ?_ ?_ <;> intro _) | refine W.condT zr ?_ | refine W.condF zr ?_ | (refine W.cond zr ?_ ?_ <;> intro _) | (refine W.gs zr zr zr zr ?_ ?_ <;> intro _) | (refine W.gsB zr zr zr zr ?_ ?_ <;> intro _) | refine W.done zr ?_ | refine W.doneN zr ?_
        skip)
      all_goals trivial
    repeat first | refine W.callB rfl rfl rfl rfl c6 ?_ | refine W.callB rfl rfl rfl rfl c5 ?_ | (with_reducible first | refine za ?_ | refine zb ?_ | refine zc ?_) | refine ym zr ?_ | refine yn 0 zr ?_ | refine yn 1 zr ?_ | refine yn 2 zr ?_ | refine yn 3 zr ?_ | (refine yo zr ?_; intro _) | (refine yp zr ?_; intro _) | refine yq zr ?_ | refine ys zr ?_ | refine yu zr ?_ | refine yv zr ?_ | (with_reducible first | refine zd ?_ | refine ze ?_ | refine zf ?_ | refine zg ?_ | refine zh ?_ | refine zi ?_ | refine zj ?_ | refine zk ?_ | refine zl ?_) | refine zz zr ?_ | refine zw (by decide +kernel) ?_ | refine zx zr zr zr ?_ | refine zy zr zr ?_ | refine W.condT zr ?_ | refine W.condF zr ?_
    exact W.callPan rfl rfl rfl rfl c4 (by decide +kernel) fun _ => rfl
  | some q =>
  obtain ⟨n4, r4⟩ := q
  simp only [hc4] at c4
  have hA4 := hA5.num hc4
  have lc4 := numP_len hc4
  refine W.drawF _ 15 (by decide +kernel) hC ?_ ?_
  · clear ih
    intro j hj
    rcases (by omega : j = 0 ∨ j = 1 ∨ j = 2 ∨ j = 3 ∨ j = 4 ∨ j = 5 ∨ j = 6 ∨ j = 7 ∨ j = 8 ∨ j = 9 ∨ j = 10 ∨ j = 11 ∨ j = 12 ∨ j = 13 ∨ j = 14 ∨ j = 15) with rfl | rfl | rfl | rfl | rfl | rfl | rfl | rfl | rfl | rfl | rfl | rfl | rfl | rfl | rfl | rfl
    all_goals first | show W _ _ _ _ _ [.o false _ []] _ _ _ _ | show W _ _ _ _ _ [.o false _ [_]] _ _ _ _ | show W _ _ _ _ _ [.o false _ [_, _]] _ _ _ _ | show W _ _ _ _ _ [.o false _ [_, _, _]] _ _ _ _ | show W _ _ _ _ _ [.o false _ [_, _, _, _]] _ _ _ _ | show W _ _ _ _ _ [.o false _ [_, _, _, _, _]] _ _ _ _ | show W _ _ _ _ _ [.o false _ [_, _, _, _, _, _]] _ _ _ _ | show W _ _ _ _ _ [.o false _ [_, _, _, _, _, _, _]] _ _ _ _ | show W _ _ _ _ _ [.o false _ [_, _, _, _, _, _, _, _]] _ _ _ _ | show W _ _ _ _ _ [.o false _ [_, _, _, _, _, _, _, _, _]] _ _ _ _ | show W _ _ _ _ _ [.o false _ [_, _, _, _, _, _, _, _, _, _]] _ _ _ _ | show W _ _ _ _ _ [.o false _ [_, _, _, _, _, _, _, _, _, _, _]] _ _ _ _ | show W _ _ _ _ _ [.o false _ [_, _, _, _, _, _, _, _, _, _, _, _]] _ _ _ _ | show W _ _ _ _ _ [.o false _ [_, _, _, _, _, _, _, _, _, _, _, _, _]] _ _ _ _ | show W _ _ _ _ _ [.o false _ [_, _, _, _, _, _, _, _, _, _, _, _, _, _]] _ _ _ _ | show W _ _ _ _ _ [.o false _ [_, _, _, _, _, _, _, _, _, _, _, _, _, _, _]] _ _ _ _
    all_goals (
      repeat' first | refine W.callB rfl rfl rfl rfl c6 ?_ | refine W.callB rfl rfl rfl rfl c5 ?_ | refine W.callB rfl rfl rfl rfl c4 ?_ | (with_reducible first | refine za ?_ | refine zb ?_ | refine zc ?_) | refine ym zr ?_ | refine yn 0 zr ?_ | refine yn 1 zr ?_ | refine yn 2 zr ?_ | refine yn 3 zr ?_ | (refine yo zr ?_; intro _) | (refine yp zr ?_; intro _) | refine yq zr ?_ | refine ys zr ?_ | refine yu zr ?_ | refine yv zr ?_ | (with_reducible first | refine zd ?_ | refine ze ?_ | refine zf ?_ | refine zg ?_ | refine zh ?_ | refine zi ?_ | refine zj ?_ | refine zk ?_ | refine zl ?_) | refine zz zr ?_ | refine zw (by decide +kernel) ?_ | refine zx zr zr zr ?_ | refine zy zr zr ?_ | (refine W.condP zr ?_ ?_ <;> intro _) | refine W.condT zr ?_ | refine W.condF zr ?_ | (refine W.cond zr ?_ ?_ <;> intro _) | (refine W.gs zr zr zr zr ?_ ?_ <;> intro _) | (refine W.gsB zr zr zr zr ?_ ?_ <;> intro _) | refine W.done zr ?_ | refine W.doneN zr ?_
      trivial)
  repeat first | refine W.callB rfl rfl rfl rfl c6 ?_ | refine W.callB rfl rfl rfl rfl c5 ?_ | refine W.callB rfl rfl rfl rfl c4 ?_ | (with_reducible first | refine za ?_ | refine zb ?_ | refine zc ?_) | refine ym zr ?_ | refine yn 0 zr ?_ | refine yn 1 zr ?_ | refine yn 2 zr ?_ | refine yn 3 zr ?_ | (refine yo zr ?_; intro _) | (refine yp zr ?_; intro _) | refine yq zr ?_ | refine ys zr ?_ | refine yu zr ?_ | refine yv zr ?_ | (with_reducible first | refine zd ?_ | refine ze ?_ | refine zf ?_ | refine zg ?_ | refine zh ?_ | refine zi ?_ | refine zj ?_ | refine zk ?_ | refine zl ?_) | refine zz zr ?_ | refine zw (by decide +kernel) ?_ | refine zx zr zr zr ?_ | refine zy zr zr ?_ | refine W.condT zr ?_ | refine W.condF zr ?_
  rename_i i6
  have hsp6 := spans_d (V := V) G.spans i6 ⟨(n6 : Int), (n5 : Int), (n4 : Int), zsp, zsp, zsp, zsp⟩
  have hrow : rowP nx3 l3 = spansP (offs (n6 : Int) (n5 : Int)) ⟨(n6 : Int), (n5 : Int), (n4 : Int), zsp, zsp, zsp, zsp⟩ nx3 r4 := by unfold rowP; simp only [hc6, hc5, hc4]
  rw [w8 (n := (n6 : Int)) (by omega) (by omega), w8 (n := (n5 : Int)) (by omega) (by omega)]
  refine W.perm (_ :: rdB k b (b.length - r4.length) nx3 :: _ :: _ :: (gD Row.cs 67 11 i xs ++ [])) (List.Perm.refl _) ?_
  refine W.callR (Δ := [_]) (R := _ :: _ :: _ :: (gD Row.cs 67 11 i xs ++ [])) rfl rfl rfl rfl hsp6 ?_ ?_
  · rintro v Δ' ⟨i3, h1, -⟩
    cases h1
  rintro v Δ' ⟨i3, h1, rfl⟩
  injection h1 with h1; subst h1
  have hps := offs_in (n6 : Int) (n5 : Int)
  have hpl := offs_len (n6 : Int) (n5 : Int)
  simp only
  generalize offs (n6 : Int) (n5 : Int) = ps at hrow hps hpl ⊢
  generalize (⟨(n6 : Int), (n5 : Int), (n4 : Int), zsp, zsp, zsp, zsp⟩ : Row) = x0 at hrow ⊢
  generalize hR2 : spansP ps x0 nx3 r4 = R2 at hrow
  clear c6 c5 c4 hc6 hc5 hc4
  refine W.perm _ (perm_sp _ _ _ _ _ _) ?_
  repeat first | (with_reducible first | refine za ?_ | refine zb ?_ | refine zc ?_) | refine ym zr ?_ | refine yn 0 zr ?_ | refine yn 1 zr ?_ | refine yn 2 zr ?_ | refine yn 3 zr ?_ | (refine yo zr ?_; intro _) | (refine yp zr ?_; intro _) | refine yq zr ?_ | refine ys zr ?_ | refine yu zr ?_ | refine yv zr ?_ | (with_reducible first | refine zd ?_ | refine ze ?_ | refine zf ?_ | refine zg ?_ | refine zh ?_ | refine zi ?_ | refine zj ?_ | refine zk ?_ | refine zl ?_) | refine zz zr ?_ | refine zw (by decide +kernel) ?_ | refine zx zr zr zr ?_ | refine zy zr zr ?_ | refine W.condT zr ?_ | refine W.condF zr ?_
  refine W.loopR (α := { q : Nat × Row × Int × List Nat // q.1 ≤ ps.length ∧ At b q.2.2.1 q.2.2.2 ∧ R2 = spansP (ps.drop q.1) q.2.1 q.2.2.1 q.2.2.2 }) (fun q => ps.length - q.1.1) (fun q => [(0, .ptr (some (k, 0))), (4, _), (5, _), (6, _), (24, .int .i64 (n2 : Int)), (25, .int .i64 (xs.length : Int)), (42, spV i3 ps), (43, .int .i64 (ps.length : Int)), (44, .int .i64 (q.1.1 : Int))])
    (fun q => rowK _ q.1.2.1 :: rdB k b (b.length - q.1.2.2.2.length) q.1.2.2.1 :: _ :: _ :: (spB i3 _ ps ++ (gD Row.cs 67 11 i xs ++ []))) ⟨(0, x0, nx3, r4), by simp, hA4, hR2.symm⟩ ⟨rfl, rfl, rfl, rfl, rfl, rfl, rfl, rfl, rfl⟩ (List.Sublist.refl _) ?_
  rintro ⟨⟨j, x, nx5, l5⟩, hj, hA5', hinv5⟩ ih5
  simp only at ih5 hj hA5' hinv5 ⊢
  repeat first | (with_reducible first | refine za ?_ | refine zb ?_ | refine zc ?_) | refine ym zr ?_ | refine yn 0 zr ?_ | refine yn 1 zr ?_ | refine yn 2 zr ?_ | refine yn 3 zr ?_ | (refine yo zr ?_; intro _) | (refine yp zr ?_; intro _) | refine yq zr ?_ | refine ys zr ?_ | refine yu zr ?_ | refine yv zr ?_ | (with_reducible first | refine zd ?_ | refine ze ?_ | refine zf ?_ | refine zg ?_ | refine zh ?_ | refine zi ?_ | refine zj ?_ | refine zk ?_ | refine zl ?_) | refine zz zr ?_ | refine zw (by decide +kernel) ?_ | refine zx zr zr zr ?_ | refine zy zr zr ?_ | refine W.condT zr ?_ | refine W.condF zr ?_
  refine W.condP rfl ?_ ?_ <;> intro hlt5
  rotate_left
  · clear ih5
    have hjn : ps.length ≤ j := by omega
    rw [List.drop_eq_nil_of_le hjn] at hinv5
    have hinv5 : R2 = some (x, nx5, l5) := hinv5
    subst hinv5
    rw [listP_some _ hrow] at hinv
    refine W.dropD (_ :: _ :: _ :: _ :: (gD Row.cs 67 11 i xs ++ [])) (.cons_cons _ (.cons_cons _ (.cons_cons _ (.cons_cons _ (List.sublist_append_right _ _))))) ?_
    repeat first | (refine W.bsl tblOk rfl rfl rfl rfl (by decide) rfl rfl rfl ?_; intro _) | (with_reducible first | refine za ?_ | refine zb ?_ | refine zc ?_) | refine ym zr ?_ | refine yn 0 zr ?_ | refine yn 1 zr ?_ | refine yn 2 zr ?_ | refine yn 3 zr ?_ | (refine yo zr ?_; intro _) | (refine yp zr ?_; intro _) | refine yq zr ?_ | refine ys zr ?_ | refine yu zr ?_ | refine yv zr ?_ | (with_reducible first | refine zd ?_ | refine ze ?_ | refine zf ?_ | refine zg ?_ | refine zh ?_ | refine zi ?_ | refine zj ?_ | refine zk ?_ | refine zl ?_) | refine zz zr ?_ | refine zw (by decide +kernel) ?_ | refine zx zr zr zr ?_ | refine zy zr zr ?_ | refine W.condT zr ?_ | refine W.condF zr ?_
    refine W.appG (i := i) (l := xs) (m := [x]) (enc := Row.cs) (Δ1 := [_, _, _, _, _]) tblOk rfl rfl rfl rfl rfl rfl rfl (by decide) (by simp only [List.length_singleton]; omega) (fun _ => rfl) (src_own (p := 0) rfl rfl rfl) (fun h => by cases h) (leaf_all _ leafR _) rfl rfl fun i' => ?_
    have hnext := ih ⟨((xs ++ [x], i'), nx5, l5), by simp; omega, hA5', by
      show _ = preP (xs ++ [x]) (listP rowP (n2 - (xs ++ [x]).length) nx5 l5)
      rw [show n2 - (xs ++ [x]).length = n2 - xs.length - 1 by simp; omega]
      exact hinv⟩ (by show n2 - (xs ++ [x]).length < n2 - xs.length; simp; omega)
    simp only at hnext
    clear ih
    have ew : IntKind.i64.wrap ((xs.length : Int) + 1) = (((xs ++ [x]).length : Nat) : Int) := by rw [w64 (by omega) (by omega)]; simp
    repeat first | (with_reducible first | refine za ?_ | refine zb ?_ | refine zc ?_) | refine ym zr ?_ | refine yn 0 zr ?_ | refine yn 1 zr ?_ | refine yn 2 zr ?_ | refine yn 3 zr ?_ | (refine yo zr ?_; intro _) | (refine yp zr ?_; intro _) | refine yq zr ?_ | refine ys zr ?_ | refine yu zr ?_ | refine yv zr ?_ | (with_reducible first | refine zd ?_ | refine ze ?_ | refine zf ?_ | refine zg ?_ | refine zh ?_ | refine zi ?_ | refine zj ?_ | refine zk ?_ | refine zl ?_) | refine zz zr ?_ | refine zw (by decide +kernel) ?_ | refine zx zr zr zr ?_ | refine zy zr zr ?_ | refine W.condT zr ?_ | refine W.condF zr ?_
    refine W.fr3 ?_
    refine W.weak _ _ ?_ ?_ hnext
    · exact ⟨rfl, rfl, rfl, rfl, congrArg (fun x => some (AV.int .i64 x)) ew⟩
    · exact .cons_cons _ (.cons_cons _ (.cons _ (.cons _ (.cons_cons _ (List.Sublist.refl _)))))
  clear ih
  have hlt5 : j < ps.length := by omega
  rw [List.drop_eq_getElem_cons hlt5, spansP] at hinv5
  have hs5 := rspan_c (V := V) G.G G.span hb (by omega) hA5'.e k nx5 (hA5'.le hl)
  have hpj := hps _ (List.getElem_mem hlt5)
  cases hr5 : numP 4096 l5 with
  | none =>
    rw [show spanP nx5 l5 = none by unfold spanP; rw [hr5]] at hinv5
    have hH := hnone (hrow.trans hinv5)
    subst hH
    simp only [hr5] at hs5
    have hs5 := hs5.mono fun _ _ h => h.1
    clear ih5
    obtain ⟨e1, e2⟩ := spB_one (i := i3) (r := i6) hlt5
    rw [e2]
    have hget := spB_get i6 hlt5
    repeat first | refine W.ia tblOk rfl rfl rfl rfl rfl rfl e1 (by omega) (by omega) ?_ | refine W.ldO tblOk 4 rfl rfl rfl hget rfl rfl ?_ | (with_reducible first | refine za ?_ | refine zb ?_ | refine zc ?_) | refine ym zr ?_ | refine yn 0 zr ?_ | refine yn 1 zr ?_ | refine yn 2 zr ?_ | refine yn 3 zr ?_ | (refine yo zr ?_; intro _) | (refine yp zr ?_; intro _) | refine yq zr ?_ | refine ys zr ?_ | refine yu zr ?_ | refine yv zr ?_ | (with_reducible first | refine zd ?_ | refine ze ?_ | refine zf ?_ | refine zg ?_ | refine zh ?_ | refine zi ?_ | refine zj ?_ | refine zk ?_ | refine zl ?_) | refine zz zr ?_ | refine zw (by decide +kernel) ?_ | refine zx zr zr zr ?_ | refine zy zr zr ?_ | refine W.condT zr ?_ | refine W.condF zr ?_
    refine W.fr1 ?_
    refine W.perm (rdB k b (b.length - l5.length) nx5 :: _ :: _ :: _ :: _ :: (gD Row.cs 67 11 i xs ++ [])) (List.Perm.refl _) ?_
    exact W.callPan rfl rfl rfl rfl hs5 (by decide +kernel) fun _ => rfl
  | some q =>
  obtain ⟨n7, r7⟩ := q
  rw [show spanP nx5 l5 = some (⟨nx5, nx5 + (n7 : Int)⟩, nx5 + (n7 : Int), r7) by unfold spanP; rw [hr5]] at hinv5
  simp only [hr5] at hs5 hinv5
  have hA7 := hA5'.sp hr5
  have hget := spB_get i6 hlt5
  obtain ⟨e1, e2⟩ := spB_one (i := i3) (r := i6) hlt5
  have hnext := ih5 ⟨(j + 1, x.put ps[j] ⟨nx5, nx5 + (n7 : Int)⟩, nx5 + (n7 : Int), r7), by show j + 1 ≤ _; omega, hA7, hinv5⟩ (by show ps.length - (j + 1) < ps.length - j; omega)
  simp only at hnext
  clear ih5 hinv5
  rw [e2] at hnext ⊢
  have ew : IntKind.i64.wrap ((j : Int) + 1) = ((j + 1 : Nat) : Int) := by
    have : ps.length ≤ 3 := hpl
    rw [w64 (by omega) (by omega)]; omega
  generalize ps[j] = p at hget hpj hnext
  rcases hpj with rfl | rfl | rfl | rfl
  all_goals (
    repeat first | refine W.ia tblOk rfl rfl rfl rfl rfl rfl e1 (by omega) (by omega) ?_ | refine W.ldO tblOk 4 rfl rfl rfl hget rfl rfl ?_ | (with_reducible first | refine za ?_ | refine zb ?_ | refine zc ?_) | refine ym zr ?_ | refine yn 0 zr ?_ | refine yn 1 zr ?_ | refine yn 2 zr ?_ | refine yn 3 zr ?_ | (refine yo zr ?_; intro _) | (refine yp zr ?_; intro _) | refine yq zr ?_ | refine ys zr ?_ | refine yu zr ?_ | refine yv zr ?_ | (with_reducible first | refine zd ?_ | refine ze ?_ | refine zf ?_ | refine zg ?_ | refine zh ?_ | refine zi ?_ | refine zj ?_ | refine zk ?_ | refine zl ?_) | refine zz zr ?_ | refine zw (by decide +kernel) ?_ | refine zx zr zr zr ?_ | refine zy zr zr ?_ | refine W.condT zr ?_ | refine W.condF zr ?_
    refine W.fr1 ?_
    refine W.perm (rdB k b (b.length - l5.length) nx5 :: _ :: _ :: _ :: _ :: (gD Row.cs 67 11 i xs ++ [])) (List.Perm.refl _) ?_
    refine W.callR (Δ := [_]) (R := _ :: _ :: _ :: _ :: (gD Row.cs 67 11 i xs ++ [])) rfl rfl rfl rfl hs5 ?_ ?_
    · rintro v Δ' ⟨h1, -⟩
      cases h1
    rintro v Δ' ⟨h1, h2⟩
    injection h1 with h1; subst h1
    refine W.keep _ h2 ?_
    unfold rowK at hnext ⊢
    repeat first | (with_reducible first | refine za ?_ | refine zb ?_ | refine zc ?_) | refine ym zr ?_ | refine yn 0 zr ?_ | refine yn 1 zr ?_ | refine yn 2 zr ?_ | refine yn 3 zr ?_ | (refine yo zr ?_; intro _) | (refine yp zr ?_; intro _) | refine yq zr ?_ | refine ys zr ?_ | refine yu zr ?_ | refine yv zr ?_ | (with_reducible first | refine zd ?_ | refine ze ?_ | refine zf ?_ | refine zg ?_ | refine zh ?_ | refine zi ?_ | refine zj ?_ | refine zk ?_ | refine zl ?_) | refine zz zr ?_ | refine zw (by decide +kernel) ?_ | refine zx zr zr zr ?_ | refine zy zr zr ?_ | refine W.condT zr ?_ | refine W.condF zr ?_
    refine W.weak _ _ ?_ ?_ hnext
    · exact ⟨rfl, rfl, rfl, rfl, rfl, rfl, rfl, rfl, congrArg (fun x => some (AV.int .i64 x)) ew⟩
    · exact List.Sublist.refl _)
end Go.Proofs.Ythkkphkeonnnfaa.Abs
