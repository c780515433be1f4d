/- The reader's table. No condition but those that each theorem names. -/
import Derived.Test.YthkkphkeonnnfaaVS
import Derived.Test.YthkkphkeonnnfaaDP
namespace Go.Proofs.Ythkkphkeonnnfaa.Abs
open Go
set_option linter.unusedVariables false
set_option linter.unusedSimpArgs false
set_option maxRecDepth 100000
set_option maxHeartbeats 4000000
theorem slv_same {α : Type} (i : K) (l : List α) : sameA (gS i l).v (gS i l).v = true := by
  cases l <;> simp [gS, Sl.v, sameA, K.beq_refl]
attribute [local irreducible] W Cl Bd
variable {g : Cg} {V : K → Option (List AV)}
theorem room_cs (i : K) (xs : List Int) : roomB i xs 0 = (i, .cells (xs.flatMap iC) 2 1 true) := by
  unfold roomB
  rw [List.replicate_zero, List.append_nil]
  congr 2
  induction xs with
  | nil => rfl
  | cons x xs ih => rw [List.map_cons, ih]; rfl
theorem signedP_end {b l r : List Nat} {most : Nat} {xs : List Int} (h : EndOf b l) (e : signedP most l = some (xs, r)) : EndOf b r := by
  unfold signedP at e
  split at e
  · rename_i n q hq
    exact (manyP_end n (h.num hq) e).1
  · cases e
theorem preP_mem {α : Type} {ys zs : List α} {q : Int × List Nat} {o : Option (List α × Int × List Nat)} (h : some (zs, q) = preP ys o) : ∀ s ∈ ys, s ∈ zs := by
  cases o with
  | none => cases h
  | some p =>
    injection h with h; injection h with h1 h2
    intro s hs
    rw [h1]; exact List.mem_append_left _ hs
theorem perm_g (X A B : K × Bk) (D G1 D2 T : Dm) : (X :: A :: B :: (G1 ++ ((D ++ D2) ++ T))).Perm ((X :: D) ++ (A :: B :: (G1 ++ (D2 ++ T)))) := by
  show (([X] : Dm) ++ (([A, B] : Dm) ++ (G1 ++ ((D ++ D2) ++ T)))).Perm ([X] ++ (D ++ (([A, B] : Dm) ++ (G1 ++ (D2 ++ T)))))
  refine List.Perm.append_left _ ?_
  rw [List.append_assoc, ← List.append_assoc _ G1 (D ++ _), ← List.append_assoc (([A, B] : Dm) ++ G1) D, ← List.append_assoc [A, B] G1, ← List.append_assoc D]
  exact List.Perm.append_right _ List.perm_append_comm
theorem snoc_all2 {α β : Type} {R : α → β → Prop} {xs : List α} {ys : List β} {x : α} {y : β} (hl : xs.length = ys.length) (h : ∀ k (h1 : k < xs.length) (h2 : k < ys.length), R xs[k] ys[k]) (hx : R x y) : ∀ k (h1 : k < (xs ++ [x]).length) (h2 : k < (ys ++ [y]).length), R (xs ++ [x])[k] (ys ++ [y])[k] := fun k h1 h2 => by
  by_cases e : k < xs.length
  · rw [List.getElem_append_left e, List.getElem_append_left (by omega)]; exact h k e (by omega)
  · have : k = xs.length := by simp at h1; omega
    subst this
    rw [List.getElem_append_right (Nat.le_refl _), List.getElem_append_right (by omega)]
    simpa [hl] using hx
theorem rtable_c (G : ReadH g) (hp : Plain g 48 = true) (htt : Plain g 67 = true) (hC : ∀ k, CallS Try.prog (callA Try.prog g (exec Try.prog g k))) {b : List Nat} (hb : ∀ c ∈ b, c < 256) (hl : b.length ≤ 65536) (k : K) :
    Cl Try.prog g V 48 [.ptr (some (k, 0))] [rdB k b 0 0] fun o Δ => match tableP b with
      | some y => ∃ x : Table, o = .ret x.v ∧ CpT Δ x y
      | none => o = .pan (pn 194) := by
  refine Cl.enter hp Try.func48 rfl ?_
  generalize hg : tableP b = H
  have hbl : b.length ≤ 281474976710656 := by omega
  have ht := takeText_c (g := g) (V := V) htt G.G.take hb hbl (at_ := 0) (Nat.zero_le _)
  rw [List.drop_zero] at ht
  unfold tableP at hg
  cases h1 : textP b with
  | none =>
    simp only [h1] at hg ht
    subst hg
    repeat first | (refine W.callX rfl rfl rfl rfl ht ?_; intro e he) | (with_reducible first | refine za ?_ | refine zb ?_ | refine zc ?_) | refine ym zr ?_ | refine yn 0 zr ?_ | refine yn 1 zr ?_ | refine yn 2 zr ?_ | refine yn 3 zr ?_ | (refine yo zr ?_; intro _) | (refine yp zr ?_; intro _) | refine yq zr ?_ | refine ys zr ?_ | refine yu zr ?_ | refine yv zr ?_ | (with_reducible first | refine zd ?_ | refine ze ?_ | refine zf ?_ | refine zg ?_ | refine zh ?_ | refine zi ?_ | refine zj ?_ | refine zk ?_ | refine zl ?_) | refine zz zr ?_ | refine zw (by decide +kernel) ?_ | refine zx zr zr zr ?_ | refine zy zr zr ?_ | refine W.condT zr ?_ | refine W.condF zr ?_
    refine W.callM rfl rfl rfl rfl (must_c G.G.must _ _) (by decide +kernel) ?_ ?_ <;> intro hm_ <;> (try simp only [decide_eq_true_eq, decide_eq_false_iff_not, Bool.true_eq_false, Bool.false_eq_true] at hm_)
    · exact absurd hm_ he
    · rfl
  | some q =>
  obtain ⟨name, r1⟩ := q
  simp only [h1] at hg ht
  obtain ⟨hd1, hlt1, -, -⟩ := textP_drop h1
  have hA1 : At b 0 r1 := ⟨⟨hd1.symm, by omega⟩, Int.le_refl _, by omega⟩
  repeat first | refine W.callP rfl rfl rfl rfl ht ?_ | (refine W.callM rfl rfl rfl rfl (must_c G.G.must _ _) (by decide +kernel) ?_ ?_ <;> intro hm_ <;> (try simp only [decide_eq_true_eq, decide_eq_false_iff_not, Bool.true_eq_false, Bool.false_eq_true] at hm_)) | (with_reducible first | refine za ?_ | refine zb ?_ | refine zc ?_) | refine ym zr ?_ | refine yn 0 zr ?_ | refine yn 1 zr ?_ | refine yn 2 zr ?_ | refine yn 3 zr ?_ | (refine yo zr ?_; intro _) | (refine yp zr ?_; intro _) | refine yq zr ?_ | refine ys zr ?_ | refine yu zr ?_ | refine yv zr ?_ | (with_reducible first | refine zd ?_ | refine ze ?_ | refine zf ?_ | refine zg ?_ | refine zh ?_ | refine zi ?_ | refine zj ?_ | refine zk ?_ | refine zl ?_) | refine zz zr ?_ | refine zw (by decide +kernel) ?_ | refine zx zr zr zr ?_ | refine zy zr zr ?_ | refine W.condT zr ?_ | refine W.condF zr ?_
  rotate_left
  · exact absurd trivial hm_
  clear hm_
  rename_i i2 i3
  have c2 := signed_c (V := V) G.G G.signed hb hbl hA1.e k 0 12 (by decide)
  rw [show ((12 : Nat) : Int) = 12 from rfl] at c2
  repeat first | (with_reducible first | refine za ?_ | refine zb ?_ | refine zc ?_) | refine ym zr ?_ | refine yn 0 zr ?_ | refine yn 1 zr ?_ | refine yn 2 zr ?_ | refine yn 3 zr ?_ | (refine yo zr ?_; intro _) | (refine yp zr ?_; intro _) | refine yq zr ?_ | refine ys zr ?_ | refine yu zr ?_ | refine yv zr ?_ | (with_reducible first | refine zd ?_ | refine ze ?_ | refine zf ?_ | refine zg ?_ | refine zh ?_ | refine zi ?_ | refine zj ?_ | refine zk ?_ | refine zl ?_) | refine zz zr ?_ | refine zw (by decide +kernel) ?_ | refine zx zr zr zr ?_ | refine zy zr zr ?_ | refine W.condT zr ?_ | refine W.condF zr ?_
  cases h2 : signedP 12 r1 with
  | none =>
    simp only [h2] at hg c2
    subst hg
    exact W.callPan rfl rfl rfl rfl (c2.mono fun _ _ h => h.1) (by decide +kernel) fun _ => rfl
  | some q =>
  obtain ⟨regs, r2⟩ := q
  simp only [h2] at hg c2
  have hE2 := signedP_end hA1.e h2
  have hA2 : At b 0 r2 := ⟨hE2, Int.le_refl _, by have := hE2.2; omega⟩
  refine W.callR (Δ := [_]) (R := [_, _]) rfl rfl rfl rfl c2 ?_ ?_
  · rintro v Δ' ⟨i1, h0, -⟩
    cases h0
  rintro v Δ' ⟨ir, h0, rfl⟩
  injection h0 with h0; subst h0
  refine W.perm [_, _, _, _] (List.Perm.refl _) ?_
  refine W.fr1 ?_
  have c3 := num_c (V := V) G.G hb hbl hA2.e k 0 4 (by decide)
  rw [show ((4 : Nat) : Int) = 4 from rfl] at c3
  repeat first | (with_reducible first | refine za ?_ | refine zb ?_ | refine zc ?_) | refine ym zr ?_ | refine yn 0 zr ?_ | refine yn 1 zr ?_ | refine yn 2 zr ?_ | refine yn 3 zr ?_ | (refine yo zr ?_; intro _) | (refine yp zr ?_; intro _) | refine yq zr ?_ | refine ys zr ?_ | refine yu zr ?_ | refine yv zr ?_ | (with_reducible first | refine zd ?_ | refine ze ?_ | refine zf ?_ | refine zg ?_ | refine zh ?_ | refine zi ?_ | refine zj ?_ | refine zk ?_ | refine zl ?_) | refine zz zr ?_ | refine zw (by decide +kernel) ?_ | refine zx zr zr zr ?_ | refine zy zr zr ?_ | refine W.condT zr ?_ | refine W.condF zr ?_
  refine W.fr1 ?_
  cases h3 : numP 4 r2 with
  | none =>
    simp only [h3] at hg c3
    subst hg
    exact W.callPan rfl rfl rfl rfl (c3.mono fun _ _ h => h.1) (by decide +kernel) fun _ => rfl
  | some q =>
  obtain ⟨slots, r3⟩ := q
  simp only [h3] at hg c3
  have hA3 := hA2.num h3
  have hsl := numP_len h3
  refine W.callB rfl rfl rfl rfl c3 ?_
  have c4 := signed_c (V := V) G.G G.signed hb hbl hA3.e k 0 1024 (by decide)
  rw [show ((1024 : Nat) : Int) = 1024 from rfl] at c4
  repeat first | (with_reducible first | refine za ?_ | refine zb ?_ | refine zc ?_) | refine ym zr ?_ | refine yn 0 zr ?_ | refine yn 1 zr ?_ | refine yn 2 zr ?_ | refine yn 3 zr ?_ | (refine yo zr ?_; intro _) | (refine yp zr ?_; intro _) | refine yq zr ?_ | refine ys zr ?_ | refine yu zr ?_ | refine yv zr ?_ | (with_reducible first | refine zd ?_ | refine ze ?_ | refine zf ?_ | refine zg ?_ | refine zh ?_ | refine zi ?_ | refine zj ?_ | refine zk ?_ | refine zl ?_) | refine zz zr ?_ | refine zw (by decide +kernel) ?_ | refine zx zr zr zr ?_ | refine zy zr zr ?_ | refine W.condT zr ?_ | refine W.condF zr ?_
  refine W.fr1 ?_
  cases h4 : signedP 1024 r3 with
  | none =>
    simp only [h4] at hg c4
    subst hg
    exact W.callPan rfl rfl rfl rfl (c4.mono fun _ _ h => h.1) (by decide +kernel) fun _ => rfl
  | some q =>
  obtain ⟨consts, r4⟩ := q
  simp only [h4] at hg c4
  have hE4 := signedP_end hA3.e h4
  have hA4 : At b 0 r4 := ⟨hE4, Int.le_refl _, by have := hE4.2; omega⟩
  refine W.callR (Δ := [_]) (R := [_, _, _]) rfl rfl rfl rfl c4 ?_ ?_
  · rintro v Δ' ⟨i1, h0, -⟩
    cases h0
  rintro v Δ' ⟨ic, h0, rfl⟩
  injection h0 with h0; subst h0
  refine W.perm [_, _, _, _, _] (List.Perm.refl _) ?_
  refine W.fr1 ?_
  have c5 := num_c (V := V) G.G hb hbl hA4.e k 0 4096 (by decide)
  rw [show ((4096 : Nat) : Int) = 4096 from rfl] at c5
  repeat first | (with_reducible first | refine za ?_ | refine zb ?_ | refine zc ?_) | refine ym zr ?_ | refine yn 0 zr ?_ | refine yn 1 zr ?_ | refine yn 2 zr ?_ | refine yn 3 zr ?_ | (refine yo zr ?_; intro _) | (refine yp zr ?_; intro _) | refine yq zr ?_ | refine ys zr ?_ | refine yu zr ?_ | refine yv zr ?_ | (with_reducible first | refine zd ?_ | refine ze ?_ | refine zf ?_ | refine zg ?_ | refine zh ?_ | refine zi ?_ | refine zj ?_ | refine zk ?_ | refine zl ?_) | refine zz zr ?_ | refine zw (by decide +kernel) ?_ | refine zx zr zr zr ?_ | refine zy zr zr ?_ | refine W.condT zr ?_ | refine W.condF zr ?_
  refine W.fr1 ?_
  cases h5 : numP 4096 r4 with
  | none =>
    simp only [h5] at hg c5
    subst hg
    exact W.callPan rfl rfl rfl rfl (c5.mono fun _ _ h => h.1) (by decide +kernel) fun _ => rfl
  | some q =>
  obtain ⟨n, r5⟩ := q
  simp only [h5] at hg c5
  have hA5 := hA4.num h5
  have hnl := numP_len h5
  refine W.callB rfl rfl rfl rfl c5 ?_
  generalize h6 : listP instrP n 0 r5 = R at hg
  repeat first | (with_reducible first | refine za ?_ | refine zb ?_ | refine zc ?_) | refine ym zr ?_ | refine yn 0 zr ?_ | refine yn 1 zr ?_ | refine yn 2 zr ?_ | refine yn 3 zr ?_ | (refine yo zr ?_; intro _) | (refine yp zr ?_; intro _) | refine yq zr ?_ | refine ys zr ?_ | refine yu zr ?_ | refine yv zr ?_ | (with_reducible first | refine zd ?_ | refine ze ?_ | refine zf ?_ | refine zg ?_ | refine zh ?_ | refine zi ?_ | refine zj ?_ | refine zk ?_ | refine zl ?_) | refine zz zr ?_ | refine zw (by decide +kernel) ?_ | refine zx zr zr zr ?_ | refine zy zr zr ?_ | refine W.condT zr ?_ | refine W.condF zr ?_
  refine W.loopR (α := { q : (List Instr × K) × List Nat // q.1.1.length ≤ n ∧ At b 0 q.2 ∧ R = preP q.1.1 (listP instrP (n - q.1.1.length) 0 q.2) }) (fun q => n - q.1.1.1.length) (fun q => [(0, .ptr (some (k, 0))), (2, .ptr (some (i2, 0))), (3, .ptr (some (i3, 0))), (42, .int .i64 (n : Int)), (43, .int .i64 (q.1.1.1.length : Int))])
    (fun q => rdB k b (b.length - q.1.2.length) 0 :: (i3, .cells [.str name, .slice (some (ir, 0)) regs.length (.ex regs.length), .int .i64 (slots : Int), .slice (some (ic, 0)) consts.length (.ex consts.length), (gS q.1.1.2 q.1.1.1).v, .slice none 0 (.ex 0)] 26 _ true) :: _ :: _ :: _ :: (gD Instr.cs 54 2 q.1.1.2 q.1.1.1 ++ [])) ⟨(([], .z), r5), by simp, hA5, by rw [← h6]; exact (preP_nil _).symm⟩ ⟨rfl, rfl, rfl, rfl, rfl⟩ (List.Sublist.refl _) ?_
  rintro ⟨⟨⟨xs, nm⟩, l7⟩, hx, hA7, hinv⟩ ih
  simp only at ih hx hA7 hinv ⊢
  repeat first | (with_reducible first | refine za ?_ | refine zb ?_ | refine zc ?_) | refine ym zr ?_ | refine yn 0 zr ?_ | refine yn 1 zr ?_ | refine yn 2 zr ?_ | refine yn 3 zr ?_ | (refine yo zr ?_; intro _) | (refine yp zr ?_; intro _) | refine yq zr ?_ | refine ys zr ?_ | refine yu zr ?_ | refine yv zr ?_ | (with_reducible first | refine zd ?_ | refine ze ?_ | refine zf ?_ | refine zg ?_ | refine zh ?_ | refine zi ?_ | refine zj ?_ | refine zk ?_ | refine zl ?_) | refine zz zr ?_ | refine zw (by decide +kernel) ?_ | refine zx zr zr zr ?_ | refine zy zr zr ?_ | refine W.condT zr ?_ | refine W.condF zr ?_
  refine W.condP rfl ?_ ?_ <;> intro hlt
  · have hlt : xs.length < n := by omega
    rw [show n - xs.length = (n - xs.length - 1) + 1 by omega] at hinv
    have hnone : instrP 0 l7 = none → H = none := fun e => by
      rw [listP_none _ e] at hinv
      subst hinv; exact hg.symm
    clear h6
    have c8 := num_c (V := V) G.G hb hbl hA7.e k 0 9 (by decide)
    rw [show ((9 : Nat) : Int) = 9 from rfl] at c8
    repeat first | (with_reducible first | refine za ?_ | refine zb ?_ | refine zc ?_) | refine ym zr ?_ | refine yn 0 zr ?_ | refine yn 1 zr ?_ | refine yn 2 zr ?_ | refine yn 3 zr ?_ | (refine yo zr ?_; intro _) | (refine yp zr ?_; intro _) | refine yq zr ?_ | refine ys zr ?_ | refine yu zr ?_ | refine yv zr ?_ | (with_reducible first | refine zd ?_ | refine ze ?_ | refine zf ?_ | refine zg ?_ | refine zh ?_ | refine zi ?_ | refine zj ?_ | refine zk ?_ | refine zl ?_) | refine zz zr ?_ | refine zw (by decide +kernel) ?_ | refine zx zr zr zr ?_ | refine zy zr zr ?_ | refine W.condT zr ?_ | refine W.condF zr ?_
    cases h8 : numP 9 l7 with
    | none =>
      have hH := hnone (by unfold instrP; simp only [h8])
      subst hH
      simp only [h8] at c8
      have c8 := c8.mono fun _ _ h => h.1
      clear ih
      refine W.regP _ 5 [0, 1, 2, 3, 4, 7, 8, 9, 5, 6, 10, 11, 12, 13, 14, 15] (by decide +kernel) ?_ ?_ ?_
      · show W _ _ _ _ _ [.o false _ [_, _, _, _, _]] _ _ _ _
        repeat' first | (with_reducible first | refine za ?_ | refine zb ?_ | refine zc ?_) | refine ym zr ?_ | refine yn 0 zr ?_ | refine yn 1 zr ?_ | refine yn 2 zr ?_ | refine yn 3 zr ?_ | (refine yo zr ?_; intro _) | (refine yp zr ?_; intro _) | refine yq zr ?_ | refine ys zr ?_ | refine yu zr ?_ | refine yv zr ?_ | (with_reducible first | refine zd ?_ | refine ze ?_ | refine zf ?_ | refine zg ?_ | refine zh ?_ | refine zi ?_ | refine zj ?_ | refine zk ?_ | refine zl ?_) | refine zz zr ?_ | refine zw (by decide +kernel) ?_ | refine zx zr zr zr ?_ | refine zy zr zr ?_ | (refine W.condP zr ?_ ?_ <;> intro _) | refine W.condT zr ?_ | refine W.condF zr ?_ | (refine W.cond zr ?_ ?_ <;> intro _) | (refine W.gs zr zr zr zr ?_ ?_ <;> intro _) | (refine W.gsB zr zr zr zr ?_ ?_ <;> intro _) | refine W.done zr ?_ | refine W.doneN zr ?_
        exact ⟨_, rfl⟩
      · show W _ _ _ _ _ [.o false _ [_, _, _, _, _, _]] _ _ _ _
        repeat first | (with_reducible first | refine za ?_ | refine zb ?_ | refine zc ?_) | refine ym zr ?_ | refine yn 0 zr ?_ | refine yn 1 zr ?_ | refine yn 2 zr ?_ | refine yn 3 zr ?_ | (refine yo zr ?_; intro _) | (refine yp zr ?_; intro _) | refine yq zr ?_ | refine ys zr ?_ | refine yu zr ?_ | refine yv zr ?_ | (with_reducible first | refine zd ?_ | refine ze ?_ | refine zf ?_ | refine zg ?_ | refine zh ?_ | refine zi ?_ | refine zj ?_ | refine zk ?_ | refine zl ?_) | refine zz zr ?_ | refine zw (by decide +kernel) ?_ | refine zx zr zr zr ?_ | refine zy zr zr ?_ | refine W.condT zr ?_ | refine W.condF zr ?_
        exact W.callPan rfl rfl rfl rfl c8 rfl fun _ => ⟨_, rfl⟩
      refine W.drawLD _ (i0 := i3) (q := 4) (v := (gS nm xs).v) 1 8 13 (by decide +kernel) tbl tblOk rfl rfl (slv_same _ _) ?_ ?_ ?_
      · show W _ _ _ _ _ [.o false _ [_]] _ _ _ _
        repeat' first | (with_reducible first | refine za ?_ | refine zb ?_ | refine zc ?_) | refine ym zr ?_ | refine yn 0 zr ?_ | refine yn 1 zr ?_ | refine yn 2 zr ?_ | refine yn 3 zr ?_ | (refine yo zr ?_; intro _) | (refine yp zr ?_; intro _) | refine yq zr ?_ | refine ys zr ?_ | refine yu zr ?_ | refine yv zr ?_ | (with_reducible first | refine zd ?_ | refine ze ?_ | refine zf ?_ | refine zg ?_ | refine zh ?_ | refine zi ?_ | refine zj ?_ | refine zk ?_ | refine zl ?_) | refine zz zr ?_ | refine zw (by decide +kernel) ?_ | refine zx zr zr zr ?_ | refine zy zr zr ?_ | (refine W.condP zr ?_ ?_ <;> intro _) | refine W.condT zr ?_ | refine W.condF zr ?_ | (refine W.cond zr ?_ ?_ <;> intro _) | (refine W.gs zr zr zr zr ?_ ?_ <;> intro _) | (refine W.gsB zr zr zr zr ?_ ?_ <;> intro _) | refine W.done zr ?_ | refine W.doneN zr ?_
        exact ⟨rfl, _, _, .tail _ (.head _), rfl, rfl⟩
      · intro j hj1 hj2
        rcases (by omega : j = 8 ∨ j = 9 ∨ j = 10 ∨ j = 11 ∨ j = 12 ∨ j = 13) with rfl | rfl | rfl | rfl | rfl | rfl
        all_goals first | show W _ _ _ _ _ [.o false _ [_, _, _, _, _, _, _, _]] _ _ _ _ | show W _ _ _ _ _ [.o false _ [_, _, _, _, _, _, _, _, _]] _ _ _ _ | show W _ _ _ _ _ [.o false _ [_, _, _, _, _, _, _, _, _, _]] _ _ _ _ | show W _ _ _ _ _ [.o false _ [_, _, _, _, _, _, _, _, _, _, _]] _ _ _ _ | show W _ _ _ _ _ [.o false _ [_, _, _, _, _, _, _, _, _, _, _, _]] _ _ _ _ | show W _ _ _ _ _ [.o false _ [_, _, _, _, _, _, _, _, _, _, _, _, _]] _ _ _ _
        all_goals (
          repeat' first | (exact W.callPan rfl rfl rfl rfl c8 rfl fun _ => ⟨_, _, List.mem_append_right _ (.head _), rfl, rfl⟩) | (with_reducible first | refine za ?_ | refine zb ?_ | refine zc ?_) | refine ym zr ?_ | refine yn 0 zr ?_ | refine yn 1 zr ?_ | refine yn 2 zr ?_ | refine yn 3 zr ?_ | (refine yo zr ?_; intro _) | (refine yp zr ?_; intro _) | refine yq zr ?_ | refine ys zr ?_ | refine yu zr ?_ | refine yv zr ?_ | (with_reducible first | refine zd ?_ | refine ze ?_ | refine zf ?_ | refine zg ?_ | refine zh ?_ | refine zi ?_ | refine zj ?_ | refine zk ?_ | refine zl ?_) | refine zz zr ?_ | refine zw (by decide +kernel) ?_ | refine zx zr zr zr ?_ | refine zy zr zr ?_ | (refine W.condP zr ?_ ?_ <;> intro _) | refine W.condT zr ?_ | refine W.condF zr ?_ | (refine W.cond zr ?_ ?_ <;> intro _) | (refine W.gs zr zr zr zr ?_ ?_ <;> intro _) | (refine W.gsB zr zr zr zr ?_ ?_ <;> intro _) | refine W.done zr ?_ | refine W.doneN zr ?_
          skip)
        all_goals exact ⟨_, _, .tail _ (.head _), rfl, rfl⟩
      show W _ _ _ _ _ (.o true _ [_, _, _, _, _, _, _, _, _, _, _, _, _, _, _, _] :: _) _ _ _ _
      repeat first | (with_reducible first | refine za ?_ | refine zb ?_ | refine zc ?_) | refine ym zr ?_ | refine yn 0 zr ?_ | refine yn 1 zr ?_ | refine yn 2 zr ?_ | refine yn 3 zr ?_ | (refine yo zr ?_; intro _) | (refine yp zr ?_; intro _) | refine yq zr ?_ | refine ys zr ?_ | refine yu zr ?_ | refine yv zr ?_ | (with_reducible first | refine zd ?_ | refine ze ?_ | refine zf ?_ | refine zg ?_ | refine zh ?_ | refine zi ?_ | refine zj ?_ | refine zk ?_ | refine zl ?_) | refine zz zr ?_ | refine zw (by decide +kernel) ?_ | refine zx zr zr zr ?_ | refine zy zr zr ?_ | refine W.condT zr ?_ | refine W.condF zr ?_
      exact W.callPan rfl rfl rfl rfl c8 (by decide +kernel) fun _ => rfl
    | some q =>
    obtain ⟨n8, r8⟩ := q
    simp only [h8] at c8
    have hA8 := hA7.num h8
    have l8 := numP_len h8
    have c9 := num_c (V := V) G.G hb hbl hA8.e k 0 4096 (by decide)
    rw [show ((4096 : Nat) : Int) = 4096 from rfl] at c9
    cases h9 : numP 4096 r8 with
    | none =>
      have hH := hnone (by unfold instrP; simp only [h8, h9])
      subst hH
      simp only [h9] at c9
      have c9 := c9.mono fun _ _ h => h.1
      clear ih
      refine W.drawL _ (i0 := i3) (q := 4) (v := (gS nm xs).v) 1 5 13 (by decide +kernel) tbl tblOk rfl rfl (slv_same _ _) ?_ ?_ ?_
      · show W _ _ _ _ _ [.o false _ [_]] _ _ _ _
        repeat' first | (with_reducible first | refine za ?_ | refine zb ?_ | refine zc ?_) | refine ym zr ?_ | refine yn 0 zr ?_ | refine yn 1 zr ?_ | refine yn 2 zr ?_ | refine yn 3 zr ?_ | (refine yo zr ?_; intro _) | (refine yp zr ?_; intro _) | refine yq zr ?_ | refine ys zr ?_ | refine yu zr ?_ | refine yv zr ?_ | (with_reducible first | refine zd ?_ | refine ze ?_ | refine zf ?_ | refine zg ?_ | refine zh ?_ | refine zi ?_ | refine zj ?_ | refine zk ?_ | refine zl ?_) | refine zz zr ?_ | refine zw (by decide +kernel) ?_ | refine zx zr zr zr ?_ | refine zy zr zr ?_ | (refine W.condP zr ?_ ?_ <;> intro _) | refine W.condT zr ?_ | refine W.condF zr ?_ | (refine W.cond zr ?_ ?_ <;> intro _) | (refine W.gs zr zr zr zr ?_ ?_ <;> intro _) | (refine W.gsB zr zr zr zr ?_ ?_ <;> intro _) | refine W.done zr ?_ | refine W.doneN zr ?_
        exact ⟨rfl, _, _, .tail _ (.head _), rfl, rfl⟩
      · intro j hj1 hj2
        rcases (by omega : j = 5 ∨ j = 6 ∨ j = 7 ∨ j = 8 ∨ j = 9 ∨ j = 10 ∨ j = 11 ∨ j = 12 ∨ j = 13) with rfl | rfl | rfl | rfl | rfl | rfl | rfl | rfl | rfl
        all_goals first | show W _ _ _ _ _ [.o false _ [_, _, _, _, _]] _ _ _ _ | show W _ _ _ _ _ [.o false _ [_, _, _, _, _, _]] _ _ _ _ | show W _ _ _ _ _ [.o false _ [_, _, _, _, _, _, _]] _ _ _ _ | show W _ _ _ _ _ [.o false _ [_, _, _, _, _, _, _, _]] _ _ _ _ | show W _ _ _ _ _ [.o false _ [_, _, _, _, _, _, _, _, _]] _ _ _ _ | show W _ _ _ _ _ [.o false _ [_, _, _, _, _, _, _, _, _, _]] _ _ _ _ | show W _ _ _ _ _ [.o false _ [_, _, _, _, _, _, _, _, _, _, _]] _ _ _ _ | show W _ _ _ _ _ [.o false _ [_, _, _, _, _, _, _, _, _, _, _, _]] _ _ _ _ | show W _ _ _ _ _ [.o false _ [_, _, _, _, _, _, _, _, _, _, _, _, _]] _ _ _ _
        all_goals (
          repeat' first | refine W.callB rfl rfl rfl rfl c8 ?_ | (exact W.callPan rfl rfl rfl rfl c9 rfl fun _ => ⟨_, _, List.mem_append_right _ (.head _), rfl, rfl⟩) | (with_reducible first | refine za ?_ | refine zb ?_ | refine zc ?_) | refine ym zr ?_ | refine yn 0 zr ?_ | refine yn 1 zr ?_ | refine yn 2 zr ?_ | refine yn 3 zr ?_ | (refine yo zr ?_; intro _) | (refine yp zr ?_; intro _) | refine yq zr ?_ | refine ys zr ?_ | refine yu zr ?_ | refine yv zr ?_ | (with_reducible first | refine zd ?_ | refine ze ?_ | refine zf ?_ | refine zg ?_ | refine zh ?_ | refine zi ?_ | refine zj ?_ | refine zk ?_ | refine zl ?_) | refine zz zr ?_ | refine zw (by decide +kernel) ?_ | refine zx zr zr zr ?_ | refine zy zr zr ?_ | (refine W.condP zr ?_ ?_ <;> intro _) | refine W.condT zr ?_ | refine W.condF zr ?_ | (refine W.cond zr ?_ ?_ <;> intro _) | (refine W.gs zr zr zr zr ?_ ?_ <;> intro _) | (refine W.gsB zr zr zr zr ?_ ?_ <;> intro _) | refine W.done zr ?_ | refine W.doneN zr ?_
          skip)
        all_goals exact ⟨_, _, .tail _ (.head _), rfl, rfl⟩
      repeat first | refine W.callB rfl rfl rfl rfl c8 ?_ | (with_reducible first | refine za ?_ | refine zb ?_ | refine zc ?_) | refine ym zr ?_ | refine yn 0 zr ?_ | refine yn 1 zr ?_ | refine yn 2 zr ?_ | refine yn 3 zr ?_ | (refine yo zr ?_; intro _) | (refine yp zr ?_; intro _) | refine yq zr ?_ | refine ys zr ?_ | refine yu zr ?_ | refine yv zr ?_ | (with_reducible first | refine zd ?_ | refine ze ?_ | refine zf ?_ | refine zg ?_ | refine zh ?_ | refine zi ?_ | refine zj ?_ | refine zk ?_ | refine zl ?_) | refine zz zr ?_ | refine zw (by decide +kernel) ?_ | refine zx zr zr zr ?_ | refine zy zr zr ?_ | refine W.condT zr ?_ | refine W.condF zr ?_
      exact W.callPan rfl rfl rfl rfl c9 (by decide +kernel) fun _ => rfl
    | some q =>
    obtain ⟨n9, r9⟩ := q
    simp only [h9] at c9
    have l9 := numP_len h9
    rw [listP_some (x := (⟨(n8 : Int), (n9 : Int)⟩ : Instr)) (nx1 := 0) (r := r9) _ (by unfold instrP; simp only [h8, h9])] at hinv
    have hA9 := hA8.num h9
    refine W.drawL _ (i0 := i3) (q := 4) (v := (gS nm xs).v) 1 5 13 (by decide +kernel) tbl tblOk rfl rfl (slv_same _ _) ?_ ?_ ?_
    · clear ih
      show W _ _ _ _ _ [.o false _ [_]] _ _ _ _
      repeat' first | (with_reducible first | refine za ?_ | refine zb ?_ | refine zc ?_) | refine ym zr ?_ | refine yn 0 zr ?_ | refine yn 1 zr ?_ | refine yn 2 zr ?_ | refine yn 3 zr ?_ | (refine yo zr ?_; intro _) | (refine yp zr ?_; intro _) | refine yq zr ?_ | refine ys zr ?_ | refine yu zr ?_ | refine yv zr ?_ | (with_reducible first | refine zd ?_ | refine ze ?_ | refine zf ?_ | refine zg ?_ | refine zh ?_ | refine zi ?_ | refine zj ?_ | refine zk ?_ | refine zl ?_) | refine zz zr ?_ | refine zw (by decide +kernel) ?_ | refine zx zr zr zr ?_ | refine zy zr zr ?_ | (refine W.condP zr ?_ ?_ <;> intro _) | refine W.condT zr ?_ | refine W.condF zr ?_ | (refine W.cond zr ?_ ?_ <;> intro _) | (refine W.gs zr zr zr zr ?_ ?_ <;> intro _) | (refine W.gsB zr zr zr zr ?_ ?_ <;> intro _) | refine W.done zr ?_ | refine W.doneN zr ?_
      exact ⟨rfl, _, _, .tail _ (.head _), rfl, rfl⟩
    · clear ih
      intro j hj1 hj2
      rcases (by omega : j = 5 ∨ j = 6 ∨ j = 7 ∨ j = 8 ∨ j = 9 ∨ j = 10 ∨ j = 11 ∨ j = 12 ∨ j = 13) with rfl | rfl | rfl | rfl | rfl | rfl | rfl | rfl | rfl
      all_goals first | show W _ _ _ _ _ [.o false _ [_, _, _, _, _]] _ _ _ _ | show W _ _ _ _ _ [.o false _ [_, _, _, _, _, _]] _ _ _ _ | show W _ _ _ _ _ [.o false _ [_, _, _, _, _, _, _]] _ _ _ _ | show W _ _ _ _ _ [.o false _ [_, _, _, _, _, _, _, _]] _ _ _ _ | show W _ _ _ _ _ [.o false _ [_, _, _, _, _, _, _, _, _]] _ _ _ _ | show W _ _ _ _ _ [.o false _ [_, _, _, _, _, _, _, _, _, _]] _ _ _ _ | show W _ _ _ _ _ [.o false _ [_, _, _, _, _, _, _, _, _, _, _]] _ _ _ _ | show W _ _ _ _ _ [.o false _ [_, _, _, _, _, _, _, _, _, _, _, _]] _ _ _ _ | show W _ _ _ _ _ [.o false _ [_, _, _, _, _, _, _, _, _, _, _, _, _]] _ _ _ _
      all_goals (
        repeat' first | refine W.callB rfl rfl rfl rfl c8 ?_ | refine W.callB rfl rfl rfl rfl c9 ?_ | (refine W.bsl tblOk rfl rfl rfl rfl (by decide) rfl rfl rfl ?_; intro _) | (with_reducible first | refine za ?_ | refine zb ?_ | refine zc ?_) | refine ym zr ?_ | refine yn 0 zr ?_ | refine yn 1 zr ?_ | refine yn 2 zr ?_ | refine yn 3 zr ?_ | (refine yo zr ?_; intro _) | (refine yp zr ?_; intro _) | refine yq zr ?_ | refine ys zr ?_ | refine yu zr ?_ | refine yv zr ?_ | (with_reducible first | refine zd ?_ | refine ze ?_ | refine zf ?_ | refine zg ?_ | refine zh ?_ | refine zi ?_ | refine zj ?_ | refine zk ?_ | refine zl ?_) | refine zz zr ?_ | refine zw (by decide +kernel) ?_ | refine zx zr zr zr ?_ | refine zy zr zr ?_ | (refine W.condP zr ?_ ?_ <;> intro _) | refine W.condT zr ?_ | refine W.condF zr ?_ | (refine W.cond zr ?_ ?_ <;> intro _) | (refine W.gs zr zr zr zr ?_ ?_ <;> intro _) | (refine W.gsB zr zr zr zr ?_ ?_ <;> intro _) | refine W.done zr ?_ | refine W.doneN zr ?_
        first | exact ⟨_, _, .tail _ (.head _), rfl, rfl⟩ | exact ⟨_, _, .tail _ (.tail _ (.head _)), rfl, rfl⟩)
    repeat first | refine W.callB rfl rfl rfl rfl c8 ?_ | refine W.callB rfl rfl rfl rfl c9 ?_ | (refine W.bsl tblOk rfl rfl rfl rfl (by decide) rfl rfl rfl ?_; intro _) | (with_reducible first | refine za ?_ | refine zb ?_ | refine zc ?_) | refine ym zr ?_ | refine yn 0 zr ?_ | refine yn 1 zr ?_ | refine yn 2 zr ?_ | refine yn 3 zr ?_ | (refine yo zr ?_; intro _) | (refine yp zr ?_; intro _) | refine yq zr ?_ | refine ys zr ?_ | refine yu zr ?_ | refine yv zr ?_ | (with_reducible first | refine zd ?_ | refine ze ?_ | refine zf ?_ | refine zg ?_ | refine zh ?_ | refine zi ?_ | refine zj ?_ | refine zk ?_ | refine zl ?_) | refine zz zr ?_ | refine zw (by decide +kernel) ?_ | refine zx zr zr zr ?_ | refine zy zr zr ?_ | refine W.condT zr ?_ | refine W.condF zr ?_
    rw [w8 (n := (n8 : Int)) (by omega) (by omega)]
    refine W.appG (i := nm) (l := xs) (m := [(⟨(n8 : Int), (n9 : Int)⟩ : Instr)]) (enc := Instr.cs) (Δ1 := [_, _, _, _, _, _]) tblOk rfl rfl rfl rfl rfl rfl rfl (by decide) (by simp only [List.length_singleton]; omega) (fun _ => rfl) (src_own (p := 0) rfl rfl rfl) (fun h => by cases h) (leaf_all _ leafX _) rfl rfl fun i' => ?_
    have hnext := ih ⟨((xs ++ [(⟨(n8 : Int), (n9 : Int)⟩ : Instr)], i'), r9), by simp; omega, hA9, by
      show _ = preP (xs ++ [(⟨(n8 : Int), (n9 : Int)⟩ : Instr)]) (listP instrP (n - (xs ++ [(⟨(n8 : Int), (n9 : Int)⟩ : Instr)]).length) 0 r9)
      rw [show n - (xs ++ [(⟨(n8 : Int), (n9 : Int)⟩ : Instr)]).length = n - xs.length - 1 by simp; omega]
      exact hinv⟩ (by show n - (xs ++ [_]).length < n - xs.length; simp; omega)
    simp only at hnext
    clear ih
    have ew : IntKind.i64.wrap ((xs.length : Int) + 1) = (((xs ++ [(⟨(n8 : Int), (n9 : Int)⟩ : Instr)]).length : Nat) : Int) := by rw [w64 (by omega) (by omega)]; simp
    repeat first | (with_reducible first | refine za ?_ | refine zb ?_ | refine zc ?_) | refine ym zr ?_ | refine yn 0 zr ?_ | refine yn 1 zr ?_ | refine yn 2 zr ?_ | refine yn 3 zr ?_ | (refine yo zr ?_; intro _) | (refine yp zr ?_; intro _) | refine yq zr ?_ | refine ys zr ?_ | refine yu zr ?_ | refine yv zr ?_ | (with_reducible first | refine zd ?_ | refine ze ?_ | refine zf ?_ | refine zg ?_ | refine zh ?_ | refine zi ?_ | refine zj ?_ | refine zk ?_ | refine zl ?_) | refine zz zr ?_ | refine zw (by decide +kernel) ?_ | refine zx zr zr zr ?_ | refine zy zr zr ?_ | refine W.condT zr ?_ | refine W.condF zr ?_
    refine W.fr2 ?_
    refine W.weak _ _ ?_ ?_ hnext
    · exact ⟨rfl, rfl, rfl, rfl, congrArg (fun x => some (AV.int .i64 x)) ew⟩
    · exact .cons_cons _ (.cons_cons _ (.cons _ (List.Sublist.refl _)))
  clear ih
  have hxn : xs.length = n := by omega
  have hinv : R = some (xs, 0, l7) := by rw [hinv, hxn, Nat.sub_self]; simp [listP, preP]
  subst hinv
  simp only at hg
  have hnr := ((signedP_iff (by decide) (hA1.e.byte hb) _ _).1 h2).1
  have hnc := ((signedP_iff (by decide) (hA3.e.byte hb) _ _).1 h4).1
  have hni := ((spec_instr.list n 0 r5 (hA5.e.byte hb) _ _ _).1 h6).1.2
  have hnx : ∀ x ∈ xs, In8 x.k ∧ In64 x.a := fun x hx => by
    have := okL_each hni x hx
    unfold In8 In64; omega
  clear h6 hni
  have c7 := num_c (V := V) G.G hb hbl hA7.e k 0 12 (by decide)
  rw [show ((12 : Nat) : Int) = 12 from rfl] at c7
  repeat first | (with_reducible first | refine za ?_ | refine zb ?_ | refine zc ?_) | refine ym zr ?_ | refine yn 0 zr ?_ | refine yn 1 zr ?_ | refine yn 2 zr ?_ | refine yn 3 zr ?_ | (refine yo zr ?_; intro _) | (refine yp zr ?_; intro _) | refine yq zr ?_ | refine ys zr ?_ | refine yu zr ?_ | refine yv zr ?_ | (with_reducible first | refine zd ?_ | refine ze ?_ | refine zf ?_ | refine zg ?_ | refine zh ?_ | refine zi ?_ | refine zj ?_ | refine zk ?_ | refine zl ?_) | refine zz zr ?_ | refine zw (by decide +kernel) ?_ | refine zx zr zr zr ?_ | refine zy zr zr ?_ | refine W.condT zr ?_ | refine W.condF zr ?_
  cases h7 : numP 12 l7 with
  | none =>
    simp only [h7] at hg c7
    subst hg
    exact W.callPan rfl rfl rfl rfl (c7.mono fun _ _ h => h.1) (by decide +kernel) fun _ => rfl
  | some q =>
  obtain ⟨m, r7⟩ := q
  simp only [h7] at hg c7
  have hA8 := hA7.num h7
  have hml := numP_len h7
  refine W.callB rfl rfl rfl rfl c7 ?_
  generalize h8 : listP (stateP xs) m 0 r7 = R2 at hg
  repeat first | (with_reducible first | refine za ?_ | refine zb ?_ | refine zc ?_) | refine ym zr ?_ | refine yn 0 zr ?_ | refine yn 1 zr ?_ | refine yn 2 zr ?_ | refine yn 3 zr ?_ | (refine yo zr ?_; intro _) | (refine yp zr ?_; intro _) | refine yq zr ?_ | refine ys zr ?_ | refine yu zr ?_ | refine yv zr ?_ | (with_reducible first | refine zd ?_ | refine ze ?_ | refine zf ?_ | refine zg ?_ | refine zh ?_ | refine zi ?_ | refine zj ?_ | refine zk ?_ | refine zl ?_) | refine zz zr ?_ | refine zw (by decide +kernel) ?_ | refine zx zr zr zr ?_ | refine zy zr zr ?_ | refine W.condT zr ?_ | refine W.condF zr ?_
  rw [room_cs, room_cs]
  obtain ⟨D1, hD1, q1, q2, q3⟩ : ∃ D1 : Dm, D1 = (ic, .cells (consts.flatMap iC) 2 1 true) :: (ir, .cells (regs.flatMap iC) 2 1 true) :: (gD Instr.cs 54 2 nm xs ++ []) ∧ RowIn D1 iC 2 1 ⟨some (ir, 0), .ex regs.length, regs⟩ ∧ RowIn D1 iC 2 1 ⟨some (ic, 0), .ex consts.length, consts⟩ ∧ RowIn D1 Instr.cs 54 2 (gS nm xs) :=
    ⟨_, rfl, .inr ⟨ir, true, rfl, .tail _ (.head _)⟩, .inr ⟨ic, true, rfl, .head _⟩, gS_in fun z hz => .tail _ (.tail _ (List.mem_append_left _ hz))⟩
  refine W.fr4 ?_
  refine W.fr2 ?_
  refine W.fr2 ?_
  refine W.perm (_ :: _ :: _ :: ((ic, .cells (consts.flatMap iC) 2 1 true) :: (ir, .cells (regs.flatMap iC) 2 1 true) :: (gD Instr.cs 54 2 nm xs ++ []))) (List.Perm.refl _) ?_
  rw [← hD1]
  clear hD1 c2 c3 c4 c5 c7 ht
  have q4 : (gS nm xs).l = xs := gS_l _ _
  generalize gS nm xs = s3 at q3 q4 ⊢
  refine W.loopR (α := { q : (List (Sl Guard) × List (Sl Guard)) × (K × Dm) × Int × List Nat // q.1.1.length ≤ m ∧ q.1.2.length = q.1.1.length ∧ (∀ k (h1 : k < q.1.2.length) (h2 : k < q.1.1.length), CpS q.2.1.2 q.1.2[k] q.1.1[k]) ∧ At b q.2.2.1 q.2.2.2 ∧ R2 = preP q.1.1 (listP (stateP xs) (m - q.1.1.length) q.2.2.1 q.2.2.2) ∧ ∀ s ∈ q.1.1, s.l.length ≤ 12 ∧ ∀ g ∈ s.l, g.Num }) (fun q => m - q.1.1.1.length) (fun q => [(0, .ptr (some (k, 0))), (2, .ptr (some (i2, 0))), (3, .ptr (some (i3, 0))), (64, .int .i64 (m : Int)), (65, .int .i64 (q.1.1.1.length : Int))])
    (fun q => rdB k b (b.length - q.1.2.2.2.length) q.1.2.2.1 :: (i3, .cells [.str name, .slice (some (ir, 0)) regs.length (.ex regs.length), .int .i64 (slots : Int), .slice (some (ic, 0)) consts.length (.ex consts.length), s3.v, (gS q.1.2.1.1 q.1.1.2).v] 26 _ true) :: _ :: (gD slC 58 1 q.1.2.1.1 q.1.1.2 ++ (q.1.2.1.2 ++ D1))) ⟨(([], []), (.z, []), 0, r7), by simp, rfl, fun k h1 => by simp at h1, hA8, by rw [← h8]; exact (preP_nil _).symm, fun s hs => by simp at hs⟩ ⟨rfl, rfl, rfl, rfl, rfl⟩ (List.Sublist.refl _) ?_
  rintro ⟨⟨⟨ys, sts⟩, ⟨nm1, Dn⟩, nx9, l9⟩, hy1, hy2, hy3, hA9, hinv, hyn⟩ ih
  simp only at ih hy1 hy2 hy3 hA9 hinv hyn ⊢
  clear h8
  repeat first | (with_reducible first | refine za ?_ | refine zb ?_ | refine zc ?_) | refine ym zr ?_ | refine yn 0 zr ?_ | refine yn 1 zr ?_ | refine yn 2 zr ?_ | refine yn 3 zr ?_ | (refine yo zr ?_; intro _) | (refine yp zr ?_; intro _) | refine yq zr ?_ | refine ys zr ?_ | refine yu zr ?_ | refine yv zr ?_ | (with_reducible first | refine zd ?_ | refine ze ?_ | refine zf ?_ | refine zg ?_ | refine zh ?_ | refine zi ?_ | refine zj ?_ | refine zk ?_ | refine zl ?_) | refine zz zr ?_ | refine zw (by decide +kernel) ?_ | refine zx zr zr zr ?_ | refine zy zr zr ?_ | refine W.condT zr ?_ | refine W.condF zr ?_
  refine W.condP rfl ?_ ?_ <;> intro hlt2
  rotate_left
  · clear ih
    have hxn : ys.length = m := by omega
    have hinv : R2 = some (ys, nx9, l9) := by rw [hinv, hxn, Nat.sub_self]; simp [listP, preP]
    subst hinv
    simp only at hg
    by_cases hr8 : l9 = []
    · rw [if_pos hr8] at hg
      subst hg
      subst hr8
      repeat' first | (refine W.callM rfl rfl rfl rfl (must_c G.G.must _ _) (by decide +kernel) ?_ ?_ <;> intro hm_ <;> (try simp only [decide_eq_true_eq, decide_eq_false_iff_not, Bool.true_eq_false, Bool.false_eq_true] at hm_)) | (with_reducible first | refine za ?_ | refine zb ?_ | refine zc ?_) | refine ym zr ?_ | refine yn 0 zr ?_ | refine yn 1 zr ?_ | refine yn 2 zr ?_ | refine yn 3 zr ?_ | (refine yo zr ?_; intro _) | (refine yp zr ?_; intro _) | refine yq zr ?_ | refine ys zr ?_ | refine yu zr ?_ | refine yv zr ?_ | (with_reducible first | refine zd ?_ | refine ze ?_ | refine zf ?_ | refine zg ?_ | refine zh ?_ | refine zi ?_ | refine zj ?_ | refine zk ?_ | refine zl ?_) | refine zz zr ?_ | refine zw (by decide +kernel) ?_ | refine zx zr zr zr ?_ | refine zy zr zr ?_ | (refine W.condP zr ?_ ?_ <;> intro _) | refine W.condT zr ?_ | refine W.condF zr ?_ | (refine W.cond zr ?_ ?_ <;> intro _) | (refine W.gs zr zr zr zr ?_ ?_ <;> intro _) | (refine W.gsB zr zr zr zr ?_ ?_ <;> intro _) | refine W.done zr ?_ | refine W.doneN zr ?_
      · refine W.doneC tblOk (.cell 0 rfl rfl rfl rfl .nil) ?_
        refine ⟨⟨name, ⟨some (ir, 0), .ex regs.length, regs⟩, slots, ⟨some (ic, 0), .ex consts.length, consts⟩, s3, gS nm1 sts⟩, rfl, ?_⟩
        have hgl := gS_l nm1 sts
        refine ⟨rfl, rfl, ⟨rfl, q1.mono ?_⟩, ⟨rfl, q2.mono ?_⟩, ⟨q4, q3.mono ?_⟩, ?_⟩
        · intro z hz; simp [hz]
        · intro z hz; simp [hz]
        · intro z hz; simp [hz]
        · refine ⟨by show (gS nm1 sts).l.length = ys.length; rw [hgl, hy2], gS_in fun z hz => by simp [hz], ?_⟩
          show ∀ i (h1 : i < (gS nm1 sts).l.length) (h2 : i < ys.length), CpS _ (gS nm1 sts).l[i] ys[i]
          rw [hgl]
          exact fun k h1 h2 => (hy3 k h1 h2).mono fun z hz => by simp [hz]
      · exfalso
        simp at hm_
    · rw [if_neg hr8] at hg
      subst hg
      have hne : ¬ ((b.length - l9.length : Nat) : Int) = (b.length : Int) := by
        have h1 := hA9.e.2
        have h2 := List.length_pos_iff.2 hr8
        omega
      repeat' first | (refine W.callM rfl rfl rfl rfl (must_c G.G.must _ _) (by decide +kernel) ?_ ?_ <;> intro hm_ <;> (try simp only [decide_eq_true_eq, decide_eq_false_iff_not, Bool.true_eq_false, Bool.false_eq_true] at hm_)) | (with_reducible first | refine za ?_ | refine zb ?_ | refine zc ?_) | refine ym zr ?_ | refine yn 0 zr ?_ | refine yn 1 zr ?_ | refine yn 2 zr ?_ | refine yn 3 zr ?_ | (refine yo zr ?_; intro _) | (refine yp zr ?_; intro _) | refine yq zr ?_ | refine ys zr ?_ | refine yu zr ?_ | refine yv zr ?_ | (with_reducible first | refine zd ?_ | refine ze ?_ | refine zf ?_ | refine zg ?_ | refine zh ?_ | refine zi ?_ | refine zj ?_ | refine zk ?_ | refine zl ?_) | refine zz zr ?_ | refine zw (by decide +kernel) ?_ | refine zx zr zr zr ?_ | refine zy zr zr ?_ | (refine W.condP zr ?_ ?_ <;> intro _) | refine W.condT zr ?_ | refine W.condF zr ?_ | (refine W.cond zr ?_ ?_ <;> intro _) | (refine W.gs zr zr zr zr ?_ ?_ <;> intro _) | (refine W.gsB zr zr zr zr ?_ ?_ <;> intro _) | refine W.done zr ?_ | refine W.doneN zr ?_
      · exact absurd hm_ hne
      · rfl
  have hlt2 : ys.length < m := by omega
  rw [show m - ys.length = (m - ys.length - 1) + 1 by omega] at hinv
  have hnone : stateP xs nx9 l9 = none → H = none := fun e => by
    rw [listP_none _ e] at hinv
    subst hinv; exact hg.symm
  have k1 := num_c (V := V) G.G hb hbl hA9.e k nx9 12 (by decide)
  rw [show ((12 : Nat) : Int) = 12 from rfl] at k1
  repeat first | (with_reducible first | refine za ?_ | refine zb ?_ | refine zc ?_) | refine ym zr ?_ | refine yn 0 zr ?_ | refine yn 1 zr ?_ | refine yn 2 zr ?_ | refine yn 3 zr ?_ | (refine yo zr ?_; intro _) | (refine yp zr ?_; intro _) | refine yq zr ?_ | refine ys zr ?_ | refine yu zr ?_ | refine yv zr ?_ | (with_reducible first | refine zd ?_ | refine ze ?_ | refine zf ?_ | refine zg ?_ | refine zh ?_ | refine zi ?_ | refine zj ?_ | refine zk ?_ | refine zl ?_) | refine zz zr ?_ | refine zw (by decide +kernel) ?_ | refine zx zr zr zr ?_ | refine zy zr zr ?_ | refine W.condT zr ?_ | refine W.condF zr ?_
  cases hs1 : numP 12 l9 with
  | none =>
    have hH := hnone (by unfold stateP; simp only [hs1])
    subst hH
    simp only [hs1] at k1
    exact W.callPan rfl rfl rfl rfl (k1.mono fun _ _ h => h.1) (by decide +kernel) fun _ => rfl
  | some q =>
  obtain ⟨c, l10⟩ := q
  simp only [hs1] at k1
  have hA10 := hA9.num hs1
  have hcl2 := numP_len hs1
  have hst : stateP xs nx9 l9 = match listP (guardP xs) c nx9 l10 with | some (gs, nx1, r1) => some (mkS gs, nx1, r1) | none => none := by
    unfold stateP; simp only [hs1]; rfl
  generalize hs2 : listP (guardP xs) c nx9 l10 = R3 at hst
  have hcp : ∀ (A B : K × Bk) (T : Dm), CpT (A :: B :: (T ++ (gD slC 58 1 nm1 sts ++ (Dn ++ D1)))) ⟨name, ⟨some (ir, 0), .ex regs.length, regs⟩, slots, ⟨some (ic, 0), .ex consts.length, consts⟩, s3, gS nm1 sts⟩ ⟨name, mkS regs, slots, mkS consts, mkS xs, mkS ys⟩ := fun A B T => by
    have hgl := gS_l nm1 sts
    refine ⟨rfl, rfl, ⟨rfl, q1.mono ?_⟩, ⟨rfl, q2.mono ?_⟩, ⟨q4, q3.mono ?_⟩, ?_⟩
    · intro z hz; simp [hz]
    · intro z hz; simp [hz]
    · intro z hz; simp [hz]
    · refine ⟨by show (gS nm1 sts).l.length = ys.length; rw [hgl, hy2], gS_in fun z hz => by simp [hz], ?_⟩
      show ∀ i (h1 : i < (gS nm1 sts).l.length) (h2 : i < ys.length), CpS _ (gS nm1 sts).l[i] ys[i]
      rw [hgl]
      exact fun k h1 h2 => (hy3 k h1 h2).mono fun z hz => by simp [hz]
  have hnum : Table.Num ⟨name, mkS regs, slots, mkS consts, mkS xs, mkS ys⟩ := ⟨hnr, by show In64 (slots : Int); unfold In64; omega, hnc, ⟨by show xs.length ≤ 4096; omega, hnx⟩, by show ys.length ≤ 12; omega, hyn⟩
  refine W.callB rfl rfl rfl rfl k1 ?_
  repeat first | (with_reducible first | refine za ?_ | refine zb ?_ | refine zc ?_) | refine ym zr ?_ | refine yn 0 zr ?_ | refine yn 1 zr ?_ | refine yn 2 zr ?_ | refine yn 3 zr ?_ | (refine yo zr ?_; intro _) | (refine yp zr ?_; intro _) | refine yq zr ?_ | refine ys zr ?_ | refine yu zr ?_ | refine yv zr ?_ | (with_reducible first | refine zd ?_ | refine ze ?_ | refine zf ?_ | refine zg ?_ | refine zh ?_ | refine zi ?_ | refine zj ?_ | refine zk ?_ | refine zl ?_) | refine zz zr ?_ | refine zw (by decide +kernel) ?_ | refine zx zr zr zr ?_ | refine zy zr zr ?_ | refine W.condT zr ?_ | refine W.condF zr ?_
  refine W.loopR (α := { q : (List Guard × List Guard) × (K × Dm) × Int × List Nat // q.1.1.length ≤ c ∧ q.1.2.length = q.1.1.length ∧ (∀ k (h1 : k < q.1.2.length) (h2 : k < q.1.1.length), CpG q.2.1.2 q.1.2[k] q.1.1[k]) ∧ At b q.2.2.1 q.2.2.2 ∧ R3 = preP q.1.1 (listP (guardP xs) (c - q.1.1.length) q.2.2.1 q.2.2.2) }) (fun q => c - q.1.1.1.length) (fun q => [(0, .ptr (some (k, 0))), (2, .ptr (some (i2, 0))), (3, .ptr (some (i3, 0))), (64, .int .i64 (m : Int)), (65, .int .i64 (ys.length : Int)), (7, (gS q.1.2.1.1 q.1.1.2).v), (70, .int .i64 (c : Int)), (71, .int .i64 (q.1.1.1.length : Int))])
    (fun q => rdB k b (b.length - q.1.2.2.2.length) q.1.2.2.1 :: _ :: _ :: (gD Guard.cs 57 5 q.1.2.1.1 q.1.1.2 ++ (q.1.2.1.2 ++ (gD slC 58 1 nm1 sts ++ (Dn ++ D1))))) ⟨(([], []), (.z, []), nx9, l10), by simp, rfl, fun k h1 => by simp at h1, hA10, by rw [← hs2]; exact (preP_nil _).symm⟩ ⟨rfl, rfl, rfl, rfl, rfl, rfl, rfl, rfl⟩ (List.Sublist.refl _) ?_
  rintro ⟨⟨⟨ys2, gs⟩, ⟨nm2, D2⟩, nx11, l11⟩, hz1, hz2, hz3, hA11, hinv2⟩ ih2
  simp only at ih2 hz1 hz2 hz3 hA11 hinv2 ⊢
  clear hs2
  repeat first | (with_reducible first | refine za ?_ | refine zb ?_ | refine zc ?_) | refine ym zr ?_ | refine yn 0 zr ?_ | refine yn 1 zr ?_ | refine yn 2 zr ?_ | refine yn 3 zr ?_ | (refine yo zr ?_; intro _) | (refine yp zr ?_; intro _) | refine yq zr ?_ | refine ys zr ?_ | refine yu zr ?_ | refine yv zr ?_ | (with_reducible first | refine zd ?_ | refine ze ?_ | refine zf ?_ | refine zg ?_ | refine zh ?_ | refine zi ?_ | refine zj ?_ | refine zk ?_ | refine zl ?_) | refine zz zr ?_ | refine zw (by decide +kernel) ?_ | refine zx zr zr zr ?_ | refine zy zr zr ?_ | refine W.condT zr ?_ | refine W.condF zr ?_
  refine W.condP rfl ?_ ?_ <;> intro hlt3
  rotate_left
  · clear ih2
    have hxn : ys2.length = c := by omega
    have hinv2 : R3 = some (ys2, nx11, l11) := by rw [hinv2, hxn, Nat.sub_self]; simp [listP, preP]
    subst hinv2
    simp only at hst
    rw [listP_some _ hst] at hinv
    have hsn := state_num (((spec_state xs) nx9 l9 (hA9.e.byte hb) _ _ _).1 hst).1 hA9.z (hA11.le9 hl)
    repeat first | (refine W.bsl tblOk rfl rfl rfl rfl (by decide) rfl rfl rfl ?_; intro _) | (with_reducible first | refine za ?_ | refine zb ?_ | refine zc ?_) | refine ym zr ?_ | refine yn 0 zr ?_ | refine yn 1 zr ?_ | refine yn 2 zr ?_ | refine yn 3 zr ?_ | (refine yo zr ?_; intro _) | (refine yp zr ?_; intro _) | refine yq zr ?_ | refine ys zr ?_ | refine yu zr ?_ | refine yv zr ?_ | (with_reducible first | refine zd ?_ | refine ze ?_ | refine zf ?_ | refine zg ?_ | refine zh ?_ | refine zi ?_ | refine zj ?_ | refine zk ?_ | refine zl ?_) | refine zz zr ?_ | refine zw (by decide +kernel) ?_ | refine zx zr zr zr ?_ | refine zy zr zr ?_ | refine W.condT zr ?_ | refine W.condF zr ?_
    refine W.sw2 [_, _, _, _] (gD Guard.cs 57 5 nm2 gs) D2 (gD slC 58 1 nm1 sts) (Dn ++ D1) ?_
    refine W.appG (i := nm1) (l := sts) (m := [gS nm2 gs]) (enc := slC) (Δ1 := [_, _, _, _]) tblOk rfl rfl rfl rfl rfl rfl rfl (by decide) (by simp only [List.length_singleton]; omega) (fun _ => rfl) (src_own (p := 0) rfl rfl rfl) (fun h => by cases h) (leaf_all _ leafS _) rfl rfl fun n5 => ?_
    have hnext := ih ⟨((ys ++ [mkS ys2], sts ++ [gS nm2 gs]), (n5, gD Guard.cs 57 5 nm2 gs ++ (D2 ++ Dn)), nx11, l11), by simp; omega, by simp [hy2], snoc_all2 (R := CpS (gD Guard.cs 57 5 nm2 gs ++ (D2 ++ Dn))) hy2 (fun k h1 h2 => (hy3 k h1 h2).mono fun z hz => by simp [hz]) (CpS.mk' (gS_l nm2 gs) hz2 (gS_in fun z hz => by simp [hz]) fun k h1 h2 => (hz3 k h1 h2).mono fun z hz => by simp [hz]), hA11, by
      show _ = preP (ys ++ [mkS ys2]) (listP (stateP xs) (m - (ys ++ [mkS ys2]).length) nx11 l11)
      rw [show m - (ys ++ [mkS ys2]).length = m - ys.length - 1 by simp; omega]
      exact hinv, fun s hs => by
        rcases List.mem_append.1 hs with hs | hs
        · exact hyn s hs
        · rw [List.mem_singleton] at hs
          subst hs; exact hsn⟩ (by show m - (ys ++ [mkS ys2]).length < m - ys.length; simp; omega)
    simp only at hnext
    clear ih
    have ew : IntKind.i64.wrap ((ys.length : Int) + 1) = (((ys ++ [mkS ys2]).length : Nat) : Int) := by rw [w64 (by omega) (by omega)]; simp
    repeat first | (with_reducible first | refine za ?_ | refine zb ?_ | refine zc ?_) | refine ym zr ?_ | refine yn 0 zr ?_ | refine yn 1 zr ?_ | refine yn 2 zr ?_ | refine yn 3 zr ?_ | (refine yo zr ?_; intro _) | (refine yp zr ?_; intro _) | refine yq zr ?_ | refine ys zr ?_ | refine yu zr ?_ | refine yv zr ?_ | (with_reducible first | refine zd ?_ | refine ze ?_ | refine zf ?_ | refine zg ?_ | refine zh ?_ | refine zi ?_ | refine zj ?_ | refine zk ?_ | refine zl ?_) | refine zz zr ?_ | refine zw (by decide +kernel) ?_ | refine zx zr zr zr ?_ | refine zy zr zr ?_ | refine W.condT zr ?_ | refine W.condF zr ?_
    refine W.fr2 ?_
    refine W.weak _ _ ?_ ?_ hnext
    · exact ⟨rfl, rfl, rfl, rfl, congrArg (fun x => some (AV.int .i64 x)) ew⟩
    · show List.Sublist (_ :: _ :: _ :: (gD slC 58 1 n5 (sts ++ [gS nm2 gs]) ++ ((gD Guard.cs 57 5 nm2 gs ++ (D2 ++ Dn)) ++ D1))) _
      rw [List.append_assoc, List.append_assoc]
      exact .cons_cons _ (.cons_cons _ (.cons _ (List.Sublist.refl _)))
  clear ih
  have hlt3 : ys2.length < c := by omega
  rw [show c - ys2.length = (c - ys2.length - 1) + 1 by omega] at hinv2
  repeat first | (with_reducible first | refine za ?_ | refine zb ?_ | refine zc ?_) | refine ym zr ?_ | refine yn 0 zr ?_ | refine yn 1 zr ?_ | refine yn 2 zr ?_ | refine yn 3 zr ?_ | (refine yo zr ?_; intro _) | (refine yp zr ?_; intro _) | refine yq zr ?_ | refine ys zr ?_ | refine yu zr ?_ | refine yv zr ?_ | (with_reducible first | refine zd ?_ | refine ze ?_ | refine zf ?_ | refine zg ?_ | refine zh ?_ | refine zi ?_ | refine zj ?_ | refine zk ?_ | refine zl ?_) | refine zz zr ?_ | refine zw (by decide +kernel) ?_ | refine zx zr zr zr ?_ | refine zy zr zr ?_ | refine W.condT zr ?_ | refine W.condF zr ?_
  refine W.know fun hva hnd => ?_
  have hcq := hcp (i3, .cells [.str name, .slice (some (ir, 0)) regs.length (.ex regs.length), .int .i64 (slots : Int), .slice (some (ic, 0)) consts.length (.ex consts.length), s3.v, (gS nm1 sts).v] 26 6 true) (i2, .cells [.str [], .slice none 0 (.ex 0), .int .i64 0, .slice none 0 (.ex 0), .slice none 0 (.ex 0), .slice none 0 (.ex 0)] 26 6 true) (gD Guard.cs 57 5 nm2 gs ++ D2)
  rw [List.append_assoc] at hcq
  have hok := hcq.okN (V := V) hnum (List.nodup_cons.1 hnd).2
  have hgc := rguard_c G hC hb hl hA11 k hok
  have hgs : guardP (Table.mk name ⟨some (ir, 0), .ex regs.length, regs⟩ slots ⟨some (ic, 0), .ex consts.length, consts⟩ s3 (gS nm1 sts)).code.l nx11 l11 = guardP xs nx11 l11 := by show guardP s3.l nx11 l11 = _; rw [q4]
  rw [hgs] at hgc
  cases hg3 : guardP xs nx11 l11 with
  | none =>
    rw [listP_none _ hg3] at hinv2
    subst hinv2
    have hH := hnone hst
    subst hH
    simp only [hg3] at hgc
    clear ih2
    refine W.callH (Δ := [_]) (R := _ :: _ :: (gD Guard.cs 57 5 nm2 gs ++ (D2 ++ (gD slC 58 1 nm1 sts ++ (Dn ++ D1))))) rfl rfl rfl rfl hgc ?_ ?_
    · intro v Δ' h0
      injection h0 with h0; subst h0
      exact ⟨by decide +kernel, rfl⟩
    · intro v Δ' h0
      cases h0
  | some q =>
  obtain ⟨yg, nx12, l12⟩ := q
  rw [listP_some _ hg3] at hinv2
  have hA12 := fair_guard xs hA11 hg3
  simp only [hg3] at hgc
  refine W.callH (Δ := [_]) (R := _ :: _ :: (gD Guard.cs 57 5 nm2 gs ++ (D2 ++ (gD slC 58 1 nm1 sts ++ (Dn ++ D1))))) rfl rfl rfl rfl hgc ?_ ?_
  · rintro v Δ' ⟨x, D, h0, -⟩
    cases h0
  rintro v Δ' ⟨x, D, h0, hcx, rfl⟩
  injection h0 with h0; subst h0
  refine W.perm _ (perm_g _ _ _ _ _ _ _) ?_
  repeat first | (refine W.bsl tblOk rfl rfl rfl rfl (by decide) rfl rfl rfl ?_; intro _) | (with_reducible first | refine za ?_ | refine zb ?_ | refine zc ?_) | refine ym zr ?_ | refine yn 0 zr ?_ | refine yn 1 zr ?_ | refine yn 2 zr ?_ | refine yn 3 zr ?_ | (refine yo zr ?_; intro _) | (refine yp zr ?_; intro _) | refine yq zr ?_ | refine ys zr ?_ | refine yu zr ?_ | refine yv zr ?_ | (with_reducible first | refine zd ?_ | refine ze ?_ | refine zf ?_ | refine zg ?_ | refine zh ?_ | refine zi ?_ | refine zj ?_ | refine zk ?_ | refine zl ?_) | refine zz zr ?_ | refine zw (by decide +kernel) ?_ | refine zx zr zr zr ?_ | refine zy zr zr ?_ | refine W.condT zr ?_ | refine W.condF zr ?_
  refine W.appG (i := nm2) (l := gs) (m := [x]) (enc := Guard.cs) (Δ1 := [_, _, _, _]) tblOk rfl rfl rfl rfl rfl rfl rfl (by decide) (by simp only [List.length_singleton]; omega) (fun _ => rfl) (src_own (p := 0) rfl rfl rfl) (fun h => by cases h) (leaf_all _ leafG _) rfl rfl fun n6 => ?_
  have hnext := ih2 ⟨((ys2 ++ [yg], gs ++ [x]), (n6, D ++ D2), nx12, l12), by simp; omega, by simp [hz2], snoc_all2 (R := CpG (D ++ D2)) hz2 (fun k h1 h2 => (hz3 k h1 h2).mono fun z hz => by simp [hz]) (hcx.mono fun z hz => by simp [hz]), hA12, by
    show _ = preP (ys2 ++ [yg]) (listP (guardP xs) (c - (ys2 ++ [yg]).length) nx12 l12)
    rw [show c - (ys2 ++ [yg]).length = c - ys2.length - 1 by simp; omega]
    exact hinv2⟩ (by show c - (ys2 ++ [yg]).length < c - ys2.length; simp; omega)
  simp only at hnext
  clear ih2
  have ew : IntKind.i64.wrap ((ys2.length : Int) + 1) = (((ys2 ++ [yg]).length : Nat) : Int) := by rw [w64 (by omega) (by omega)]; simp
  repeat first | (with_reducible first | refine za ?_ | refine zb ?_ | refine zc ?_) | refine ym zr ?_ | refine yn 0 zr ?_ | refine yn 1 zr ?_ | refine yn 2 zr ?_ | refine yn 3 zr ?_ | (refine yo zr ?_; intro _) | (refine yp zr ?_; intro _) | refine yq zr ?_ | refine ys zr ?_ | refine yu zr ?_ | refine yv zr ?_ | (with_reducible first | refine zd ?_ | refine ze ?_ | refine zf ?_ | refine zg ?_ | refine zh ?_ | refine zi ?_ | refine zj ?_ | refine zk ?_ | refine zl ?_) | refine zz zr ?_ | refine zw (by decide +kernel) ?_ | refine zx zr zr zr ?_ | refine zy zr zr ?_ | refine W.condT zr ?_ | refine W.condF zr ?_
  refine W.weak _ _ ?_ ?_ hnext
  · exact ⟨rfl, rfl, rfl, rfl, rfl, rfl, rfl, congrArg (fun x => some (AV.int .i64 x)) ew⟩
  · exact .cons _ (List.Sublist.refl _)
end Go.Proofs.Ythkkphkeonnnfaa.Abs
