/- The reader's table. No condition but those that each theorem names. -/
import Derived.Test.YthkkphkeonnnfaaVS
import Derived.Test.YthkkphkeonnnfaaDP
namespace Go.Proofs.Ythkkphkeonnnfaa.Abs
open Go
set_option linter.unusedVariables false
set_option linter.unusedSimpArgs false
set_option maxRecDepth 100000
set_option maxHeartbeats 4000000
theorem slv_same {α : Type} (i : K) (l : List α) : sameA (gS i l).v (gS i l).v = true := by
  cases l <;> simp [gS, Sl.v, sameA, K.beq_refl]
section
variable {P : Program} {g : Cg} {n : Nat} {V : K → Option (List AV)} {rs : List ResultVar} {st : List Fr} {Γ : Gm} {Δ : Dm} {Q : RO → Dm → Prop} {b : Bool} {all rest : List Oper} {ty : TypeId} {pos : String} {after : Array Edge} {gd : Option (Nat × Bool)}
/-- A call that is handed the first block, leaves it changed, and nothing else. -/
theorem W.callB {dst : Option Nat} {fx : Operand} {xs : Array Operand} {tys : Array TypeId} {f : Nat} {first caps vs : List AV} {R : Dm} {x0 x1 : K × Bk} {v : AV} (hf : eg Γ fx = some (.func f first caps)) (ha : egs Γ xs.toList = some vs)
    (hd : dstOk n dst = true) (hw : wantG all Γ ⟨dst, .call ⟨.value fx, xs, tys⟩, ty, pos, after, gd⟩ = some true)
    (hc : Cl P g V f (first ++ vs ++ caps) [x0] fun o Δ' => o = .ret v ∧ Δ' = [x1])
    (h : W P g n V rs (.o b all rest :: st) .nrm (dstG dst v Γ) (x1 :: R) Q) : W P g n V rs (.o b all (⟨dst, .call ⟨.value fx, xs, tys⟩, ty, pos, after, gd⟩ :: rest) :: st) .nrm Γ (x0 :: R) Q :=
  W.callR (Δ := [x0]) (R := R) hf ha hd hw hc (fun _ _ h => by obtain ⟨h, -⟩ := h; cases h) fun u Δ' hq => by
    obtain ⟨h1, rfl⟩ := hq
    injection h1 with h1; subst h1
    exact h
end
attribute [local irreducible] W Cl Bd
variable {g : Cg} {V : K → Option (List AV)}
theorem room_cs (i : K) (xs : List Int) : roomB i xs 0 = (i, .cells (xs.flatMap iC) 2 1 true) := by
  unfold roomB
  rw [List.replicate_zero, List.append_nil]
  congr 2
  induction xs with
  | nil => rfl
  | cons x xs ih => rw [List.map_cons, ih]; rfl
theorem signedP_end {b l r : List Nat} {most : Nat} {xs : List Int} (h : EndOf b l) (e : signedP most l = some (xs, r)) : EndOf b r := by
  unfold signedP at e
  split at e
  · rename_i n q hq
    exact (manyP_end n (h.num hq) e).1
  · cases e
theorem preP_mem {α : Type} {ys zs : List α} {q : Int × List Nat} {o : Option (List α × Int × List Nat)} (h : some (zs, q) = preP ys o) : ∀ s ∈ ys, s ∈ zs := by
  cases o with
  | none => cases h
  | some p =>
    injection h with h; injection h with h1 h2
    intro s hs
    rw [h1]; exact List.mem_append_left _ hs
theorem perm_g (X A B : K × Bk) (D G1 D2 T : Dm) : (X :: A :: B :: (G1 ++ ((D ++ D2) ++ T))).Perm ((X :: D) ++ (A :: B :: (G1 ++ (D2 ++ T)))) := by
  show (([X] : Dm) ++ (([A, B] : Dm) ++ (G1 ++ ((D ++ D2) ++ T)))).Perm ([X] ++ (D ++ (([A, B] : Dm) ++ (G1 ++ (D2 ++ T)))))
  refine List.Perm.append_left _ ?_
  rw [List.append_assoc, ← List.append_assoc _ G1 (D ++ _), ← List.append_assoc (([A, B] : Dm) ++ G1) D, ← List.append_assoc [A, B] G1, ← List.append_assoc D]
  exact List.Perm.append_right _ List.perm_append_comm
theorem snoc_all2 {α β : Type} {R : α → β → Prop} {xs : List α} {ys : List β} {x : α} {y : β} (hl : xs.length = ys.length) (h : ∀ k (h1 : k < xs.length) (h2 : k < ys.length), R xs[k] ys[k]) (hx : R x y) : ∀ k (h1 : k < (xs ++ [x]).length) (h2 : k < (ys ++ [y]).length), R (xs ++ [x])[k] (ys ++ [y])[k] := fun k h1 h2 => by
  by_cases e : k < xs.length
  · rw [List.getElem_append_left e, List.getElem_append_left (by omega)]; exact h k e (by omega)
  · have : k = xs.length := by simp at h1; omega
    subst this
    rw [List.getElem_append_right (Nat.le_refl _), List.getElem_append_right (by omega)]
    simpa [hl] using hx
theorem rtable_c (G : ReadH g) (hp : Plain g 48 = true) (htt : Plain g 67 = true) (hC : ∀ k, CallS Try.prog (callA Try.prog g (exec Try.prog g k))) {b : List Nat} (hb : ∀ c ∈ b, c < 256) (hl : b.length ≤ 65536) (k : K) {y : Table} (hg : tableP b = some y) :
    Cl Try.prog g V 48 [.ptr (some (k, 0))] [rdB k b 0 0] fun o Δ => ∃ x : Table, o = .ret x.v ∧ CpT Δ x y := by
  refine Cl.enter hp Try.func48 rfl ?_
  have hrd := ((tableP_iff hb y).1 hg).1
  have hnum := hrd.num
  have hbl : b.length ≤ 281474976710656 := by omega
  have ht := takeText_c (g := g) (V := V) htt G.G.take hb hbl (at_ := 0) (Nat.zero_le _)
  rw [List.drop_zero] at ht
  unfold tableP at hg
  cases h1 : textP b with
  | none => rw [h1] at hg; cases hg
  | some q =>
  obtain ⟨name, r1⟩ := q
  simp only [h1] at hg ht
  obtain ⟨hd1, hlt1, -, -⟩ := textP_drop h1
  have hA1 : At b 0 r1 := ⟨⟨hd1.symm, by omega⟩, Int.le_refl _, by omega⟩
  repeat first | refine W.callP rfl rfl rfl rfl ht ?_ | (refine W.callM rfl rfl rfl rfl (must_c G.G.must _ _) (by decide +kernel) ?_ ?_ <;> intro hm_ <;> (try simp only [decide_eq_true_eq, decide_eq_false_iff_not, Bool.true_eq_false, Bool.false_eq_true] at hm_)) | (with_reducible first | refine za ?_ | refine zb ?_ | refine zc ?_) | refine ym zr ?_ | refine yn 0 zr ?_ | refine yn 1 zr ?_ | refine yn 2 zr ?_ | refine yn 3 zr ?_ | (refine yo zr ?_; intro _) | (refine yp zr ?_; intro _) | refine yq zr ?_ | refine ys zr ?_ | refine yu zr ?_ | refine yv zr ?_ | (with_reducible first | refine zd ?_ | refine ze ?_ | refine zf ?_ | refine zg ?_ | refine zh ?_ | refine zi ?_ | refine zj ?_ | refine zk ?_ | refine zl ?_) | refine zz zr ?_ | refine zw (by decide +kernel) ?_ | refine zx zr zr zr ?_ | refine zy zr zr ?_ | refine W.condT zr ?_ | refine W.condF zr ?_
  rotate_left
  · exact absurd trivial hm_
  clear hm_
  rename_i i2 i3
  cases h2 : signedP 12 r1 with
  | none => rw [h2] at hg; cases hg
  | some q =>
  obtain ⟨regs, r2⟩ := q
  simp only [h2] at hg
  have hE2 := signedP_end hA1.e h2
  have hA2 : At b 0 r2 := ⟨hE2, Int.le_refl _, by have := hE2.2; omega⟩
  have c2 := signed_c (V := V) G.G G.signed hb hbl hA1.e k 0 12 (by decide)
  rw [show ((12 : Nat) : Int) = 12 from rfl] at c2
  simp only [h2] at c2
  repeat first | (with_reducible first | refine za ?_ | refine zb ?_ | refine zc ?_) | refine ym zr ?_ | refine yn 0 zr ?_ | refine yn 1 zr ?_ | refine yn 2 zr ?_ | refine yn 3 zr ?_ | (refine yo zr ?_; intro _) | (refine yp zr ?_; intro _) | refine yq zr ?_ | refine ys zr ?_ | refine yu zr ?_ | refine yv zr ?_ | (with_reducible first | refine zd ?_ | refine ze ?_ | refine zf ?_ | refine zg ?_ | refine zh ?_ | refine zi ?_ | refine zj ?_ | refine zk ?_ | refine zl ?_) | refine zz zr ?_ | refine zw (by decide +kernel) ?_ | refine zx zr zr zr ?_ | refine zy zr zr ?_ | refine W.condT zr ?_ | refine W.condF zr ?_
  refine W.callR (Δ := [_]) (R := [_, _]) rfl rfl rfl rfl c2 ?_ ?_
  · rintro v Δ' ⟨i1, h0, -⟩
    cases h0
  rintro v Δ' ⟨ir, h0, rfl⟩
  injection h0 with h0; subst h0
  refine W.perm [_, _, _, _] (List.Perm.refl _) ?_
  refine W.fr1 ?_
  cases h3 : numP 4 r2 with
  | none => rw [h3] at hg; cases hg
  | some q =>
  obtain ⟨slots, r3⟩ := q
  simp only [h3] at hg
  have hA3 := hA2.num h3
  have hsl := numP_len h3
  have c3 := num_c (V := V) G.G hb hbl hA2.e k 0 4 (by decide)
  rw [show ((4 : Nat) : Int) = 4 from rfl] at c3
  simp only [h3] at c3
  repeat first | (with_reducible first | refine za ?_ | refine zb ?_ | refine zc ?_) | refine ym zr ?_ | refine yn 0 zr ?_ | refine yn 1 zr ?_ | refine yn 2 zr ?_ | refine yn 3 zr ?_ | (refine yo zr ?_; intro _) | (refine yp zr ?_; intro _) | refine yq zr ?_ | refine ys zr ?_ | refine yu zr ?_ | refine yv zr ?_ | (with_reducible first | refine zd ?_ | refine ze ?_ | refine zf ?_ | refine zg ?_ | refine zh ?_ | refine zi ?_ | refine zj ?_ | refine zk ?_ | refine zl ?_) | refine zz zr ?_ | refine zw (by decide +kernel) ?_ | refine zx zr zr zr ?_ | refine zy zr zr ?_ | refine W.condT zr ?_ | refine W.condF zr ?_
  refine W.fr1 ?_
  refine W.callB rfl rfl rfl rfl c3 ?_
  cases h4 : signedP 1024 r3 with
  | none => rw [h4] at hg; cases hg
  | some q =>
  obtain ⟨consts, r4⟩ := q
  simp only [h4] at hg
  have hE4 := signedP_end hA3.e h4
  have hA4 : At b 0 r4 := ⟨hE4, Int.le_refl _, by have := hE4.2; omega⟩
  have c4 := signed_c (V := V) G.G G.signed hb hbl hA3.e k 0 1024 (by decide)
  rw [show ((1024 : Nat) : Int) = 1024 from rfl] at c4
  simp only [h4] at c4
  repeat first | (with_reducible first | refine za ?_ | refine zb ?_ | refine zc ?_) | refine ym zr ?_ | refine yn 0 zr ?_ | refine yn 1 zr ?_ | refine yn 2 zr ?_ | refine yn 3 zr ?_ | (refine yo zr ?_; intro _) | (refine yp zr ?_; intro _) | refine yq zr ?_ | refine ys zr ?_ | refine yu zr ?_ | refine yv zr ?_ | (with_reducible first | refine zd ?_ | refine ze ?_ | refine zf ?_ | refine zg ?_ | refine zh ?_ | refine zi ?_ | refine zj ?_ | refine zk ?_ | refine zl ?_) | refine zz zr ?_ | refine zw (by decide +kernel) ?_ | refine zx zr zr zr ?_ | refine zy zr zr ?_ | refine W.condT zr ?_ | refine W.condF zr ?_
  refine W.fr1 ?_
  refine W.callR (Δ := [_]) (R := [_, _, _]) rfl rfl rfl rfl c4 ?_ ?_
  · rintro v Δ' ⟨i1, h0, -⟩
    cases h0
  rintro v Δ' ⟨ic, h0, rfl⟩
  injection h0 with h0; subst h0
  refine W.perm [_, _, _, _, _] (List.Perm.refl _) ?_
  refine W.fr1 ?_
  cases h5 : numP 4096 r4 with
  | none => rw [h5] at hg; cases hg
  | some q =>
  obtain ⟨n, r5⟩ := q
  simp only [h5] at hg
  have hA5 := hA4.num h5
  have hnl := numP_len h5
  have c5 := num_c (V := V) G.G hb hbl hA4.e k 0 4096 (by decide)
  rw [show ((4096 : Nat) : Int) = 4096 from rfl] at c5
  simp only [h5] at c5
  repeat first | (with_reducible first | refine za ?_ | refine zb ?_ | refine zc ?_) | refine ym zr ?_ | refine yn 0 zr ?_ | refine yn 1 zr ?_ | refine yn 2 zr ?_ | refine yn 3 zr ?_ | (refine yo zr ?_; intro _) | (refine yp zr ?_; intro _) | refine yq zr ?_ | refine ys zr ?_ | refine yu zr ?_ | refine yv zr ?_ | (with_reducible first | refine zd ?_ | refine ze ?_ | refine zf ?_ | refine zg ?_ | refine zh ?_ | refine zi ?_ | refine zj ?_ | refine zk ?_ | refine zl ?_) | refine zz zr ?_ | refine zw (by decide +kernel) ?_ | refine zx zr zr zr ?_ | refine zy zr zr ?_ | refine W.condT zr ?_ | refine W.condF zr ?_
  refine W.fr1 ?_
  refine W.callB rfl rfl rfl rfl c5 ?_
  cases h6 : listP instrP n 0 r5 with
  | none => rw [h6] at hg; cases hg
  | some q =>
  obtain ⟨code, nx6, r6⟩ := q
  simp only [h6] at hg
  have hA6 := fair_list fair_instr n hA5 h6
  have hcl := listP_len n h6
  repeat first | (with_reducible first | refine za ?_ | refine zb ?_ | refine zc ?_) | refine ym zr ?_ | refine yn 0 zr ?_ | refine yn 1 zr ?_ | refine yn 2 zr ?_ | refine yn 3 zr ?_ | (refine yo zr ?_; intro _) | (refine yp zr ?_; intro _) | refine yq zr ?_ | refine ys zr ?_ | refine yu zr ?_ | refine yv zr ?_ | (with_reducible first | refine zd ?_ | refine ze ?_ | refine zf ?_ | refine zg ?_ | refine zh ?_ | refine zi ?_ | refine zj ?_ | refine zk ?_ | refine zl ?_) | refine zz zr ?_ | refine zw (by decide +kernel) ?_ | refine zx zr zr zr ?_ | refine zy zr zr ?_ | refine W.condT zr ?_ | refine W.condF zr ?_
  refine W.loopR (α := { q : (List Instr × K) × List Nat // q.1.1.length ≤ n ∧ At b 0 q.2 ∧ some (code, nx6, r6) = preP q.1.1 (listP instrP (n - q.1.1.length) 0 q.2) }) (fun q => n - q.1.1.1.length) (fun q => [(0, .ptr (some (k, 0))), (2, .ptr (some (i2, 0))), (3, .ptr (some (i3, 0))), (42, .int .i64 (n : Int)), (43, .int .i64 (q.1.1.1.length : Int))])
    (fun q => rdB k b (b.length - q.1.2.length) 0 :: (i3, .cells [.str name, .slice (some (ir, 0)) regs.length (.ex regs.length), .int .i64 (slots : Int), .slice (some (ic, 0)) consts.length (.ex consts.length), (gS q.1.1.2 q.1.1.1).v, .slice none 0 (.ex 0)] 26 _ true) :: _ :: _ :: _ :: (gD Instr.cs 54 2 q.1.1.2 q.1.1.1 ++ [])) ⟨(([], .z), r5), by simp, hA5, by rw [← h6]; exact (preP_nil _).symm⟩ ⟨rfl, rfl, rfl, rfl, rfl⟩ (List.Sublist.refl _) ?_
  rintro ⟨⟨⟨xs, nm⟩, l7⟩, hx, hA7, hinv⟩ ih
  simp only at ih hx hA7 hinv ⊢
  repeat first | (with_reducible first | refine za ?_ | refine zb ?_ | refine zc ?_) | refine ym zr ?_ | refine yn 0 zr ?_ | refine yn 1 zr ?_ | refine yn 2 zr ?_ | refine yn 3 zr ?_ | (refine yo zr ?_; intro _) | (refine yp zr ?_; intro _) | refine yq zr ?_ | refine ys zr ?_ | refine yu zr ?_ | refine yv zr ?_ | (with_reducible first | refine zd ?_ | refine ze ?_ | refine zf ?_ | refine zg ?_ | refine zh ?_ | refine zi ?_ | refine zj ?_ | refine zk ?_ | refine zl ?_) | refine zz zr ?_ | refine zw (by decide +kernel) ?_ | refine zx zr zr zr ?_ | refine zy zr zr ?_ | refine W.condT zr ?_ | refine W.condF zr ?_
  refine W.condP rfl ?_ ?_ <;> intro hlt
  · have hlt : xs.length < n := by omega
    rw [show n - xs.length = (n - xs.length - 1) + 1 by omega] at hinv
    clear hg h6
    cases h8 : numP 9 l7 with
    | none =>
      rw [listP_none _ (by unfold instrP; simp only [h8])] at hinv
      cases hinv
    | some q =>
    obtain ⟨n8, r8⟩ := q
    cases h9 : numP 4096 r8 with
    | none =>
      rw [listP_none _ (by unfold instrP; simp only [h8, h9])] at hinv
      cases hinv
    | some q =>
    obtain ⟨n9, r9⟩ := q
    rw [listP_some (x := (⟨(n8 : Int), (n9 : Int)⟩ : Instr)) (nx1 := 0) (r := r9) _ (by unfold instrP; simp only [h8, h9])] at hinv
    have hA8 := hA7.num h8
    have hA9 := hA8.num h9
    have l8 := numP_len h8
    have l9 := numP_len h9
    have c8 := num_c (V := V) G.G hb hbl hA7.e k 0 9 (by decide)
    have c9 := num_c (V := V) G.G hb hbl hA8.e k 0 4096 (by decide)
    rw [show ((9 : Nat) : Int) = 9 from rfl] at c8
    rw [show ((4096 : Nat) : Int) = 4096 from rfl] at c9
    simp only [h8, h9] at c8 c9
    repeat first | (with_reducible first | refine za ?_ | refine zb ?_ | refine zc ?_) | refine ym zr ?_ | refine yn 0 zr ?_ | refine yn 1 zr ?_ | refine yn 2 zr ?_ | refine yn 3 zr ?_ | (refine yo zr ?_; intro _) | (refine yp zr ?_; intro _) | refine yq zr ?_ | refine ys zr ?_ | refine yu zr ?_ | refine yv zr ?_ | (with_reducible first | refine zd ?_ | refine ze ?_ | refine zf ?_ | refine zg ?_ | refine zh ?_ | refine zi ?_ | refine zj ?_ | refine zk ?_ | refine zl ?_) | refine zz zr ?_ | refine zw (by decide +kernel) ?_ | refine zx zr zr zr ?_ | refine zy zr zr ?_ | refine W.condT zr ?_ | refine W.condF zr ?_
    refine W.drawL _ (i0 := i3) (q := 4) (v := (gS nm xs).v) 1 5 13 (by decide +kernel) tbl tblOk rfl rfl (slv_same _ _) ?_ ?_ ?_
    · clear ih
      show W _ _ _ _ _ [.o false _ [_]] _ _ _ _
      repeat' first | (with_reducible first | refine za ?_ | refine zb ?_ | refine zc ?_) | refine ym zr ?_ | refine yn 0 zr ?_ | refine yn 1 zr ?_ | refine yn 2 zr ?_ | refine yn 3 zr ?_ | (refine yo zr ?_; intro _) | (refine yp zr ?_; intro _) | refine yq zr ?_ | refine ys zr ?_ | refine yu zr ?_ | refine yv zr ?_ | (with_reducible first | refine zd ?_ | refine ze ?_ | refine zf ?_ | refine zg ?_ | refine zh ?_ | refine zi ?_ | refine zj ?_ | refine zk ?_ | refine zl ?_) | refine zz zr ?_ | refine zw (by decide +kernel) ?_ | refine zx zr zr zr ?_ | refine zy zr zr ?_ | (refine W.condP zr ?_ ?_ <;> intro _) | refine W.condT zr ?_ | refine W.condF zr ?_ | (refine W.cond zr ?_ ?_ <;> intro _) | (refine W.gs zr zr zr zr ?_ ?_ <;> intro _) | (refine W.gsB zr zr zr zr ?_ ?_ <;> intro _) | refine W.done zr ?_ | refine W.doneN zr ?_
      exact ⟨rfl, _, _, .tail _ (.head _), rfl, rfl⟩
    · clear ih
      intro j hj1 hj2
      rcases (by omega : j = 5 ∨ j = 6 ∨ j = 7 ∨ j = 8 ∨ j = 9 ∨ j = 10 ∨ j = 11 ∨ j = 12 ∨ j = 13) with rfl | rfl | rfl | rfl | rfl | rfl | rfl | rfl | rfl
      all_goals first | show W _ _ _ _ _ [.o false _ [_, _, _, _, _]] _ _ _ _ | show W _ _ _ _ _ [.o false _ [_, _, _, _, _, _]] _ _ _ _ | show W _ _ _ _ _ [.o false _ [_, _, _, _, _, _, _]] _ _ _ _ | show W _ _ _ _ _ [.o false _ [_, _, _, _, _, _, _, _]] _ _ _ _ | show W _ _ _ _ _ [.o false _ [_, _, _, _, _, _, _, _, _]] _ _ _ _ | show W _ _ _ _ _ [.o false _ [_, _, _, _, _, _, _, _, _, _]] _ _ _ _ | show W _ _ _ _ _ [.o false _ [_, _, _, _, _, _, _, _, _, _, _]] _ _ _ _ | show W _ _ _ _ _ [.o false _ [_, _, _, _, _, _, _, _, _, _, _, _]] _ _ _ _ | show W _ _ _ _ _ [.o false _ [_, _, _, _, _, _, _, _, _, _, _, _, _]] _ _ _ _
      all_goals (
        repeat' first | refine W.callB rfl rfl rfl rfl c8 ?_ | refine W.callB rfl rfl rfl rfl c9 ?_ | (refine W.bsl tblOk rfl rfl rfl rfl (by decide) rfl rfl rfl ?_; intro _) | (with_reducible first | refine za ?_ | refine zb ?_ | refine zc ?_) | refine ym zr ?_ | refine yn 0 zr ?_ | refine yn 1 zr ?_ | refine yn 2 zr ?_ | refine yn 3 zr ?_ | (refine yo zr ?_; intro _) | (refine yp zr ?_; intro _) | refine yq zr ?_ | refine ys zr ?_ | refine yu zr ?_ | refine yv zr ?_ | (with_reducible first | refine zd ?_ | refine ze ?_ | refine zf ?_ | refine zg ?_ | refine zh ?_ | refine zi ?_ | refine zj ?_ | refine zk ?_ | refine zl ?_) | refine zz zr ?_ | refine zw (by decide +kernel) ?_ | refine zx zr zr zr ?_ | refine zy zr zr ?_ | (refine W.condP zr ?_ ?_ <;> intro _) | refine W.condT zr ?_ | refine W.condF zr ?_ | (refine W.cond zr ?_ ?_ <;> intro _) | (refine W.gs zr zr zr zr ?_ ?_ <;> intro _) | (refine W.gsB zr zr zr zr ?_ ?_ <;> intro _) | refine W.done zr ?_ | refine W.doneN zr ?_
        first | exact ⟨_, _, .tail _ (.head _), rfl, rfl⟩ | exact ⟨_, _, .tail _ (.tail _ (.head _)), rfl, rfl⟩)
    repeat first | refine W.callB rfl rfl rfl rfl c8 ?_ | refine W.callB rfl rfl rfl rfl c9 ?_ | (refine W.bsl tblOk rfl rfl rfl rfl (by decide) rfl rfl rfl ?_; intro _) | (with_reducible first | refine za ?_ | refine zb ?_ | refine zc ?_) | refine ym zr ?_ | refine yn 0 zr ?_ | refine yn 1 zr ?_ | refine yn 2 zr ?_ | refine yn 3 zr ?_ | (refine yo zr ?_; intro _) | (refine yp zr ?_; intro _) | refine yq zr ?_ | refine ys zr ?_ | refine yu zr ?_ | refine yv zr ?_ | (with_reducible first | refine zd ?_ | refine ze ?_ | refine zf ?_ | refine zg ?_ | refine zh ?_ | refine zi ?_ | refine zj ?_ | refine zk ?_ | refine zl ?_) | refine zz zr ?_ | refine zw (by decide +kernel) ?_ | refine zx zr zr zr ?_ | refine zy zr zr ?_ | refine W.condT zr ?_ | refine W.condF zr ?_
    rw [w8 (n := (n8 : Int)) (by omega) (by omega)]
    refine W.appG (i := nm) (l := xs) (m := [(⟨(n8 : Int), (n9 : Int)⟩ : Instr)]) (enc := Instr.cs) (Δ1 := [_, _, _, _, _, _]) tblOk rfl rfl rfl rfl rfl rfl rfl (by decide) (by simp only [List.length_singleton]; omega) (fun _ => rfl) (src_own (p := 0) rfl rfl rfl) (fun h => by cases h) (leaf_all _ leafX _) rfl rfl fun i' => ?_
    have hnext := ih ⟨((xs ++ [(⟨(n8 : Int), (n9 : Int)⟩ : Instr)], i'), r9), by simp; omega, hA9, by
      show _ = preP (xs ++ [(⟨(n8 : Int), (n9 : Int)⟩ : Instr)]) (listP instrP (n - (xs ++ [(⟨(n8 : Int), (n9 : Int)⟩ : Instr)]).length) 0 r9)
      rw [show n - (xs ++ [(⟨(n8 : Int), (n9 : Int)⟩ : Instr)]).length = n - xs.length - 1 by simp; omega]
      exact hinv⟩ (by show n - (xs ++ [_]).length < n - xs.length; simp; omega)
    simp only at hnext
    clear ih
    have ew : IntKind.i64.wrap ((xs.length : Int) + 1) = (((xs ++ [(⟨(n8 : Int), (n9 : Int)⟩ : Instr)]).length : Nat) : Int) := by rw [w64 (by omega) (by omega)]; simp
    repeat first | (with_reducible first | refine za ?_ | refine zb ?_ | refine zc ?_) | refine ym zr ?_ | refine yn 0 zr ?_ | refine yn 1 zr ?_ | refine yn 2 zr ?_ | refine yn 3 zr ?_ | (refine yo zr ?_; intro _) | (refine yp zr ?_; intro _) | refine yq zr ?_ | refine ys zr ?_ | refine yu zr ?_ | refine yv zr ?_ | (with_reducible first | refine zd ?_ | refine ze ?_ | refine zf ?_ | refine zg ?_ | refine zh ?_ | refine zi ?_ | refine zj ?_ | refine zk ?_ | refine zl ?_) | refine zz zr ?_ | refine zw (by decide +kernel) ?_ | refine zx zr zr zr ?_ | refine zy zr zr ?_ | refine W.condT zr ?_ | refine W.condF zr ?_
    refine W.fr2 ?_
    refine W.weak _ _ ?_ ?_ hnext
    · exact ⟨rfl, rfl, rfl, rfl, congrArg (fun x => some (AV.int .i64 x)) ew⟩
    · exact .cons_cons _ (.cons_cons _ (.cons _ (List.Sublist.refl _)))
  clear ih
  have hxn : xs.length = n := by omega
  rw [hxn, Nat.sub_self] at hinv
  simp only [listP, preP, List.append_nil] at hinv
  injection hinv with hinv; injection hinv with e1 hinv; injection hinv with e2 e3
  subst e1; subst e2; subst e3
  cases h7 : numP 12 r6 with
  | none => rw [h7] at hg; cases hg
  | some q =>
  obtain ⟨m, r7⟩ := q
  simp only [h7] at hg
  have hA8 := hA6.num h7
  have hml := numP_len h7
  have c7 := num_c (V := V) G.G hb hbl hA6.e k 0 12 (by decide)
  rw [show ((12 : Nat) : Int) = 12 from rfl] at c7
  simp only [h7] at c7
  cases h8 : listP (stateP code) m 0 r7 with
  | none => rw [h8] at hg; cases hg
  | some q =>
  obtain ⟨sts0, nx8, r8⟩ := q
  simp only [h8] at hg
  by_cases hr8 : r8 = []
  case neg => rw [if_neg hr8] at hg; cases hg
  rw [if_pos hr8] at hg
  injection hg with hg
  repeat first | (with_reducible first | refine za ?_ | refine zb ?_ | refine zc ?_) | refine ym zr ?_ | refine yn 0 zr ?_ | refine yn 1 zr ?_ | refine yn 2 zr ?_ | refine yn 3 zr ?_ | (refine yo zr ?_; intro _) | (refine yp zr ?_; intro _) | refine yq zr ?_ | refine ys zr ?_ | refine yu zr ?_ | refine yv zr ?_ | (with_reducible first | refine zd ?_ | refine ze ?_ | refine zf ?_ | refine zg ?_ | refine zh ?_ | refine zi ?_ | refine zj ?_ | refine zk ?_ | refine zl ?_) | refine zz zr ?_ | refine zw (by decide +kernel) ?_ | refine zx zr zr zr ?_ | refine zy zr zr ?_ | refine W.condT zr ?_ | refine W.condF zr ?_
  refine W.callB rfl rfl rfl rfl c7 ?_
  repeat first | (with_reducible first | refine za ?_ | refine zb ?_ | refine zc ?_) | refine ym zr ?_ | refine yn 0 zr ?_ | refine yn 1 zr ?_ | refine yn 2 zr ?_ | refine yn 3 zr ?_ | (refine yo zr ?_; intro _) | (refine yp zr ?_; intro _) | refine yq zr ?_ | refine ys zr ?_ | refine yu zr ?_ | refine yv zr ?_ | (with_reducible first | refine zd ?_ | refine ze ?_ | refine zf ?_ | refine zg ?_ | refine zh ?_ | refine zi ?_ | refine zj ?_ | refine zk ?_ | refine zl ?_) | refine zz zr ?_ | refine zw (by decide +kernel) ?_ | refine zx zr zr zr ?_ | refine zy zr zr ?_ | refine W.condT zr ?_ | refine W.condF zr ?_
  rw [room_cs, room_cs]
  obtain ⟨D1, hD1, q1, q2, q3⟩ : ∃ D1 : Dm, D1 = (ic, .cells (consts.flatMap iC) 2 1 true) :: (ir, .cells (regs.flatMap iC) 2 1 true) :: (gD Instr.cs 54 2 nm code ++ []) ∧ RowIn D1 iC 2 1 ⟨some (ir, 0), .ex regs.length, regs⟩ ∧ RowIn D1 iC 2 1 ⟨some (ic, 0), .ex consts.length, consts⟩ ∧ RowIn D1 Instr.cs 54 2 (gS nm code) :=
    ⟨_, rfl, .inr ⟨ir, true, rfl, .tail _ (.head _)⟩, .inr ⟨ic, true, rfl, .head _⟩, gS_in fun z hz => .tail _ (.tail _ (List.mem_append_left _ hz))⟩
  refine W.fr4 ?_
  refine W.fr2 ?_
  refine W.fr2 ?_
  refine W.perm (_ :: _ :: _ :: ((ic, .cells (consts.flatMap iC) 2 1 true) :: (ir, .cells (regs.flatMap iC) 2 1 true) :: (gD Instr.cs 54 2 nm code ++ []))) (List.Perm.refl _) ?_
  rw [← hD1]
  clear hD1 c2 c3 c4 c5 c7 ht
  have q4 : (gS nm code).l = code := gS_l _ _
  generalize gS nm code = s3 at q3 q4 ⊢
  refine W.loopR (α := { q : (List (Sl Guard) × List (Sl Guard)) × (K × Dm) × Int × List Nat // q.1.1.length ≤ m ∧ q.1.2.length = q.1.1.length ∧ (∀ k (h1 : k < q.1.2.length) (h2 : k < q.1.1.length), CpS q.2.1.2 q.1.2[k] q.1.1[k]) ∧ At b q.2.2.1 q.2.2.2 ∧ some (sts0, nx8, r8) = preP q.1.1 (listP (stateP code) (m - q.1.1.length) q.2.2.1 q.2.2.2) }) (fun q => m - q.1.1.1.length) (fun q => [(0, .ptr (some (k, 0))), (2, .ptr (some (i2, 0))), (3, .ptr (some (i3, 0))), (64, .int .i64 (m : Int)), (65, .int .i64 (q.1.1.1.length : Int))])
    (fun q => rdB k b (b.length - q.1.2.2.2.length) q.1.2.2.1 :: (i3, .cells [.str name, .slice (some (ir, 0)) regs.length (.ex regs.length), .int .i64 (slots : Int), .slice (some (ic, 0)) consts.length (.ex consts.length), s3.v, (gS q.1.2.1.1 q.1.1.2).v] 26 _ true) :: _ :: (gD slC 58 1 q.1.2.1.1 q.1.1.2 ++ (q.1.2.1.2 ++ D1))) ⟨(([], []), (.z, []), 0, r7), by simp, rfl, fun k h1 => by simp at h1, hA8, by rw [← h8]; exact (preP_nil _).symm⟩ ⟨rfl, rfl, rfl, rfl, rfl⟩ (List.Sublist.refl _) ?_
  rintro ⟨⟨⟨ys, sts⟩, ⟨nm1, Dn⟩, nx9, l9⟩, hy1, hy2, hy3, hA9, hinv⟩ ih
  simp only at ih hy1 hy2 hy3 hA9 hinv ⊢
  repeat first | (with_reducible first | refine za ?_ | refine zb ?_ | refine zc ?_) | refine ym zr ?_ | refine yn 0 zr ?_ | refine yn 1 zr ?_ | refine yn 2 zr ?_ | refine yn 3 zr ?_ | (refine yo zr ?_; intro _) | (refine yp zr ?_; intro _) | refine yq zr ?_ | refine ys zr ?_ | refine yu zr ?_ | refine yv zr ?_ | (with_reducible first | refine zd ?_ | refine ze ?_ | refine zf ?_ | refine zg ?_ | refine zh ?_ | refine zi ?_ | refine zj ?_ | refine zk ?_ | refine zl ?_) | refine zz zr ?_ | refine zw (by decide +kernel) ?_ | refine zx zr zr zr ?_ | refine zy zr zr ?_ | refine W.condT zr ?_ | refine W.condF zr ?_
  refine W.condP rfl ?_ ?_ <;> intro hlt2
  rotate_left
  · clear ih
    have hxn : ys.length = m := by omega
    rw [hxn, Nat.sub_self] at hinv
    simp only [listP, preP, List.append_nil] at hinv
    injection hinv with hinv; injection hinv with e1 hinv; injection hinv with e2 e3
    subst e1; subst e2; subst e3
    subst hr8
    repeat' first | (refine W.callM rfl rfl rfl rfl (must_c G.G.must _ _) (by decide +kernel) ?_ ?_ <;> intro hm_ <;> (try simp only [decide_eq_true_eq, decide_eq_false_iff_not, Bool.true_eq_false, Bool.false_eq_true] at hm_)) | (with_reducible first | refine za ?_ | refine zb ?_ | refine zc ?_) | refine ym zr ?_ | refine yn 0 zr ?_ | refine yn 1 zr ?_ | refine yn 2 zr ?_ | refine yn 3 zr ?_ | (refine yo zr ?_; intro _) | (refine yp zr ?_; intro _) | refine yq zr ?_ | refine ys zr ?_ | refine yu zr ?_ | refine yv zr ?_ | (with_reducible first | refine zd ?_ | refine ze ?_ | refine zf ?_ | refine zg ?_ | refine zh ?_ | refine zi ?_ | refine zj ?_ | refine zk ?_ | refine zl ?_) | refine zz zr ?_ | refine zw (by decide +kernel) ?_ | refine zx zr zr zr ?_ | refine zy zr zr ?_ | (refine W.condP zr ?_ ?_ <;> intro _) | refine W.condT zr ?_ | refine W.condF zr ?_ | (refine W.cond zr ?_ ?_ <;> intro _) | (refine W.gs zr zr zr zr ?_ ?_ <;> intro _) | (refine W.gsB zr zr zr zr ?_ ?_ <;> intro _) | refine W.done zr ?_ | refine W.doneN zr ?_
    · refine W.doneC tblOk (.cell 0 rfl rfl rfl rfl .nil) ?_
      refine ⟨⟨name, ⟨some (ir, 0), .ex regs.length, regs⟩, slots, ⟨some (ic, 0), .ex consts.length, consts⟩, s3, gS nm1 sts⟩, rfl, ?_⟩
      rw [← hg]
      have hgl := gS_l nm1 sts
      refine ⟨rfl, rfl, ⟨rfl, q1.mono ?_⟩, ⟨rfl, q2.mono ?_⟩, ⟨q4, q3.mono ?_⟩, ?_⟩
      · intro z hz; simp [hz]
      · intro z hz; simp [hz]
      · intro z hz; simp [hz]
      · refine ⟨by show (gS nm1 sts).l.length = sts0.length; rw [hgl, hy2], gS_in fun z hz => by simp [hz], ?_⟩
        show ∀ i (h1 : i < (gS nm1 sts).l.length) (h2 : i < sts0.length), CpS _ (gS nm1 sts).l[i] sts0[i]
        rw [hgl]
        exact fun k h1 h2 => (hy3 k h1 h2).mono fun z hz => by simp [hz]
    · exfalso
      simp at hm_
  have hlt2 : ys.length < m := by omega
  rw [show m - ys.length = (m - ys.length - 1) + 1 by omega] at hinv
  have hmem := preP_mem hinv
  cases hs1 : numP 12 l9 with
  | none =>
    rw [listP_none _ (by unfold stateP; simp only [hs1])] at hinv
    cases hinv
  | some q =>
  obtain ⟨c, l10⟩ := q
  cases hs2 : listP (guardP code) c nx9 l10 with
  | none =>
    rw [listP_none _ (by unfold stateP; simp only [hs1, hs2])] at hinv
    cases hinv
  | some q =>
  obtain ⟨gz, nxg, rg⟩ := q
  rw [listP_some (x := mkS gz) (nx1 := nxg) (r := rg) _ (by unfold stateP; simp only [hs1, hs2])] at hinv
  have hA10 := hA9.num hs1
  have hcl2 := numP_len hs1
  have hAg := fair_list (fair_guard code) c hA10 hs2
  have k1 := num_c (V := V) G.G hb hbl hA9.e k nx9 12 (by decide)
  rw [show ((12 : Nat) : Int) = 12 from rfl] at k1
  simp only [hs1] at k1
  subst hg
  have hcp : ∀ (A B : K × Bk) (T : Dm), CpT (A :: B :: (T ++ (gD slC 58 1 nm1 sts ++ (Dn ++ D1)))) ⟨name, ⟨some (ir, 0), .ex regs.length, regs⟩, slots, ⟨some (ic, 0), .ex consts.length, consts⟩, s3, gS nm1 sts⟩ (Table.upto ⟨name, mkS regs, slots, mkS consts, mkS code, mkS sts0⟩ ys) := fun A B T => by
    have hgl := gS_l nm1 sts
    refine ⟨rfl, rfl, ⟨rfl, q1.mono ?_⟩, ⟨rfl, q2.mono ?_⟩, ⟨q4, q3.mono ?_⟩, ?_⟩
    · intro z hz; simp [hz]
    · intro z hz; simp [hz]
    · intro z hz; simp [hz]
    · refine ⟨by show (gS nm1 sts).l.length = ys.length; rw [hgl, hy2], gS_in fun z hz => by simp [hz], ?_⟩
      show ∀ i (h1 : i < (gS nm1 sts).l.length) (h2 : i < ys.length), CpS _ (gS nm1 sts).l[i] ys[i]
      rw [hgl]
      exact fun k h1 h2 => (hy3 k h1 h2).mono fun z hz => by simp [hz]
  have hnum := hnum.upto hmem (by omega)
  repeat first | refine W.callB rfl rfl rfl rfl k1 ?_ | (with_reducible first | refine za ?_ | refine zb ?_ | refine zc ?_) | refine ym zr ?_ | refine yn 0 zr ?_ | refine yn 1 zr ?_ | refine yn 2 zr ?_ | refine yn 3 zr ?_ | (refine yo zr ?_; intro _) | (refine yp zr ?_; intro _) | refine yq zr ?_ | refine ys zr ?_ | refine yu zr ?_ | refine yv zr ?_ | (with_reducible first | refine zd ?_ | refine ze ?_ | refine zf ?_ | refine zg ?_ | refine zh ?_ | refine zi ?_ | refine zj ?_ | refine zk ?_ | refine zl ?_) | refine zz zr ?_ | refine zw (by decide +kernel) ?_ | refine zx zr zr zr ?_ | refine zy zr zr ?_ | refine W.condT zr ?_ | refine W.condF zr ?_
  refine W.loopR (α := { q : (List Guard × List Guard) × (K × Dm) × Int × List Nat // q.1.1.length ≤ c ∧ q.1.2.length = q.1.1.length ∧ (∀ k (h1 : k < q.1.2.length) (h2 : k < q.1.1.length), CpG q.2.1.2 q.1.2[k] q.1.1[k]) ∧ At b q.2.2.1 q.2.2.2 ∧ some (gz, nxg, rg) = preP q.1.1 (listP (guardP code) (c - q.1.1.length) q.2.2.1 q.2.2.2) }) (fun q => c - q.1.1.1.length) (fun q => [(0, .ptr (some (k, 0))), (2, .ptr (some (i2, 0))), (3, .ptr (some (i3, 0))), (64, .int .i64 (m : Int)), (65, .int .i64 (ys.length : Int)), (7, (gS q.1.2.1.1 q.1.1.2).v), (70, .int .i64 (c : Int)), (71, .int .i64 (q.1.1.1.length : Int))])
    (fun q => rdB k b (b.length - q.1.2.2.2.length) q.1.2.2.1 :: _ :: _ :: (gD Guard.cs 57 5 q.1.2.1.1 q.1.1.2 ++ (q.1.2.1.2 ++ (gD slC 58 1 nm1 sts ++ (Dn ++ D1))))) ⟨(([], []), (.z, []), nx9, l10), by simp, rfl, fun k h1 => by simp at h1, hA10, by rw [← hs2]; exact (preP_nil _).symm⟩ ⟨rfl, rfl, rfl, rfl, rfl, rfl, rfl, rfl⟩ (List.Sublist.refl _) ?_
  rintro ⟨⟨⟨ys2, gs⟩, ⟨nm2, D2⟩, nx11, l11⟩, hz1, hz2, hz3, hA11, hinv2⟩ ih2
  simp only at ih2 hz1 hz2 hz3 hA11 hinv2 ⊢
  repeat first | (with_reducible first | refine za ?_ | refine zb ?_ | refine zc ?_) | refine ym zr ?_ | refine yn 0 zr ?_ | refine yn 1 zr ?_ | refine yn 2 zr ?_ | refine yn 3 zr ?_ | (refine yo zr ?_; intro _) | (refine yp zr ?_; intro _) | refine yq zr ?_ | refine ys zr ?_ | refine yu zr ?_ | refine yv zr ?_ | (with_reducible first | refine zd ?_ | refine ze ?_ | refine zf ?_ | refine zg ?_ | refine zh ?_ | refine zi ?_ | refine zj ?_ | refine zk ?_ | refine zl ?_) | refine zz zr ?_ | refine zw (by decide +kernel) ?_ | refine zx zr zr zr ?_ | refine zy zr zr ?_ | refine W.condT zr ?_ | refine W.condF zr ?_
  refine W.condP rfl ?_ ?_ <;> intro hlt3
  rotate_left
  · clear ih2
    have hxn : ys2.length = c := by omega
    rw [hxn, Nat.sub_self] at hinv2
    simp only [listP, preP, List.append_nil] at hinv2
    injection hinv2 with hinv2; injection hinv2 with e1 hinv2; injection hinv2 with e2 e3
    subst e1; subst e2; subst e3
    repeat first | (refine W.bsl tblOk rfl rfl rfl rfl (by decide) rfl rfl rfl ?_; intro _) | (with_reducible first | refine za ?_ | refine zb ?_ | refine zc ?_) | refine ym zr ?_ | refine yn 0 zr ?_ | refine yn 1 zr ?_ | refine yn 2 zr ?_ | refine yn 3 zr ?_ | (refine yo zr ?_; intro _) | (refine yp zr ?_; intro _) | refine yq zr ?_ | refine ys zr ?_ | refine yu zr ?_ | refine yv zr ?_ | (with_reducible first | refine zd ?_ | refine ze ?_ | refine zf ?_ | refine zg ?_ | refine zh ?_ | refine zi ?_ | refine zj ?_ | refine zk ?_ | refine zl ?_) | refine zz zr ?_ | refine zw (by decide +kernel) ?_ | refine zx zr zr zr ?_ | refine zy zr zr ?_ | refine W.condT zr ?_ | refine W.condF zr ?_
    refine W.sw2 [_, _, _, _] (gD Guard.cs 57 5 nm2 gs) D2 (gD slC 58 1 nm1 sts) (Dn ++ D1) ?_
    refine W.appG (i := nm1) (l := sts) (m := [gS nm2 gs]) (enc := slC) (Δ1 := [_, _, _, _]) tblOk rfl rfl rfl rfl rfl rfl rfl (by decide) (by simp only [List.length_singleton]; omega) (fun _ => rfl) (src_own (p := 0) rfl rfl rfl) (fun h => by cases h) (leaf_all _ leafS _) rfl rfl fun n5 => ?_
    have hnext := ih ⟨((ys ++ [mkS gz], sts ++ [gS nm2 gs]), (n5, gD Guard.cs 57 5 nm2 gs ++ (D2 ++ Dn)), nxg, rg), by simp; omega, by simp [hy2], snoc_all2 (R := CpS (gD Guard.cs 57 5 nm2 gs ++ (D2 ++ Dn))) hy2 (fun k h1 h2 => (hy3 k h1 h2).mono fun z hz => by simp [hz]) (CpS.mk' (gS_l nm2 gs) hz2 (gS_in fun z hz => by simp [hz]) fun k h1 h2 => (hz3 k h1 h2).mono fun z hz => by simp [hz]), hAg, by
      show _ = preP (ys ++ [mkS gz]) (listP (stateP code) (m - (ys ++ [mkS gz]).length) nxg rg)
      rw [show m - (ys ++ [mkS gz]).length = m - ys.length - 1 by simp; omega]
      exact hinv⟩ (by show m - (ys ++ [mkS gz]).length < m - ys.length; simp; omega)
    simp only at hnext
    clear ih
    have ew : IntKind.i64.wrap ((ys.length : Int) + 1) = (((ys ++ [mkS gz]).length : Nat) : Int) := by rw [w64 (by omega) (by omega)]; simp
    repeat first | (with_reducible first | refine za ?_ | refine zb ?_ | refine zc ?_) | refine ym zr ?_ | refine yn 0 zr ?_ | refine yn 1 zr ?_ | refine yn 2 zr ?_ | refine yn 3 zr ?_ | (refine yo zr ?_; intro _) | (refine yp zr ?_; intro _) | refine yq zr ?_ | refine ys zr ?_ | refine yu zr ?_ | refine yv zr ?_ | (with_reducible first | refine zd ?_ | refine ze ?_ | refine zf ?_ | refine zg ?_ | refine zh ?_ | refine zi ?_ | refine zj ?_ | refine zk ?_ | refine zl ?_) | refine zz zr ?_ | refine zw (by decide +kernel) ?_ | refine zx zr zr zr ?_ | refine zy zr zr ?_ | refine W.condT zr ?_ | refine W.condF zr ?_
    refine W.fr2 ?_
    refine W.weak _ _ ?_ ?_ hnext
    · exact ⟨rfl, rfl, rfl, rfl, congrArg (fun x => some (AV.int .i64 x)) ew⟩
    · show List.Sublist (_ :: _ :: _ :: (gD slC 58 1 n5 (sts ++ [gS nm2 gs]) ++ ((gD Guard.cs 57 5 nm2 gs ++ (D2 ++ Dn)) ++ D1))) _
      rw [List.append_assoc, List.append_assoc]
      exact .cons_cons _ (.cons_cons _ (.cons _ (List.Sublist.refl _)))
  clear ih
  have hlt3 : ys2.length < c := by omega
  rw [show c - ys2.length = (c - ys2.length - 1) + 1 by omega] at hinv2
  cases hg3 : guardP code nx11 l11 with
  | none =>
    rw [listP_none _ hg3] at hinv2
    cases hinv2
  | some q =>
  obtain ⟨yg, nx12, l12⟩ := q
  rw [listP_some _ hg3] at hinv2
  have hA12 := fair_guard code hA11 hg3
  repeat first | (with_reducible first | refine za ?_ | refine zb ?_ | refine zc ?_) | refine ym zr ?_ | refine yn 0 zr ?_ | refine yn 1 zr ?_ | refine yn 2 zr ?_ | refine yn 3 zr ?_ | (refine yo zr ?_; intro _) | (refine yp zr ?_; intro _) | refine yq zr ?_ | refine ys zr ?_ | refine yu zr ?_ | refine yv zr ?_ | (with_reducible first | refine zd ?_ | refine ze ?_ | refine zf ?_ | refine zg ?_ | refine zh ?_ | refine zi ?_ | refine zj ?_ | refine zk ?_ | refine zl ?_) | refine zz zr ?_ | refine zw (by decide +kernel) ?_ | refine zx zr zr zr ?_ | refine zy zr zr ?_ | refine W.condT zr ?_ | refine W.condF zr ?_
  refine W.know fun hva hnd => ?_
  have hcq := hcp (i3, .cells [.str name, .slice (some (ir, 0)) regs.length (.ex regs.length), .int .i64 (slots : Int), .slice (some (ic, 0)) consts.length (.ex consts.length), s3.v, (gS nm1 sts).v] 26 6 true) (i2, .cells [.str [], .slice none 0 (.ex 0), .int .i64 0, .slice none 0 (.ex 0), .slice none 0 (.ex 0), .slice none 0 (.ex 0)] 26 6 true) (gD Guard.cs 57 5 nm2 gs ++ D2)
  rw [List.append_assoc] at hcq
  have hok := hcq.okN (V := V) hnum (List.nodup_cons.1 hnd).2
  have hgc := rguard_c G hC hb hl hA11 k hok (y := yg) (nx9 := nx12) (r9 := l12) (by show guardP s3.l nx11 l11 = _; rw [q4]; exact hg3)
  refine W.callH (Δ := [_]) (R := _ :: _ :: (gD Guard.cs 57 5 nm2 gs ++ (D2 ++ (gD slC 58 1 nm1 sts ++ (Dn ++ D1))))) rfl rfl rfl rfl hgc ?_ ?_
  · rintro v Δ' ⟨x, D, h0, -⟩
    cases h0
  rintro v Δ' ⟨x, D, h0, hcx, rfl⟩
  injection h0 with h0; subst h0
  refine W.perm _ (perm_g _ _ _ _ _ _ _) ?_
  repeat first | (refine W.bsl tblOk rfl rfl rfl rfl (by decide) rfl rfl rfl ?_; intro _) | (with_reducible first | refine za ?_ | refine zb ?_ | refine zc ?_) | refine ym zr ?_ | refine yn 0 zr ?_ | refine yn 1 zr ?_ | refine yn 2 zr ?_ | refine yn 3 zr ?_ | (refine yo zr ?_; intro _) | (refine yp zr ?_; intro _) | refine yq zr ?_ | refine ys zr ?_ | refine yu zr ?_ | refine yv zr ?_ | (with_reducible first | refine zd ?_ | refine ze ?_ | refine zf ?_ | refine zg ?_ | refine zh ?_ | refine zi ?_ | refine zj ?_ | refine zk ?_ | refine zl ?_) | refine zz zr ?_ | refine zw (by decide +kernel) ?_ | refine zx zr zr zr ?_ | refine zy zr zr ?_ | refine W.condT zr ?_ | refine W.condF zr ?_
  refine W.appG (i := nm2) (l := gs) (m := [x]) (enc := Guard.cs) (Δ1 := [_, _, _, _]) tblOk rfl rfl rfl rfl rfl rfl rfl (by decide) (by simp only [List.length_singleton]; omega) (fun _ => rfl) (src_own (p := 0) rfl rfl rfl) (fun h => by cases h) (leaf_all _ leafG _) rfl rfl fun n6 => ?_
  have hnext := ih2 ⟨((ys2 ++ [yg], gs ++ [x]), (n6, D ++ D2), nx12, l12), by simp; omega, by simp [hz2], snoc_all2 (R := CpG (D ++ D2)) hz2 (fun k h1 h2 => (hz3 k h1 h2).mono fun z hz => by simp [hz]) (hcx.mono fun z hz => by simp [hz]), hA12, by
    show _ = preP (ys2 ++ [yg]) (listP (guardP code) (c - (ys2 ++ [yg]).length) nx12 l12)
    rw [show c - (ys2 ++ [yg]).length = c - ys2.length - 1 by simp; omega]
    exact hinv2⟩ (by show c - (ys2 ++ [yg]).length < c - ys2.length; simp; omega)
  simp only at hnext
  clear ih2
  have ew : IntKind.i64.wrap ((ys2.length : Int) + 1) = (((ys2 ++ [yg]).length : Nat) : Int) := by rw [w64 (by omega) (by omega)]; simp
  repeat first | (with_reducible first | refine za ?_ | refine zb ?_ | refine zc ?_) | refine ym zr ?_ | refine yn 0 zr ?_ | refine yn 1 zr ?_ | refine yn 2 zr ?_ | refine yn 3 zr ?_ | (refine yo zr ?_; intro _) | (refine yp zr ?_; intro _) | refine yq zr ?_ | refine ys zr ?_ | refine yu zr ?_ | refine yv zr ?_ | (with_reducible first | refine zd ?_ | refine ze ?_ | refine zf ?_ | refine zg ?_ | refine zh ?_ | refine zi ?_ | refine zj ?_ | refine zk ?_ | refine zl ?_) | refine zz zr ?_ | refine zw (by decide +kernel) ?_ | refine zx zr zr zr ?_ | refine zy zr zr ?_ | refine W.condT zr ?_ | refine W.condF zr ?_
  refine W.weak _ _ ?_ ?_ hnext
  · exact ⟨rfl, rfl, rfl, rfl, rfl, rfl, rfl, congrArg (fun x => some (AV.int .i64 x)) ew⟩
  · exact .cons _ (List.Sublist.refl _)
end Go.Proofs.Ythkkphkeonnnfaa.Abs
