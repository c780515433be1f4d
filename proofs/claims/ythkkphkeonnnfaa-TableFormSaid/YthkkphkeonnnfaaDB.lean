/- Rows with room: made, appended to, cut. No condition but those that each theorem names. -/
import Derived.Test.YthkkphkeonnnfaaDA
import Derived.Test.YthkkphkeonnnfaaTC
import Derived.Test.YthkkphkeonnnfaaWW
namespace Go.Proofs.Ythkkphkeonnnfaa.Abs
open Go
set_option linter.unusedVariables false
set_option linter.unusedSimpArgs false
set_option maxRecDepth 100000
set_option maxHeartbeats 4000000
section
variable {P : Program} {g : Cg} {n : Nat} {V : K → Option (List AV)} {rs : List ResultVar} {st : List Fr} {Γ : Gm} {Δ : Dm} {Q : RO → Dm → Prop} {b : Bool} {all rest : List Oper} {ty : TypeId} {pos : String} {after : Array Edge} {gd : Option (Nat × Bool)} {d : Nat} {x y : Operand} {tb : T TI}
variable {t u el eu sz by_ m len cap : Nat} {z w : AV} {zl news : List AV} {td : TD} {z1 z1' z5 : Bool} {z2 z3 z2' z6 : Nat} {z4 z4' : Option AV}
/-- A row is made. -/
theorem W.mkS (hT : TabOk P tb) {kl kc : IntKind} (hl : eg Γ x = some (.int kl (len : Int))) (hc : eg Γ y = some (.int kc (cap : Int))) (ht : ti tb t = some ⟨.sl el, z1, z2, z3, z4⟩) (he : ti tb el = some ⟨td, z5, sz, by_, some z⟩) (hz : partsO z = some zl)
    (hle : len ≤ cap) (hb : by_ * cap ≤ 281474976710656 ∧ cap ≤ 9223372036854775807) (hcc : zl.length = sz ∧ 0 < sz)
    (hn : Nat.ble (d + 1) n = true) (hw : wantG all Γ ⟨some d, .makeSlice t x y, ty, pos, after, gd⟩ = some true)
    (h : ∀ i, W P g n V rs (.o b all rest :: st) .nrm ((d, .slice (some (i, 0)) len (.ex cap)) :: Γ) ((i, .cells (repL cap zl) el sz true) :: Δ) Q) : W P g n V rs (.o b all (⟨some d, .makeSlice t x y, ty, pos, after, gd⟩ :: rest) :: st) .nrm Γ Δ Q :=
  W.op hw hn fun F s tm hM hG => ⟨.slice (some (s.nx, 0)) len (.ex cap), newB s (.cells (repL cap zl) el sz true), (s.nx, .cells (repL cap zl) el sz true) :: Δ, ⟨0, fun k _ => by
    obtain ⟨inf, i1, i2, i3⟩ := (hT.get he).info
    show ofP (opMakeSlice P t (ev tm x) (ev tm y) s) = _
    have hz' := partsO_eq hz
    have hif : (0 : Int) ≤ (len : Int) ∧ (len : Int) ≤ (cap : Int) ∧ (cap : Int) ≤ 9223372036854775807 ∧ (by_ : Int) * (cap : Int) ≤ 281474976710656 ∧ zl.length = sz ∧ 0 < sz := by
      refine ⟨by omega, by omega, by omega, ?_, hcc⟩
      have := hb.1
      have e : ((by_ * cap : Nat) : Int) = (by_ : Int) * (cap : Int) := Int.natCast_mul _ _
      omega
    rw [hG.eg hl, hG.eg hc]
    unfold opMakeSlice
    simp only [hT.sl ht, i1, (hT.get he).zero z rfl, hz', i2, i3, Int.toNat_natCast]
    rw [if_pos hif]; rfl⟩, hM.alloc trivial, h s.nx⟩
/-- Into the room of the row that lies in the first block. -/
theorem W.appR (hT : TabOk P tb) {i : K} {k : Nat} {f : Bool} {l l' : List AV} (hx : eg Γ x = some (.slice (some (i, 0)) len (.ex k))) (hy : eg Γ y = some w) (hm : lenA w = some m) (ht : ti tb t = some ⟨.sl el, z1, z2, z3, z4⟩) (hu : ti tb u = some ⟨.sl eu, z1', z2', z6, z4'⟩) (he : ti tb el = some ⟨td, z5, sz, by_, some z⟩) (hz : partsO z = some zl)
    (hc : zl.length = sz ∧ 0 < sz ∧ 0 < by_) (hm0 : 0 < m) (hb : (len + m) * by_ ≤ 140737488355328) (hk : len + m ≤ k) (hset : setLs l (len * sz) news = some l') (hsrc : ∀ F s, Mem V F ((i, .cells l el sz f) :: Δ) s → srcCells sz m w s.hp = some news) (hlf : allLeaf news = true)
    (hn : Nat.ble (d + 1) n = true) (hw : wantG all Γ ⟨some d, .call ⟨.builtin .append, #[x, y], #[t, u]⟩, ty, pos, after, gd⟩ = some true)
    (h : W P g n V rs (.o b all rest :: st) .nrm ((d, .slice (some (i, 0)) (len + m) (.ex k)) :: Γ) ((i, .cells l' el sz f) :: Δ) Q) : W P g n V rs (.o b all (⟨some d, .call ⟨.builtin .append, #[x, y], #[t, u]⟩, ty, pos, after, gd⟩ :: rest) :: st) .nrm Γ ((i, .cells l el sz f) :: Δ) Q :=
  W.op hw hn fun F s tm hM hG => ⟨.slice (some (i, 0)) (len + m) (.ex k), setB s i (.cells l' el sz f), (i, .cells l' el sz f) :: Δ, ⟨0, fun _ _ => by
    obtain ⟨inf, i1, i2, i3⟩ := (hT.get he).info
    have hgt : len + m ≤ 9223372036854775807 := Nat.le_trans (Nat.le_mul_of_pos_right (len + m) hc.2.2) (by omega)
    have hi := hM.own (i, .cells l el sz f) (by simp)
    have key : opAppend P [t, u] (.slice (some (i, 0)) len (.ex k)) w s = some (.slice (some (i, 0)) (len + m) (.ex k), setB s i (.cells l' el sz f)) := by
      have hz' := partsO_eq hz
      have hif : (z.parts.length = inf.size ∧ 0 < inf.size ∧ 0 < inf.bytes ∧ len + m ≤ 9223372036854775807 ∧ (len + m) * inf.bytes ≤ 140737488355328) := by
        rw [hz', i2, i3]; exact ⟨hc.1, hc.2.1, hc.2.2, hgt, hb⟩
      simp only [opAppend, hT.sl ht, hT.sl hu, notInt, hm, i1, (hT.get he).zero z rfl, if_pos hif]
      rw [i2, hsrc F s hM]
      simp only [hlf, if_neg (Nat.pos_iff_ne_zero.1 hm0), hi, if_pos hk, Nat.zero_add, hset]
    have ha : evs tm [x, y] = some [.slice (some (i, 0)) len (.ex k), w] := by
      show cons2 (ev tm x) (cons2 (ev tm y) (some [])) = _
      rw [hG.eg hx, hG.eg hy]; rfl
    show opCall P _ _ tm s = _
    unfold opCall
    show (match Callee.builtin .append, evs tm [x, y] with | .value f, some vs => _ | .builtin b, some vs => opBuiltin P b [t, u] vs s | _, _ => CR.no) = _
    rw [ha]
    show ofP (opAppend P [t, u] _ w s) = _
    rw [key]; rfl⟩, hM.set trivial, h⟩
/-- The first part of a row, with no room behind. -/
theorem cut_all (hT : TabOk P tb) {i : K} {c : Cp} {k k' : IntKind} {a : Nat} (ht : ti tb t = some ⟨.sl el, z1, z2, z3, z4⟩) (he : ti tb el = some ⟨td, z5, sz, by_, z4'⟩) (ha : a ≤ capM c len) : opSlice P t (some (.slice (some (i, 0)) len c)) (some none) (some (some (.int k (a : Int)))) (some (some (.int k' (a : Int)))) = some (.slice (some (i, 0)) a (.ex a)) := by
  have hb : bound1 (capM c len) 0 (some (.int k' (a : Int))) = some a := by
    show (if 0 ≤ (a : Int) ∧ (a : Int) ≤ (capM c len : Int) then some (a : Int).toNat else none) = _
    rw [if_pos ⟨by omega, by omega⟩]; rfl
  have hb1 : bound1 a 0 (some (.int k (a : Int))) = some a := by
    show (if 0 ≤ (a : Int) ∧ (a : Int) ≤ (a : Int) then some (a : Int).toNat else none) = _
    rw [if_pos ⟨by omega, by omega⟩]; rfl
  have hb2 : bound1 a 0 none = some 0 := rfl
  simp only [opSlice, hT.sl ht, (hT.get he).size, hb, hb1, hb2, if_true]
end
end Go.Proofs.Ythkkphkeonnnfaa.Abs
/- Zag, and the reader's list of numbers with signs. No condition but those that each theorem names. -/
namespace Go.Proofs.Ythkkphkeonnnfaa.Abs
open Go
set_option linter.unusedVariables false
set_option linter.unusedSimpArgs false
set_option maxRecDepth 100000
set_option maxHeartbeats 4000000
/-- A number with its sign. -/
def zagS (n : Nat) : Int := if n % 2 = 0 then ((n / 2 : Nat) : Int) else -((n / 2 : Nat) : Int) - 1
theorem zag_zig {n : Int} : zagS (zigS n).toNat = n := by
  unfold zagS zigS
  split <;> split <;> omega
theorem zig_zag (n : Nat) : (zigS (zagS n)).toNat = n := by
  unfold zagS zigS
  split <;> split <;> omega
theorem zagS_in {n : Nat} (h : n < 18446744073709551616) : In64 (zagS n) := by
  unfold In64 zagS
  split <;> omega
theorem zag_bits {n : Nat} (h : n < 18446744073709551616) : bitI .xor .i64 (IntKind.i64.wrap ((n : Int).fdiv (2 ^ (min (1 : Int).toNat IntKind.u64.bits)))) (IntKind.i64.wrap (0 - (IntKind.i64.wrap (bitI .and .u64 (n : Int) 1)))) = zagS n := by
  have e1 : (2 : Int) ^ (min (1 : Int).toNat IntKind.u64.bits) = 2 := rfl
  have e2 : bitI .and .u64 (n : Int) 1 = ((n % 2 : Nat) : Int) := by
    show IntKind.u64.wrap ((BitVec.ofInt 64 (n : Int) &&& BitVec.ofInt 64 1).toNat : Int) = _
    rw [BitVec.toNat_and, BitVec.ofInt_natCast, BitVec.toNat_ofNat, Nat.mod_eq_of_lt h, show (BitVec.ofInt 64 1).toNat = 1 from rfl, Nat.and_one_is_mod, wrapU64]
    omega
  rw [e1, e2, Int.fdiv_eq_ediv_of_nonneg _ (by decide)]
  rw [show (n : Int) / 2 = ((n / 2 : Nat) : Int) by omega]
  rw [w64 (n := ((n / 2 : Nat) : Int)) (by omega) (by omega), w64 (n := ((n % 2 : Nat) : Int)) (by omega) (by omega)]
  unfold zagS
  have ha : (BitVec.ofInt 64 ((n / 2 : Nat) : Int)).toNat = n / 2 := by
    rw [BitVec.ofInt_natCast, BitVec.toNat_ofNat, Nat.mod_eq_of_lt (by omega)]
  rcases Nat.mod_two_eq_zero_or_one n with h0 | h0
  · rw [h0, if_pos rfl]
    show IntKind.i64.wrap ((BitVec.ofInt 64 ((n / 2 : Nat) : Int) ^^^ BitVec.ofInt 64 0).toNat : Int) = _
    rw [BitVec.toNat_xor, ha, show (BitVec.ofInt 64 0).toNat = 0 from rfl, Nat.xor_zero, w64 (by omega) (by omega)]
  · rw [h0, if_neg (by decide)]
    show IntKind.i64.wrap ((BitVec.ofInt 64 ((n / 2 : Nat) : Int) ^^^ BitVec.ofInt 64 (-1)).toNat : Int) = _
    rw [BitVec.toNat_xor, ha, show (BitVec.ofInt 64 (-1)).toNat = 18446744073709551615 from rfl, xor_all (by omega)]
    have e5 : (((18446744073709551615 - n / 2 : Nat)) : Int) = (-((n / 2 : Nat) : Int) - 1) + 18446744073709551616 := by omega
    rw [e5]
    generalize hm : -((n / 2 : Nat) : Int) - 1 = m
    rw [wrap64]; omega
attribute [local irreducible] W Cl Bd
variable {g : Cg} {V : K → Option (List AV)}
theorem zagW_c (hp : Plain g 84 = true) {n : Nat} (h : n < 18446744073709551616) : Cl Try.prog g V 84 [.int .u64 (n : Int)] [] fun o _ => o = .ret (.int .i64 (zagS n)) := by
  have hz := zag_bits h
  refine Cl.enter hp Try.func84 rfl ?_
  repeat' first | refine W.shl rfl rfl rfl rfl (by decide) ?_ | refine W.shr rfl rfl rfl rfl (by decide) ?_ | (with_reducible first | refine za ?_ | refine zb ?_ | refine zc ?_) | refine ym zr ?_ | refine yn 0 zr ?_ | refine yn 1 zr ?_ | refine yn 2 zr ?_ | refine yn 3 zr ?_ | (refine yo zr ?_; intro _) | (refine yp zr ?_; intro _) | refine yq zr ?_ | refine ys zr ?_ | refine yu zr ?_ | refine yv zr ?_ | (with_reducible first | refine zd ?_ | refine ze ?_ | refine zf ?_ | refine zg ?_ | refine zh ?_ | refine zi ?_ | refine zj ?_ | refine zk ?_ | refine zl ?_) | refine zz zr ?_ | refine zw (by decide +kernel) ?_ | refine zx zr zr zr ?_ | refine zy zr zr ?_ | (refine W.condP zr ?_ ?_ <;> intro _) | refine W.condT zr ?_ | refine W.condF zr ?_ | (refine W.cond zr ?_ ?_ <;> intro _) | (refine W.gs zr zr zr zr ?_ ?_ <;> intro _) | (refine W.gsB zr zr zr zr ?_ ?_ <;> intro _) | refine W.done zr ?_ | refine W.doneN zr ?_
  show RO.ret (AV.int .i64 (bitI .xor .i64 _ _)) = _
  rw [hz]
end Go.Proofs.Ythkkphkeonnnfaa.Abs
/- The reader's list of numbers with signs. No condition but those that each theorem names. -/
namespace Go.Proofs.Ythkkphkeonnnfaa.Abs
open Go
set_option linter.unusedVariables false
set_option linter.unusedSimpArgs false
set_option maxRecDepth 100000
set_option maxHeartbeats 4000000
/-- So many numbers with signs. -/
def manyP : Nat → List Nat → Option (List Int × List Nat)
  | 0, l => some ([], l)
  | k + 1, l => match takeP l with
    | some (n, r) => match manyP k r with
      | some (xs, r') => some (zagS n :: xs, r')
      | none => none
    | none => none
def numP (most : Nat) (l : List Nat) : Option (Nat × List Nat) := match takeP l with
  | some (n, r) => if n ≤ most then some (n, r) else none
  | none => none
def signedP (most : Nat) (l : List Nat) : Option (List Int × List Nat) := match numP most l with
  | some (n, r) => manyP n r
  | none => none
/-- What is left of bytes: an end of them. -/
def EndOf (b r : List Nat) : Prop := b.drop (b.length - r.length) = r ∧ r.length ≤ b.length
theorem EndOf.all (b : List Nat) : EndOf b b := ⟨by simp, Nat.le_refl _⟩
theorem EndOf.take {b l r : List Nat} {n : Nat} (h : EndOf b l) (ht : takeP l = some (n, r)) : EndOf b r := by
  obtain ⟨h1, h2⟩ := takeP_drop ht
  obtain ⟨h3, h4⟩ := h
  refine ⟨?_, by omega⟩
  rw [← h3, List.drop_drop, h3] at h1
  conv => rhs; rw [h1]
  congr 1; omega
theorem EndOf.byte {b l : List Nat} (h : EndOf b l) (hb : ∀ c ∈ b, c < 256) : ∀ c ∈ l, c < 256 := fun c hc => hb c (List.mem_of_mem_drop (by rw [h.1]; exact hc))
theorem numP_take {most n : Nat} {l r : List Nat} (h : numP most l = some (n, r)) : takeP l = some (n, r) ∧ n ≤ most := by
  unfold numP at h
  split at h
  · split at h
    · injection h with h; injection h with h1 h2
      subst h1; subst h2
      exact ⟨by assumption, by assumption⟩
    · cases h
  · cases h
theorem EndOf.num {b l r : List Nat} {most n : Nat} (h : EndOf b l) (ht : numP most l = some (n, r)) : EndOf b r := h.take (numP_take ht).1
theorem manyP_end : ∀ {b : List Nat} (k : Nat) {l r : List Nat} {xs : List Int}, EndOf b l → manyP k l = some (xs, r) → EndOf b r ∧ xs.length = k
  | b, 0, l, r, xs, h, e => by injection e with e; injection e with e1 e2; subst e1; subst e2; exact ⟨h, rfl⟩
  | b, k + 1, l, r, xs, h, e => by
    rw [manyP] at e
    split at e
    · rename_i n q hq
      split at e
      · rename_i ys q' hq'
        injection e with e; injection e with e1 e2; subst e1; subst e2
        obtain ⟨h1, h2⟩ := manyP_end k (h.take hq) hq'
        exact ⟨h1, by simp [h2]⟩
      · cases e
    · cases e
attribute [local irreducible] W Cl Bd
variable {g : Cg} {V : K → Option (List AV)}
/-- The readers' functions. -/
structure ReadG (g : Cg) : Prop where
  num : Plain g 69 = true
  wide : Plain g 85 = true
  must : Plain g 29 = true
  take : Plain g 83 = true
  zag : Plain g 84 = true
/-- cursor.number, told by what is left. -/
theorem num_c (G : ReadG g) {b l : List Nat} (hb : ∀ c ∈ b, c < 256) (hl : b.length ≤ 281474976710656) (hE : EndOf b l) (k : K) (nx : Int) (most : Nat) (hmost : most ≤ 1000000) :
    Cl Try.prog g V 69 [.ptr (some (k, 0)), .int .i64 (most : Int)] [rdB k b (b.length - l.length) nx] fun o Δ => match numP most l with
      | some (n, r) => o = .ret (.int .i64 (n : Int)) ∧ Δ = [rdB k b (b.length - r.length) nx]
      | none => o = .pan (pn 194) ∧ ∃ a, Δ = [rdB k b a nx] := by
  have h := number_c (V := V) G.num G.wide G.must G.take hb hl (at_ := b.length - l.length) (by omega) k nx most hmost
  rw [hE.1] at h
  refine h.mono fun o Δ hq => ?_
  unfold numP
  cases hr : takeP l with
  | none => rw [hr] at hq; exact ⟨hq.1, _, hq.2⟩
  | some q =>
    obtain ⟨n, r⟩ := q
    rw [hr] at hq
    simp only at hq ⊢
    by_cases hn : n ≤ most
    · rw [if_pos hn] at hq ⊢; exact hq
    · rw [if_neg hn] at hq ⊢; exact ⟨hq.1, _, hq.2⟩
theorem wid_c (G : ReadG g) {b l : List Nat} (hb : ∀ c ∈ b, c < 256) (hl : b.length ≤ 281474976710656) (hE : EndOf b l) (k : K) (nx : Int) :
    Cl Try.prog g V 85 [.ptr (some (k, 0))] [rdB k b (b.length - l.length) nx] fun o Δ => match takeP l with
      | some (n, r) => o = .ret (.int .u64 (n : Int)) ∧ Δ = [rdB k b (b.length - r.length) nx]
      | none => o = .pan (pn 194) ∧ ∃ a, Δ = [rdB k b a nx] := by
  have h := wide_c (V := V) G.wide G.must G.take hb hl (at_ := b.length - l.length) (by omega) k nx
  rw [hE.1] at h
  refine h.mono fun o Δ hq => ?_
  cases hr : takeP l with
  | none => rw [hr] at hq; exact ⟨hq.1, _, hq.2⟩
  | some q => rw [hr] at hq; exact hq
theorem repL_one {α : Type} (z : α) : ∀ n : Nat, repL n [z] = List.replicate n z
  | 0 => rfl
  | n + 1 => by show z :: repL n [z] = _; rw [repL_one z n]; rfl
/-- A row with room: the numbers that are there, zeros behind. -/
def roomB (i : K) (xs : List Int) (k : Nat) : K × Bk := (i, .cells (xs.map (AV.int .i64) ++ List.replicate k (.int .i64 0)) 2 1 true)
theorem set_room (xs : List Int) (k : Nat) (v : Int) : setLs (xs.map (AV.int .i64) ++ List.replicate (k + 1) (.int .i64 0)) (xs.length * 1) [.int .i64 v] = some ((xs ++ [v]).map (AV.int .i64) ++ List.replicate k (.int .i64 0)) := by
  rw [setLs_set _ _ _ (by simp), Nat.mul_one]
  congr 1
  rw [List.set_append_right _ _ (by simp), List.length_map, Nat.sub_self, List.replicate_succ, List.set_cons_zero]
  simp
theorem signed_c (G : ReadG g) (hp : Plain g 68 = true) {b l : List Nat} (hb : ∀ c ∈ b, c < 256) (hl : b.length ≤ 281474976710656) (hE : EndOf b l) (k : K) (nx : Int) (most : Nat) (hmost : most ≤ 1000000) :
    Cl Try.prog g V 68 [.ptr (some (k, 0)), .int .i64 (most : Int)] [rdB k b (b.length - l.length) nx] fun o Δ => match signedP most l with
      | some (xs, r) => ∃ i, o = .ret (.slice (some (i, 0)) xs.length (.ex xs.length)) ∧ Δ = [roomB i xs 0, rdB k b (b.length - r.length) nx]
      | none => o = .pan (pn 194) ∧ ∃ a, rdB k b a nx ∈ Δ := by
  refine Cl.enter hp Try.func68 rfl ?_
  have hn := num_c (V := V) G hb hl hE k nx most hmost
  unfold signedP
  cases hr : numP most l with
  | none =>
    simp only [hr] at hn ⊢
    repeat first | (with_reducible first | refine za ?_ | refine zb ?_ | refine zc ?_) | refine ym zr ?_ | refine yn 0 zr ?_ | refine yn 1 zr ?_ | refine yn 2 zr ?_ | refine yn 3 zr ?_ | (refine yo zr ?_; intro _) | (refine yp zr ?_; intro _) | refine yq zr ?_ | refine ys zr ?_ | refine yu zr ?_ | refine yv zr ?_ | (with_reducible first | refine zd ?_ | refine ze ?_ | refine zf ?_ | refine zg ?_ | refine zh ?_ | refine zi ?_ | refine zj ?_ | refine zk ?_ | refine zl ?_) | refine zz zr ?_ | refine zw (by decide +kernel) ?_ | refine zx zr zr zr ?_ | refine zy zr zr ?_ | refine W.condT zr ?_ | refine W.condF zr ?_
    refine W.callR (Δ := [_]) (R := []) rfl rfl rfl rfl hn ?_ ?_
    · rintro v Δ' ⟨h1, a, rfl⟩
      injection h1 with h1; subst h1
      exact ⟨by decide +kernel, rfl, a, by simp⟩
    · rintro v Δ' ⟨h1, -⟩
      cases h1
  | some q =>
    obtain ⟨n, r⟩ := q
    simp only [hr] at hn ⊢
    have hE1 := hE.num hr
    have hnm := (numP_take hr).2
    repeat first | (with_reducible first | refine za ?_ | refine zb ?_ | refine zc ?_) | refine ym zr ?_ | refine yn 0 zr ?_ | refine yn 1 zr ?_ | refine yn 2 zr ?_ | refine yn 3 zr ?_ | (refine yo zr ?_; intro _) | (refine yp zr ?_; intro _) | refine yq zr ?_ | refine ys zr ?_ | refine yu zr ?_ | refine yv zr ?_ | (with_reducible first | refine zd ?_ | refine ze ?_ | refine zf ?_ | refine zg ?_ | refine zh ?_ | refine zi ?_ | refine zj ?_ | refine zk ?_ | refine zl ?_) | refine zz zr ?_ | refine zw (by decide +kernel) ?_ | refine zx zr zr zr ?_ | refine zy zr zr ?_ | refine W.condT zr ?_ | refine W.condF zr ?_
    refine W.callR (Δ := [_]) (R := []) rfl rfl rfl rfl hn ?_ ?_
    · rintro v Δ' ⟨h1, -⟩
      cases h1
    rintro v Δ' ⟨h1, rfl⟩
    injection h1 with h1; subst h1
    repeat first | (refine W.mkS (len := 0) tblOk rfl rfl rfl rfl rfl (Nat.zero_le _) ⟨by omega, by omega⟩ ⟨rfl, by decide⟩ rfl rfl ?_; intro i) | (with_reducible first | refine za ?_ | refine zb ?_ | refine zc ?_) | refine ym zr ?_ | refine yn 0 zr ?_ | refine yn 1 zr ?_ | refine yn 2 zr ?_ | refine yn 3 zr ?_ | (refine yo zr ?_; intro _) | (refine yp zr ?_; intro _) | refine yq zr ?_ | refine ys zr ?_ | refine yu zr ?_ | refine yv zr ?_ | (with_reducible first | refine zd ?_ | refine ze ?_ | refine zf ?_ | refine zg ?_ | refine zh ?_ | refine zi ?_ | refine zj ?_ | refine zk ?_ | refine zl ?_) | refine zz zr ?_ | refine zw (by decide +kernel) ?_ | refine zx zr zr zr ?_ | refine zy zr zr ?_ | refine W.condT zr ?_ | refine W.condF zr ?_
    have hroom : roomB i [] (n - 0) = (i, .cells (repL n [.int .i64 0]) 2 1 true) := by rw [repL_one]; rfl
    generalize hR : manyP n r = R
    refine W.loopR (α := { q : List Int × List Nat // q.1.length ≤ n ∧ EndOf b q.2 ∧ R = match manyP (n - q.1.length) q.2 with | some (ys, r') => some (q.1 ++ ys, r') | none => none }) (fun q => n - q.1.1.length) (fun q => [(0, .ptr (some (k, 0))), (5, .int .i64 (n : Int)), (6, .slice (some (i, 0)) q.1.1.length (.ex n)), (14, .int .i64 (n : Int)), (15, .int .i64 (q.1.1.length : Int))]) (fun q => [roomB i q.1.1 (n - q.1.1.length), rdB k b (b.length - q.1.2.length) nx]) ⟨([], r), by simp, hE1, by
      rw [← hR]
      show manyP n r = match manyP n r with | some (ys, r') => some ([] ++ ys, r') | none => none
      cases manyP n r with
      | none => rfl
      | some q => rfl⟩ ⟨rfl, rfl, rfl, rfl, rfl⟩ (by
      show List.Sublist [roomB i [] (n - 0), rdB k b (b.length - r.length) nx] _
      rw [hroom]; exact List.Sublist.refl _) ?_
    rintro ⟨⟨xs, l'⟩, hx, hE2, hinv⟩ ih
    simp only at ih hx hE2 hinv ⊢
    repeat first | (with_reducible first | refine za ?_ | refine zb ?_ | refine zc ?_) | refine ym zr ?_ | refine yn 0 zr ?_ | refine yn 1 zr ?_ | refine yn 2 zr ?_ | refine yn 3 zr ?_ | (refine yo zr ?_; intro _) | (refine yp zr ?_; intro _) | refine yq zr ?_ | refine ys zr ?_ | refine yu zr ?_ | refine yv zr ?_ | (with_reducible first | refine zd ?_ | refine ze ?_ | refine zf ?_ | refine zg ?_ | refine zh ?_ | refine zi ?_ | refine zj ?_ | refine zk ?_ | refine zl ?_) | refine zz zr ?_ | refine zw (by decide +kernel) ?_ | refine zx zr zr zr ?_ | refine zy zr zr ?_ | refine W.condT zr ?_ | refine W.condF zr ?_
    refine W.condP rfl ?_ ?_ <;> intro hlt
    rotate_left
    · clear ih
      have hxn : xs.length = n := by omega
      rw [hxn, Nat.sub_self] at hinv
      simp only [manyP, List.append_nil] at hinv
      subst hinv
      subst hxn
      rw [Nat.sub_self]
      repeat' first | refine W.sli rfl rfl rfl rfl rfl rfl (cut_all tblOk rfl rfl (Nat.le_refl _)) ?_ | (with_reducible first | refine za ?_ | refine zb ?_ | refine zc ?_) | refine ym zr ?_ | refine yn 0 zr ?_ | refine yn 1 zr ?_ | refine yn 2 zr ?_ | refine yn 3 zr ?_ | (refine yo zr ?_; intro _) | (refine yp zr ?_; intro _) | refine yq zr ?_ | refine ys zr ?_ | refine yu zr ?_ | refine yv zr ?_ | (with_reducible first | refine zd ?_ | refine ze ?_ | refine zf ?_ | refine zg ?_ | refine zh ?_ | refine zi ?_ | refine zj ?_ | refine zk ?_ | refine zl ?_) | refine zz zr ?_ | refine zw (by decide +kernel) ?_ | refine zx zr zr zr ?_ | refine zy zr zr ?_ | (refine W.condP zr ?_ ?_ <;> intro _) | refine W.condT zr ?_ | refine W.condF zr ?_ | (refine W.cond zr ?_ ?_ <;> intro _) | (refine W.gs zr zr zr zr ?_ ?_ <;> intro _) | (refine W.gsB zr zr zr zr ?_ ?_ <;> intro _) | refine W.done zr ?_ | refine W.doneN zr ?_
      exact ⟨i, rfl, rfl⟩
    have hlt : xs.length < n := by omega
    rw [show n - xs.length = (n - xs.length - 1) + 1 by omega, manyP] at hinv
    rw [show n - xs.length = (n - xs.length - 1) + 1 by omega]
    have hw := wid_c (V := V) G hb hl hE2 k nx
    cases ht : takeP l' with
    | none =>
      rw [ht] at hinv hw
      simp only at hinv hw
      subst hinv
      clear ih
      repeat first | (with_reducible first | refine za ?_ | refine zb ?_ | refine zc ?_) | refine ym zr ?_ | refine yn 0 zr ?_ | refine yn 1 zr ?_ | refine yn 2 zr ?_ | refine yn 3 zr ?_ | (refine yo zr ?_; intro _) | (refine yp zr ?_; intro _) | refine yq zr ?_ | refine ys zr ?_ | refine yu zr ?_ | refine yv zr ?_ | (with_reducible first | refine zd ?_ | refine ze ?_ | refine zf ?_ | refine zg ?_ | refine zh ?_ | refine zi ?_ | refine zj ?_ | refine zk ?_ | refine zl ?_) | refine zz zr ?_ | refine zw (by decide +kernel) ?_ | refine zx zr zr zr ?_ | refine zy zr zr ?_ | refine W.condT zr ?_ | refine W.condF zr ?_
      refine W.fr1 ?_
      refine W.callR (Δ := [_]) (R := [_]) rfl rfl rfl rfl hw ?_ ?_
      · rintro v Δ' ⟨h1, a, rfl⟩
        injection h1 with h1; subst h1
        exact ⟨by decide +kernel, rfl, a, by simp⟩
      · rintro v Δ' ⟨h1, -⟩
        cases h1
    | some q =>
      obtain ⟨m, l2⟩ := q
      rw [ht] at hinv hw
      simp only at hinv hw
      have hz := zagW_c (g := g) (V := V) G.zag ((takeP_iff (hE2.byte hb) m l2).1 ht).1
      have hnext := ih ⟨(xs ++ [zagS m], l2), by simp; omega, hE2.take ht, by
        rw [hinv]
        show _ = match manyP (n - (xs ++ [zagS m]).length) l2 with | some (ys, r') => some ((xs ++ [zagS m]) ++ ys, r') | none => none
        rw [show n - (xs ++ [zagS m]).length = n - xs.length - 1 by simp; omega]
        cases manyP (n - xs.length - 1) l2 with
        | none => rfl
        | some q => simp⟩ (by show n - (xs ++ [zagS m]).length < n - xs.length; simp; omega)
      simp only at hnext
      clear ih
      repeat first | (with_reducible first | refine za ?_ | refine zb ?_ | refine zc ?_) | refine ym zr ?_ | refine yn 0 zr ?_ | refine yn 1 zr ?_ | refine yn 2 zr ?_ | refine yn 3 zr ?_ | (refine yo zr ?_; intro _) | (refine yp zr ?_; intro _) | refine yq zr ?_ | refine ys zr ?_ | refine yu zr ?_ | refine yv zr ?_ | (with_reducible first | refine zd ?_ | refine ze ?_ | refine zf ?_ | refine zg ?_ | refine zh ?_ | refine zi ?_ | refine zj ?_ | refine zk ?_ | refine zl ?_) | refine zz zr ?_ | refine zw (by decide +kernel) ?_ | refine zx zr zr zr ?_ | refine zy zr zr ?_ | refine W.condT zr ?_ | refine W.condF zr ?_
      refine W.fr1 ?_
      refine W.callR (Δ := [_]) (R := [_]) rfl rfl rfl rfl hw ?_ ?_
      · rintro v Δ' ⟨h1, -⟩
        cases h1
      rintro v Δ' ⟨h1, rfl⟩
      injection h1 with h1; subst h1
      repeat first | refine W.callP rfl rfl rfl rfl hz ?_ | (refine W.bsl tblOk rfl rfl rfl rfl (by decide) rfl rfl rfl ?_; intro i0) | (with_reducible first | refine za ?_ | refine zb ?_ | refine zc ?_) | refine ym zr ?_ | refine yn 0 zr ?_ | refine yn 1 zr ?_ | refine yn 2 zr ?_ | refine yn 3 zr ?_ | (refine yo zr ?_; intro _) | (refine yp zr ?_; intro _) | refine yq zr ?_ | refine ys zr ?_ | refine yu zr ?_ | refine yv zr ?_ | (with_reducible first | refine zd ?_ | refine ze ?_ | refine zf ?_ | refine zg ?_ | refine zh ?_ | refine zi ?_ | refine zj ?_ | refine zk ?_ | refine zl ?_) | refine zz zr ?_ | refine zw (by decide +kernel) ?_ | refine zx zr zr zr ?_ | refine zy zr zr ?_ | refine W.condT zr ?_ | refine W.condF zr ?_
      refine W.fr2 ?_
      unfold roomB at hnext ⊢
      refine W.appR tblOk rfl rfl rfl rfl rfl rfl rfl (by decide) (by decide) (by omega) (by omega) (set_room xs (n - xs.length - 1) (zagS m)) (src_own (p := 1) rfl rfl rfl) rfl rfl rfl ?_
      have ew : IntKind.i64.wrap ((xs.length : Int) + 1) = (((xs ++ [zagS m]).length : Nat) : Int) := by rw [w64 (by omega) (by omega)]; simp
      have el : n - (xs ++ [zagS m]).length = n - xs.length - 1 := by simp; omega
      rw [el] at hnext
      repeat first | (with_reducible first | refine za ?_ | refine zb ?_ | refine zc ?_) | refine ym zr ?_ | refine yn 0 zr ?_ | refine yn 1 zr ?_ | refine yn 2 zr ?_ | refine yn 3 zr ?_ | (refine yo zr ?_; intro _) | (refine yp zr ?_; intro _) | refine yq zr ?_ | refine ys zr ?_ | refine yu zr ?_ | refine yv zr ?_ | (with_reducible first | refine zd ?_ | refine ze ?_ | refine zf ?_ | refine zg ?_ | refine zh ?_ | refine zi ?_ | refine zj ?_ | refine zk ?_ | refine zl ?_) | refine zz zr ?_ | refine zw (by decide +kernel) ?_ | refine zx zr zr zr ?_ | refine zy zr zr ?_ | refine W.condT zr ?_ | refine W.condF zr ?_
      refine W.weak _ _ ?_ ?_ hnext
      · exact ⟨rfl, rfl, by rw [List.length_append]; rfl, rfl, congrArg (fun x => some (AV.int .i64 x)) ew⟩
      · exact List.Sublist.cons_cons _ (List.Sublist.cons _ (List.Sublist.refl _))
end Go.Proofs.Ythkkphkeonnnfaa.Abs
/- The reader's spans. No condition but those that each theorem names. -/
namespace Go.Proofs.Ythkkphkeonnnfaa.Abs
open Go
set_option linter.unusedVariables false
set_option linter.unusedSimpArgs false
set_option maxRecDepth 100000
set_option maxHeartbeats 4000000
attribute [local irreducible] W Cl Bd
variable {g : Cg} {V : K → Option (List AV)}
theorem rspan_c (G : ReadG g) (hp : Plain g 86 = true) {b l : List Nat} (hb : ∀ c ∈ b, c < 256) (hl : b.length ≤ 281474976710656) (hE : EndOf b l) (k : K) (nx : Int) (hnx : 0 ≤ nx ∧ nx ≤ 1000000000000) :
    Cl Try.prog g V 86 [.ptr (some (k, 0))] [rdB k b (b.length - l.length) nx] fun o Δ => match numP 4096 l with
      | some (n, r) => o = .ret (.agg [.int .i64 nx, .int .i64 (nx + (n : Int))]) ∧ rdB k b (b.length - r.length) (nx + (n : Int)) ∈ Δ
      | none => o = .pan (pn 194) ∧ ∃ a, rdB k b a nx ∈ Δ := by
  refine Cl.enter hp Try.func86 rfl ?_
  have hn := num_c (V := V) G hb hl hE k nx 4096 (by decide)
  rw [show ((4096 : Nat) : Int) = 4096 from rfl] at hn
  have hold : ∀ (a : Nat) (Δ : Dm), rdB k b a nx ∈ Δ → Hold tbl k 3 2 (.int .i64 nx) Δ := fun a Δ h => ⟨_, _, h, rfl, rfl⟩
  cases hr : numP 4096 l with
  | none =>
    simp only [hr] at hn ⊢
    repeat first | (with_reducible first | refine za ?_ | refine zb ?_ | refine zc ?_) | refine ym zr ?_ | refine yn 0 zr ?_ | refine yn 1 zr ?_ | refine yn 2 zr ?_ | refine yn 3 zr ?_ | (refine yo zr ?_; intro _) | (refine yp zr ?_; intro _) | refine yq zr ?_ | refine ys zr ?_ | refine yu zr ?_ | refine yv zr ?_ | (with_reducible first | refine zd ?_ | refine ze ?_ | refine zf ?_ | refine zg ?_ | refine zh ?_ | refine zi ?_ | refine zj ?_ | refine zk ?_ | refine zl ?_) | refine zz zr ?_ | refine zw (by decide +kernel) ?_ | refine zx zr zr zr ?_ | refine zy zr zr ?_ | refine W.condT zr ?_ | refine W.condF zr ?_
    refine W.drawL _ (i0 := k) (q := 2) (v := .int .i64 nx) 3 7 8 (by decide +kernel) tbl tblOk rfl rfl (by simp [sameA]) ?_ ?_ ?_
    · show W _ _ _ _ _ [.o false _ [_, _, _]] _ _ _ _
      repeat' first | (with_reducible first | refine za ?_ | refine zb ?_ | refine zc ?_) | refine ym zr ?_ | refine yn 0 zr ?_ | refine yn 1 zr ?_ | refine yn 2 zr ?_ | refine yn 3 zr ?_ | (refine yo zr ?_; intro _) | (refine yp zr ?_; intro _) | refine yq zr ?_ | refine ys zr ?_ | refine yu zr ?_ | refine yv zr ?_ | (with_reducible first | refine zd ?_ | refine ze ?_ | refine zf ?_ | refine zg ?_ | refine zh ?_ | refine zi ?_ | refine zj ?_ | refine zk ?_ | refine zl ?_) | refine zz zr ?_ | refine zw (by decide +kernel) ?_ | refine zx zr zr zr ?_ | refine zy zr zr ?_ | (refine W.condP zr ?_ ?_ <;> intro _) | refine W.condT zr ?_ | refine W.condF zr ?_ | (refine W.cond zr ?_ ?_ <;> intro _) | (refine W.gs zr zr zr zr ?_ ?_ <;> intro _) | (refine W.gsB zr zr zr zr ?_ ?_ <;> intro _) | refine W.done zr ?_ | refine W.doneN zr ?_
      exact ⟨rfl, hold _ _ (List.Mem.tail _ (List.Mem.tail _ (List.Mem.head _)))⟩
    · intro m h1 h2
      obtain rfl | rfl : m = 7 ∨ m = 8 := by omega
      · show W _ _ _ _ _ [.o false _ [_, _, _, _, _, _, _]] _ _ _ _
        repeat' first | (with_reducible first | refine za ?_ | refine zb ?_ | refine zc ?_) | refine ym zr ?_ | refine yn 0 zr ?_ | refine yn 1 zr ?_ | refine yn 2 zr ?_ | refine yn 3 zr ?_ | (refine yo zr ?_; intro _) | (refine yp zr ?_; intro _) | refine yq zr ?_ | refine ys zr ?_ | refine yu zr ?_ | refine yv zr ?_ | (with_reducible first | refine zd ?_ | refine ze ?_ | refine zf ?_ | refine zg ?_ | refine zh ?_ | refine zi ?_ | refine zj ?_ | refine zk ?_ | refine zl ?_) | refine zz zr ?_ | refine zw (by decide +kernel) ?_ | refine zx zr zr zr ?_ | refine zy zr zr ?_ | (refine W.condP zr ?_ ?_ <;> intro _) | refine W.condT zr ?_ | refine W.condF zr ?_ | (refine W.cond zr ?_ ?_ <;> intro _) | (refine W.gs zr zr zr zr ?_ ?_ <;> intro _) | (refine W.gsB zr zr zr zr ?_ ?_ <;> intro _) | refine W.done zr ?_ | refine W.doneN zr ?_
        exact hold _ _ (List.Mem.tail _ (List.Mem.tail _ (List.Mem.head _)))
      · show W _ _ _ _ _ [.o false _ [_, _, _, _, _, _, _, _]] _ _ _ _
        repeat first | (with_reducible first | refine za ?_ | refine zb ?_ | refine zc ?_) | refine ym zr ?_ | refine yn 0 zr ?_ | refine yn 1 zr ?_ | refine yn 2 zr ?_ | refine yn 3 zr ?_ | (refine yo zr ?_; intro _) | (refine yp zr ?_; intro _) | refine yq zr ?_ | refine ys zr ?_ | refine yu zr ?_ | refine yv zr ?_ | (with_reducible first | refine zd ?_ | refine ze ?_ | refine zf ?_ | refine zg ?_ | refine zh ?_ | refine zi ?_ | refine zj ?_ | refine zk ?_ | refine zl ?_) | refine zz zr ?_ | refine zw (by decide +kernel) ?_ | refine zx zr zr zr ?_ | refine zy zr zr ?_ | refine W.condT zr ?_ | refine W.condF zr ?_
        refine W.fr2 ?_
        refine W.callR (Δ := [_]) (R := [_, _]) rfl rfl rfl rfl hn ?_ ?_
        · rintro v Δ' ⟨h1, a, rfl⟩
          exact ⟨by decide +kernel, hold a _ (List.Mem.head _)⟩
        · rintro v Δ' ⟨h1, -⟩
          cases h1
    repeat first | (with_reducible first | refine za ?_ | refine zb ?_ | refine zc ?_) | refine ym zr ?_ | refine yn 0 zr ?_ | refine yn 1 zr ?_ | refine yn 2 zr ?_ | refine yn 3 zr ?_ | (refine yo zr ?_; intro _) | (refine yp zr ?_; intro _) | refine yq zr ?_ | refine ys zr ?_ | refine yu zr ?_ | refine yv zr ?_ | (with_reducible first | refine zd ?_ | refine ze ?_ | refine zf ?_ | refine zg ?_ | refine zh ?_ | refine zi ?_ | refine zj ?_ | refine zk ?_ | refine zl ?_) | refine zz zr ?_ | refine zw (by decide +kernel) ?_ | refine zx zr zr zr ?_ | refine zy zr zr ?_ | refine W.condT zr ?_ | refine W.condF zr ?_
    refine W.fr2 ?_
    refine W.callR (Δ := [_]) (R := [_, _]) rfl rfl rfl rfl hn ?_ ?_
    · rintro v Δ' ⟨h1, a, rfl⟩
      injection h1 with h1; subst h1
      exact ⟨by decide +kernel, rfl, a, List.Mem.head _⟩
    · rintro v Δ' ⟨h1, -⟩
      cases h1
  | some q =>
    obtain ⟨n, r⟩ := q
    simp only [hr] at hn ⊢
    have hE1 := hE.num hr
    have hnm := (numP_take hr).2
    repeat first | (with_reducible first | refine za ?_ | refine zb ?_ | refine zc ?_) | refine ym zr ?_ | refine yn 0 zr ?_ | refine yn 1 zr ?_ | refine yn 2 zr ?_ | refine yn 3 zr ?_ | (refine yo zr ?_; intro _) | (refine yp zr ?_; intro _) | refine yq zr ?_ | refine ys zr ?_ | refine yu zr ?_ | refine yv zr ?_ | (with_reducible first | refine zd ?_ | refine ze ?_ | refine zf ?_ | refine zg ?_ | refine zh ?_ | refine zi ?_ | refine zj ?_ | refine zk ?_ | refine zl ?_) | refine zz zr ?_ | refine zw (by decide +kernel) ?_ | refine zx zr zr zr ?_ | refine zy zr zr ?_ | refine W.condT zr ?_ | refine W.condF zr ?_
    refine W.drawL _ (i0 := k) (q := 2) (v := .int .i64 nx) 3 7 8 (by decide +kernel) tbl tblOk rfl rfl (by simp [sameA]) ?_ ?_ ?_
    · show W _ _ _ _ _ [.o false _ [_, _, _]] _ _ _ _
      repeat' first | (with_reducible first | refine za ?_ | refine zb ?_ | refine zc ?_) | refine ym zr ?_ | refine yn 0 zr ?_ | refine yn 1 zr ?_ | refine yn 2 zr ?_ | refine yn 3 zr ?_ | (refine yo zr ?_; intro _) | (refine yp zr ?_; intro _) | refine yq zr ?_ | refine ys zr ?_ | refine yu zr ?_ | refine yv zr ?_ | (with_reducible first | refine zd ?_ | refine ze ?_ | refine zf ?_ | refine zg ?_ | refine zh ?_ | refine zi ?_ | refine zj ?_ | refine zk ?_ | refine zl ?_) | refine zz zr ?_ | refine zw (by decide +kernel) ?_ | refine zx zr zr zr ?_ | refine zy zr zr ?_ | (refine W.condP zr ?_ ?_ <;> intro _) | refine W.condT zr ?_ | refine W.condF zr ?_ | (refine W.cond zr ?_ ?_ <;> intro _) | (refine W.gs zr zr zr zr ?_ ?_ <;> intro _) | (refine W.gsB zr zr zr zr ?_ ?_ <;> intro _) | refine W.done zr ?_ | refine W.doneN zr ?_
      exact ⟨rfl, hold _ _ (List.Mem.tail _ (List.Mem.tail _ (List.Mem.head _)))⟩
    · intro m h1 h2
      obtain rfl | rfl : m = 7 ∨ m = 8 := by omega
      · show W _ _ _ _ _ [.o false _ [_, _, _, _, _, _, _]] _ _ _ _
        repeat' first | (with_reducible first | refine za ?_ | refine zb ?_ | refine zc ?_) | refine ym zr ?_ | refine yn 0 zr ?_ | refine yn 1 zr ?_ | refine yn 2 zr ?_ | refine yn 3 zr ?_ | (refine yo zr ?_; intro _) | (refine yp zr ?_; intro _) | refine yq zr ?_ | refine ys zr ?_ | refine yu zr ?_ | refine yv zr ?_ | (with_reducible first | refine zd ?_ | refine ze ?_ | refine zf ?_ | refine zg ?_ | refine zh ?_ | refine zi ?_ | refine zj ?_ | refine zk ?_ | refine zl ?_) | refine zz zr ?_ | refine zw (by decide +kernel) ?_ | refine zx zr zr zr ?_ | refine zy zr zr ?_ | (refine W.condP zr ?_ ?_ <;> intro _) | refine W.condT zr ?_ | refine W.condF zr ?_ | (refine W.cond zr ?_ ?_ <;> intro _) | (refine W.gs zr zr zr zr ?_ ?_ <;> intro _) | (refine W.gsB zr zr zr zr ?_ ?_ <;> intro _) | refine W.done zr ?_ | refine W.doneN zr ?_
        exact hold _ _ (List.Mem.tail _ (List.Mem.tail _ (List.Mem.head _)))
      · show W _ _ _ _ _ [.o false _ [_, _, _, _, _, _, _, _]] _ _ _ _
        repeat first | (with_reducible first | refine za ?_ | refine zb ?_ | refine zc ?_) | refine ym zr ?_ | refine yn 0 zr ?_ | refine yn 1 zr ?_ | refine yn 2 zr ?_ | refine yn 3 zr ?_ | (refine yo zr ?_; intro _) | (refine yp zr ?_; intro _) | refine yq zr ?_ | refine ys zr ?_ | refine yu zr ?_ | refine yv zr ?_ | (with_reducible first | refine zd ?_ | refine ze ?_ | refine zf ?_ | refine zg ?_ | refine zh ?_ | refine zi ?_ | refine zj ?_ | refine zk ?_ | refine zl ?_) | refine zz zr ?_ | refine zw (by decide +kernel) ?_ | refine zx zr zr zr ?_ | refine zy zr zr ?_ | refine W.condT zr ?_ | refine W.condF zr ?_
        refine W.fr2 ?_
        refine W.callR (Δ := [_]) (R := [_, _]) rfl rfl rfl rfl hn ?_ ?_
        · rintro v Δ' ⟨h1, -⟩
          cases h1
        · rintro v Δ' ⟨h1, rfl⟩
          repeat' first | (with_reducible first | refine za ?_ | refine zb ?_ | refine zc ?_) | refine ym zr ?_ | refine yn 0 zr ?_ | refine yn 1 zr ?_ | refine yn 2 zr ?_ | refine yn 3 zr ?_ | (refine yo zr ?_; intro _) | (refine yp zr ?_; intro _) | refine yq zr ?_ | refine ys zr ?_ | refine yu zr ?_ | refine yv zr ?_ | (with_reducible first | refine zd ?_ | refine ze ?_ | refine zf ?_ | refine zg ?_ | refine zh ?_ | refine zi ?_ | refine zj ?_ | refine zk ?_ | refine zl ?_) | refine zz zr ?_ | refine zw (by decide +kernel) ?_ | refine zx zr zr zr ?_ | refine zy zr zr ?_ | (refine W.condP zr ?_ ?_ <;> intro _) | refine W.condT zr ?_ | refine W.condF zr ?_ | (refine W.cond zr ?_ ?_ <;> intro _) | (refine W.gs zr zr zr zr ?_ ?_ <;> intro _) | (refine W.gsB zr zr zr zr ?_ ?_ <;> intro _) | refine W.done zr ?_ | refine W.doneN zr ?_
          exact hold _ _ (List.Mem.head _)
    repeat first | (with_reducible first | refine za ?_ | refine zb ?_ | refine zc ?_) | refine ym zr ?_ | refine yn 0 zr ?_ | refine yn 1 zr ?_ | refine yn 2 zr ?_ | refine yn 3 zr ?_ | (refine yo zr ?_; intro _) | (refine yp zr ?_; intro _) | refine yq zr ?_ | refine ys zr ?_ | refine yu zr ?_ | refine yv zr ?_ | (with_reducible first | refine zd ?_ | refine ze ?_ | refine zf ?_ | refine zg ?_ | refine zh ?_ | refine zi ?_ | refine zj ?_ | refine zk ?_ | refine zl ?_) | refine zz zr ?_ | refine zw (by decide +kernel) ?_ | refine zx zr zr zr ?_ | refine zy zr zr ?_ | refine W.condT zr ?_ | refine W.condF zr ?_
    refine W.fr2 ?_
    refine W.callR (Δ := [_]) (R := [_, _]) rfl rfl rfl rfl hn ?_ ?_
    · rintro v Δ' ⟨h1, -⟩
      cases h1
    rintro v Δ' ⟨h1, rfl⟩
    injection h1 with h1; subst h1
    have ew : IntKind.i64.wrap (nx + (n : Int)) = nx + (n : Int) := w64 (by omega) (by omega)
    repeat' first | refine W.doneC tblOk (.cell 0 rfl rfl rfl rfl .nil) ?_ | refine W.doneC tblOk (.cell 1 rfl rfl rfl rfl .nil) ?_ | refine W.doneC tblOk (.cell 2 rfl rfl rfl rfl .nil) ?_ | refine W.doneC tblOk (.cell 3 rfl rfl rfl rfl .nil) ?_ | (with_reducible first | refine za ?_ | refine zb ?_ | refine zc ?_) | refine ym zr ?_ | refine yn 0 zr ?_ | refine yn 1 zr ?_ | refine yn 2 zr ?_ | refine yn 3 zr ?_ | (refine yo zr ?_; intro _) | (refine yp zr ?_; intro _) | refine yq zr ?_ | refine ys zr ?_ | refine yu zr ?_ | refine yv zr ?_ | (with_reducible first | refine zd ?_ | refine ze ?_ | refine zf ?_ | refine zg ?_ | refine zh ?_ | refine zi ?_ | refine zj ?_ | refine zk ?_ | refine zl ?_) | refine zz zr ?_ | refine zw (by decide +kernel) ?_ | refine zx zr zr zr ?_ | refine zy zr zr ?_ | (refine W.condP zr ?_ ?_ <;> intro _) | refine W.condT zr ?_ | refine W.condF zr ?_ | (refine W.cond zr ?_ ?_ <;> intro _) | (refine W.gs zr zr zr zr ?_ ?_ <;> intro _) | (refine W.gsB zr zr zr zr ?_ ?_ <;> intro _) | refine W.done zr ?_ | refine W.doneN zr ?_
    rw [ew]
    exact ⟨rfl, by simp [rdB]⟩
end Go.Proofs.Ythkkphkeonnnfaa.Abs
