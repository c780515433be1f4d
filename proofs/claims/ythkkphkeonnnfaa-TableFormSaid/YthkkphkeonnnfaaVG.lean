/- A table's bytes: the program's lists of numbers with signs. No condition but those that each theorem names. -/
import Derived.Test.YthkkphkeonnnfaaVD
namespace Go.Proofs.Ythkkphkeonnnfaa.Abs
open Go
set_option linter.unusedVariables false
set_option linter.unusedSimpArgs false
set_option maxRecDepth 100000
set_option maxHeartbeats 4000000
attribute [local irreducible] W Cl Bd
variable {g : Cg} {V : K → Option (List AV)}
structure PlainsW (g : Cg) : Prop where
  put : Plain g 61 = true
  puts : Plain g 38 = true
  putText : Plain g 36 = true
  zig : Plain g 39 = true
  frame : Plain g 40 = true
  check : Plain g 62 = true
  sum : Plain g 81 = true
  signed : Plain g 37 = true
  encode : Plain g 20 = true
  spans : Plain g 30 = true
/-- A text of one's own. -/
def strB (k : K) (b : List Nat) : K × Bk := (k, .cells [.str b] 9 1 true)
theorem puts1 (P : PlainsW g) {b : List Nat} (hb : ∀ c ∈ b, c < 256) (hl : b.length ≤ 1000000000) (n : Int) {R : Dm} {i : K} {z : Nat} {f : Bool} {el : Nat} :
    Cl Try.prog g (withV V ((i, .cells [.int .u64 (IntKind.u64.wrap n)] el z f) :: R)) 38 [.str b, .slice (some (i, 0)) 1 (.ex 1)] [] fun o _ => o = .ret (.str (b ++ nS n)) := by
  have hw := wrapU64_in n
  have h : Cl Try.prog g (withV V ((i, .cells [.int .u64 (IntKind.u64.wrap n)] el z f) :: R)) 38 [.str b, .slice (some (i, 0)) 1 (.ex 1)] [] fun o _ => o = .ret (.str (b ++ putsS [IntKind.u64.wrap n])) :=
    puts_c P.puts P.put (lent_in (c := .ex 1) (xs := [IntKind.u64.wrap n])) (fun x hx => by simp at hx; subst hx; omega) hb (by simp; omega)
  rw [show putsS [IntKind.u64.wrap n] = nS n by simp [putsS, nS]] at h
  exact h
theorem puts1z (P : PlainsW g) {b : List Nat} (hb : ∀ c ∈ b, c < 256) (hl : b.length ≤ 1000000000) {n : Int} (hn : In64 n) {R : Dm} {i : K} {z : Nat} {f : Bool} {el : Nat} :
    Cl Try.prog g (withV V ((i, .cells [.int .u64 (zigS n)] el z f) :: R)) 38 [.str b, .slice (some (i, 0)) 1 (.ex 1)] [] fun o _ => o = .ret (.str (b ++ zS n)) := by
  have hw := zigS_in hn
  have h : Cl Try.prog g (withV V ((i, .cells [.int .u64 (zigS n)] el z f) :: R)) 38 [.str b, .slice (some (i, 0)) 1 (.ex 1)] [] fun o _ => o = .ret (.str (b ++ putsS [zigS n])) :=
    puts_c P.puts P.put (lent_in (c := .ex 1) (xs := [zigS n])) (fun x hx => by simp at hx; subst hx; omega) hb (by simp; omega)
  rw [show putsS [zigS n] = zS n by simp [putsS, zS]] at h
  exact h
theorem puts2 (P : PlainsW g) {b : List Nat} (hb : ∀ c ∈ b, c < 256) (hl : b.length ≤ 1000000000) (n m : Int) {R : Dm} {i : K} {z : Nat} {f : Bool} {el : Nat} :
    Cl Try.prog g (withV V ((i, .cells [.int .u64 (IntKind.u64.wrap n), .int .u64 (IntKind.u64.wrap m)] el z f) :: R)) 38 [.str b, .slice (some (i, 0)) 2 (.ex 2)] [] fun o _ => o = .ret (.str (b ++ (nS n ++ nS m))) := by
  have hw := wrapU64_in n
  have hw2 := wrapU64_in m
  have h : Cl Try.prog g (withV V ((i, .cells [.int .u64 (IntKind.u64.wrap n), .int .u64 (IntKind.u64.wrap m)] el z f) :: R)) 38 [.str b, .slice (some (i, 0)) 2 (.ex 2)] [] fun o _ => o = .ret (.str (b ++ putsS [IntKind.u64.wrap n, IntKind.u64.wrap m])) :=
    puts_c P.puts P.put (lent_in (c := .ex 2) (xs := [IntKind.u64.wrap n, IntKind.u64.wrap m])) (fun x hx => by simp at hx; rcases hx with rfl | rfl <;> omega) hb (by simp; omega)
  rw [show putsS [IntKind.u64.wrap n, IntKind.u64.wrap m] = nS n ++ nS m by simp [putsS, nS]] at h
  exact h
theorem puts3 (P : PlainsW g) {b : List Nat} (hb : ∀ c ∈ b, c < 256) (hl : b.length ≤ 1000000000) (n m p : Int) {R : Dm} {i : K} {z : Nat} {f : Bool} {el : Nat} :
    Cl Try.prog g (withV V ((i, .cells [.int .u64 (IntKind.u64.wrap n), .int .u64 (IntKind.u64.wrap m), .int .u64 (IntKind.u64.wrap p)] el z f) :: R)) 38 [.str b, .slice (some (i, 0)) 3 (.ex 3)] [] fun o _ => o = .ret (.str (b ++ (nS n ++ (nS m ++ nS p)))) := by
  have hw := wrapU64_in n
  have hw2 := wrapU64_in m
  have hw3 := wrapU64_in p
  have h : Cl Try.prog g (withV V ((i, .cells [.int .u64 (IntKind.u64.wrap n), .int .u64 (IntKind.u64.wrap m), .int .u64 (IntKind.u64.wrap p)] el z f) :: R)) 38 [.str b, .slice (some (i, 0)) 3 (.ex 3)] [] fun o _ => o = .ret (.str (b ++ putsS [IntKind.u64.wrap n, IntKind.u64.wrap m, IntKind.u64.wrap p])) :=
    puts_c P.puts P.put (lent_in (c := .ex 3) (xs := [IntKind.u64.wrap n, IntKind.u64.wrap m, IntKind.u64.wrap p])) (fun x hx => by simp at hx; rcases hx with rfl | rfl | rfl <;> omega) hb (by simp; omega)
  rw [show putsS [IntKind.u64.wrap n, IntKind.u64.wrap m, IntKind.u64.wrap p] = nS n ++ (nS m ++ nS p) by simp [putsS, nS]] at h
  exact h
theorem app_byte {a b : List Nat} (ha : ∀ c ∈ a, c < 256) (hb : ∀ c ∈ b, c < 256) : ∀ c ∈ a ++ b, c < 256 := fun c hc => by
  rcases List.mem_append.1 hc with h | h
  · exact ha c h
  · exact hb c h
theorem signed_cW (P : PlainsW g) (k : K) {b : List Nat} {s : Sl Int} (hs : s.In V false 1 (AV.int .i64)) (hx : ∀ x ∈ s.l, In64 x) (hsl : s.l.length ≤ 1000000) (hb : ∀ c ∈ b, c < 256) (hbl : b.length ≤ 1000000) :
    Cl Try.prog g V 37 [s.v, .ptr (some (k, 0))] [strB k b] fun o Δ' => o = .ret (.tup []) ∧ strB k (b ++ sgS s.l) ∈ Δ' := by
  refine Cl.enter P.signed Try.func37 rfl ?_
  generalize hR : b ++ sgS s.l = R
  have hRl : R.length ≤ 200000000 := by
    have h1 := nS_len s.l.length
    have h2 := flat_le (f := zS) s.l (fun x h => zS_len (hx x h))
    rw [← hR]; simp only [sgS, List.length_append]; omega
  have hRb : ∀ c ∈ R, c < 256 := by
    rw [← hR]
    exact app_byte hb (app_byte (nS_byte _) (flat_byte (fun x => putS_byte _) _))
  unfold strB
  repeat first | (refine W.bsl tblOk rfl rfl rfl rfl (by decide) rfl rfl rfl ?_; intro _) | (refine W.callLP rfl rfl rfl rfl (puts1 P hb ?h1 _) ?_; (case h1 => omega)) | (with_reducible first | refine za ?_ | refine zb ?_ | refine zc ?_) | refine ym zr ?_ | refine yn 0 zr ?_ | refine yn 1 zr ?_ | refine yn 2 zr ?_ | refine yn 3 zr ?_ | (refine yo zr ?_; intro _) | (refine yp zr ?_; intro _) | refine yq zr ?_ | refine ys zr ?_ | refine yu zr ?_ | refine yv zr ?_ | (with_reducible first | refine zd ?_ | refine ze ?_ | refine zf ?_ | refine zg ?_ | refine zh ?_ | refine zi ?_ | refine zj ?_ | refine zk ?_ | refine zl ?_) | refine zz zr ?_ | refine zw (by decide +kernel) ?_ | refine zx zr zr zr ?_ | refine zy zr zr ?_ | refine W.condT zr ?_ | refine W.condF zr ?_
  refine W.loopR (α := { q : Nat × List Nat // q.1 ≤ s.l.length ∧ q.2 ++ (s.l.drop q.1).flatMap zS = R }) (fun q => s.l.length - q.1.1) (fun q => [(1, _), (11, _), (12, _), (13, .int .i64 (q.1.1 : Int))]) (fun q => [strB k q.1.2]) ⟨(0, b ++ nS s.l.length), by simp, by show (b ++ nS s.l.length) ++ _ = R; rw [← hR, sgS, List.append_assoc]; rfl⟩ ⟨rfl, rfl, rfl, rfl⟩ (.cons_cons _ (List.nil_sublist _)) ?_
  rintro ⟨⟨j, c⟩, hj, hc⟩ ih
  simp only at ih hj hc ⊢
  unfold strB
  repeat first | (with_reducible first | refine za ?_ | refine zb ?_ | refine zc ?_) | refine ym zr ?_ | refine yn 0 zr ?_ | refine yn 1 zr ?_ | refine yn 2 zr ?_ | refine yn 3 zr ?_ | (refine yo zr ?_; intro _) | (refine yp zr ?_; intro _) | refine yq zr ?_ | refine ys zr ?_ | refine yu zr ?_ | refine yv zr ?_ | (with_reducible first | refine zd ?_ | refine ze ?_ | refine zf ?_ | refine zg ?_ | refine zh ?_ | refine zi ?_ | refine zj ?_ | refine zk ?_ | refine zl ?_) | refine zz zr ?_ | refine zw (by decide +kernel) ?_ | refine zx zr zr zr ?_ | refine zy zr zr ?_ | refine W.condT zr ?_ | refine W.condF zr ?_
  refine W.condP rfl ?_ ?_ <;> intro hlt
  rotate_left
  · clear ih
    rw [List.drop_eq_nil_of_le (by omega)] at hc
    have hcR : c = R := by simpa using hc
    subst hcR
    repeat' first | (with_reducible first | refine za ?_ | refine zb ?_ | refine zc ?_) | refine ym zr ?_ | refine yn 0 zr ?_ | refine yn 1 zr ?_ | refine yn 2 zr ?_ | refine yn 3 zr ?_ | (refine yo zr ?_; intro _) | (refine yp zr ?_; intro _) | refine yq zr ?_ | refine ys zr ?_ | refine yu zr ?_ | refine yv zr ?_ | (with_reducible first | refine zd ?_ | refine ze ?_ | refine zf ?_ | refine zg ?_ | refine zh ?_ | refine zi ?_ | refine zj ?_ | refine zk ?_ | refine zl ?_) | refine zz zr ?_ | refine zw (by decide +kernel) ?_ | refine zx zr zr zr ?_ | refine zy zr zr ?_ | (refine W.condP zr ?_ ?_ <;> intro _) | refine W.condT zr ?_ | refine W.condF zr ?_ | (refine W.cond zr ?_ ?_ <;> intro _) | (refine W.gs zr zr zr zr ?_ ?_ <;> intro _) | (refine W.gsB zr zr zr zr ?_ ?_ <;> intro _) | refine W.done zr ?_ | refine W.doneN zr ?_
    exact ⟨rfl, by simp⟩
  have hlt : j < s.l.length := by omega
  obtain ⟨jn, o, cs, ha, hV, hpt⟩ := Sl.In.get hs hlt
  have hx1 := hx _ (List.getElem_mem hlt)
  rw [List.drop_eq_getElem_cons hlt, List.flatMap_cons] at hc
  generalize s.l[j] = x at hpt hx1 hc
  have hcl : c.length ≤ 200000000 := by rw [← hc, List.length_append] at hRl; omega
  have hcb : ∀ y ∈ c, y < 256 := fun y hy => hRb y (by rw [← hc]; exact List.mem_append_left _ hy)
  have h1 := fun V => zig_c (g := g) (V := V) P.zig hx1
  repeat first | (refine W.ia tblOk rfl rfl rfl rfl rfl rfl ha ?h1 ?h2 ?_; (case h1 => omega); (case h2 => omega)) | refine W.ldV tblOk rfl rfl rfl hV hpt ?_ | (with_reducible first | refine za ?_ | refine zb ?_ | refine zc ?_) | refine ym zr ?_ | refine yn 0 zr ?_ | refine yn 1 zr ?_ | refine yn 2 zr ?_ | refine yn 3 zr ?_ | (refine yo zr ?_; intro _) | (refine yp zr ?_; intro _) | refine yq zr ?_ | refine ys zr ?_ | refine yu zr ?_ | refine yv zr ?_ | (with_reducible first | refine zd ?_ | refine ze ?_ | refine zf ?_ | refine zg ?_ | refine zh ?_ | refine zi ?_ | refine zj ?_ | refine zk ?_ | refine zl ?_) | refine zz zr ?_ | refine zw (by decide +kernel) ?_ | refine zx zr zr zr ?_ | refine zy zr zr ?_ | refine W.condT zr ?_ | refine W.condF zr ?_
  refine W.drawH (os := #[]) (p := 0) _ 2 4 (by decide +kernel) tbl tblOk rfl rfl rfl rfl rfl rfl rfl (sameStr _) ?_ ?_
  · intro m hm1 hm2
    obtain rfl | rfl | rfl : m = 2 ∨ m = 3 ∨ m = 4 := by omega
    all_goals first | show W _ _ _ _ _ [.o true _ [_, _]] _ _ _ _ | show W _ _ _ _ _ [.o true _ [_, _, _]] _ _ _ _ | show W _ _ _ _ _ [.o true _ [_, _, _, _]] _ _ _ _
    repeat' first | refine W.callP rfl rfl rfl rfl (h1 _) ?_ | (refine W.bsl tblOk rfl rfl rfl rfl (by decide) rfl rfl rfl ?_; intro _) | (with_reducible first | refine za ?_ | refine zb ?_ | refine zc ?_) | refine ym zr ?_ | refine yn 0 zr ?_ | refine yn 1 zr ?_ | refine yn 2 zr ?_ | refine yn 3 zr ?_ | (refine yo zr ?_; intro _) | (refine yp zr ?_; intro _) | refine yq zr ?_ | refine ys zr ?_ | refine yu zr ?_ | refine yv zr ?_ | (with_reducible first | refine zd ?_ | refine ze ?_ | refine zf ?_ | refine zg ?_ | refine zh ?_ | refine zi ?_ | refine zj ?_ | refine zk ?_ | refine zl ?_) | refine zz zr ?_ | refine zw (by decide +kernel) ?_ | refine zx zr zr zr ?_ | refine zy zr zr ?_ | (refine W.condP zr ?_ ?_ <;> intro _) | refine W.condT zr ?_ | refine W.condF zr ?_ | (refine W.cond zr ?_ ?_ <;> intro _) | (refine W.gs zr zr zr zr ?_ ?_ <;> intro _) | (refine W.gsB zr zr zr zr ?_ ?_ <;> intro _) | refine W.done zr ?_ | refine W.doneN zr ?_
    all_goals exact ⟨rfl, by simp⟩
  repeat first | refine W.callP rfl rfl rfl rfl (h1 _) ?_ | (refine W.bsl tblOk rfl rfl rfl rfl (by decide) rfl rfl rfl ?_; intro _) | (refine W.callLP rfl rfl rfl rfl (puts1z P hcb ?h1 hx1) ?_; (case h1 => omega)) | (with_reducible first | refine za ?_ | refine zb ?_ | refine zc ?_) | refine ym zr ?_ | refine yn 0 zr ?_ | refine yn 1 zr ?_ | refine yn 2 zr ?_ | refine yn 3 zr ?_ | (refine yo zr ?_; intro _) | (refine yp zr ?_; intro _) | refine yq zr ?_ | refine ys zr ?_ | refine yu zr ?_ | refine yv zr ?_ | (with_reducible first | refine zd ?_ | refine ze ?_ | refine zf ?_ | refine zg ?_ | refine zh ?_ | refine zi ?_ | refine zj ?_ | refine zk ?_ | refine zl ?_) | refine zz zr ?_ | refine zw (by decide +kernel) ?_ | refine zx zr zr zr ?_ | refine zy zr zr ?_ | refine W.condT zr ?_ | refine W.condF zr ?_
  rw [wN (by omega)]
  refine W.weak _ _ ?_ ?_ (ih ⟨(j + 1, c ++ zS x), by show j + 1 ≤ _; omega, by show (c ++ zS x) ++ _ = R; rw [← hc]; simp⟩ (by show s.l.length - (j + 1) < s.l.length - j; omega))
  · exact ⟨rfl, rfl, rfl, rfl⟩
  · exact .cons_cons _ (List.nil_sublist _)
end Go.Proofs.Ythkkphkeonnnfaa.Abs
