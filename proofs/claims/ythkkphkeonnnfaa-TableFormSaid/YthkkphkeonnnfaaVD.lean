/- Numbers and texts as bytes: the document's functions. No condition but those that each theorem names. -/
import Derived.Test.YthkkphkeonnnfaaVC
import Derived.Test.YthkkphkeonnnfaaTO
namespace Go.Proofs.Ythkkphkeonnnfaa.Abs
open Go
set_option linter.unusedVariables false
set_option linter.unusedSimpArgs false
set_option maxRecDepth 100000
set_option maxHeartbeats 4000000
attribute [local irreducible] W Cl Bd
variable {g : Cg} {V : K → Option (List AV)}
theorem putR_c (hp : Plain g 63 = true) {b : List Nat} {s : Sl Int} (hs : s.In V false 1 (AV.int .u64)) (hx : ∀ x ∈ s.l, 0 ≤ x ∧ x < 18446744073709551616) (hsl : s.l.length ≤ 1000000) (hl : b.length ≤ 1000000000000) :
    Cl Try.prog g V 63 [.str b, s.v] [] fun o _ => o = .ret (.str (b ++ putsS s.l)) := by
  refine Cl.enter hp Try.func63 rfl ?_
  generalize hR : b ++ putsS s.l = R
  have hRl : R.length ≤ 2000000000000 := by
    have := putsS_len s.l fun x h => by have := hx x h; omega
    rw [← hR, List.length_append]; omega
  repeat first | (with_reducible first | refine za ?_ | refine zb ?_ | refine zc ?_) | refine ym zr ?_ | refine yn 0 zr ?_ | refine yn 1 zr ?_ | refine yn 2 zr ?_ | refine yn 3 zr ?_ | (refine yo zr ?_; intro _) | (refine yp zr ?_; intro _) | refine yq zr ?_ | refine ys zr ?_ | refine yu zr ?_ | refine yv zr ?_ | (with_reducible first | refine zd ?_ | refine ze ?_ | refine zf ?_ | refine zg ?_ | refine zh ?_ | refine zi ?_ | refine zj ?_ | refine zk ?_ | refine zl ?_) | refine zz zr ?_ | refine zw (by decide +kernel) ?_ | refine zx zr zr zr ?_ | refine zy zr zr ?_ | refine W.condT zr ?_ | refine W.condF zr ?_
  refine W.loopR (α := { q : Nat × List Nat // q.1 ≤ s.l.length ∧ q.2 ++ putsS (s.l.drop q.1) = R }) (fun q => s.l.length - q.1.1) (fun q => [(0, .str q.1.2), (1, _), (5, .int .i64 (q.1.1 : Int))]) (fun q => []) ⟨(0, b), by simp, by simpa using hR⟩ ⟨rfl, rfl, rfl⟩ (List.nil_sublist _) ?_
  rintro ⟨⟨k, c⟩, hk, hc⟩ ih
  simp only at ih hk hc ⊢
  repeat first | (with_reducible first | refine za ?_ | refine zb ?_ | refine zc ?_) | refine ym zr ?_ | refine yn 0 zr ?_ | refine yn 1 zr ?_ | refine yn 2 zr ?_ | refine yn 3 zr ?_ | (refine yo zr ?_; intro _) | (refine yp zr ?_; intro _) | refine yq zr ?_ | refine ys zr ?_ | refine yu zr ?_ | refine yv zr ?_ | (with_reducible first | refine zd ?_ | refine ze ?_ | refine zf ?_ | refine zg ?_ | refine zh ?_ | refine zi ?_ | refine zj ?_ | refine zk ?_ | refine zl ?_) | refine zz zr ?_ | refine zw (by decide +kernel) ?_ | refine zx zr zr zr ?_ | refine zy zr zr ?_ | refine W.condT zr ?_ | refine W.condF zr ?_
  refine W.condP rfl ?_ ?_ <;> intro hlt
  rotate_left
  · clear ih
    rw [List.drop_eq_nil_of_le (by omega)] at hc
    have hcR : c = R := by simpa [putsS] using hc
    subst hcR
    repeat' first | (with_reducible first | refine za ?_ | refine zb ?_ | refine zc ?_) | refine ym zr ?_ | refine yn 0 zr ?_ | refine yn 1 zr ?_ | refine yn 2 zr ?_ | refine yn 3 zr ?_ | (refine yo zr ?_; intro _) | (refine yp zr ?_; intro _) | refine yq zr ?_ | refine ys zr ?_ | refine yu zr ?_ | refine yv zr ?_ | (with_reducible first | refine zd ?_ | refine ze ?_ | refine zf ?_ | refine zg ?_ | refine zh ?_ | refine zi ?_ | refine zj ?_ | refine zk ?_ | refine zl ?_) | refine zz zr ?_ | refine zw (by decide +kernel) ?_ | refine zx zr zr zr ?_ | refine zy zr zr ?_ | (refine W.condP zr ?_ ?_ <;> intro _) | refine W.condT zr ?_ | refine W.condF zr ?_ | (refine W.cond zr ?_ ?_ <;> intro _) | (refine W.gs zr zr zr zr ?_ ?_ <;> intro _) | (refine W.gsB zr zr zr zr ?_ ?_ <;> intro _) | refine W.done zr ?_ | refine W.doneN zr ?_
    rfl
  have hlt : k < s.l.length := by omega
  obtain ⟨jn, o, cs, ha, hV, hpt⟩ := Sl.In.get hs hlt
  have hx1 := hx _ (List.getElem_mem hlt)
  rw [List.drop_eq_getElem_cons hlt, putsS_cons] at hc
  generalize s.l[k] = x at hpt hx1 hc
  obtain ⟨m, rfl⟩ := Int.eq_ofNat_of_zero_le hx1.1
  have hm : m < 18446744073709551616 := by omega
  repeat first | refine W.ia tblOk rfl rfl rfl rfl rfl rfl ha (by omega) (by omega) ?_ | refine W.ldV tblOk rfl rfl rfl hV hpt ?_ | (with_reducible first | refine za ?_ | refine zb ?_ | refine zc ?_) | refine ym zr ?_ | refine yn 0 zr ?_ | refine yn 1 zr ?_ | refine yn 2 zr ?_ | refine yn 3 zr ?_ | (refine yo zr ?_; intro _) | (refine yp zr ?_; intro _) | refine yq zr ?_ | refine ys zr ?_ | refine yu zr ?_ | refine yv zr ?_ | (with_reducible first | refine zd ?_ | refine ze ?_ | refine zf ?_ | refine zg ?_ | refine zh ?_ | refine zi ?_ | refine zj ?_ | refine zk ?_ | refine zl ?_) | refine zz zr ?_ | refine zw (by decide +kernel) ?_ | refine zx zr zr zr ?_ | refine zy zr zr ?_ | refine W.condT zr ?_ | refine W.condF zr ?_
  have hnext := fun c' (hc' : c' ++ putsS (s.l.drop (k + 1)) = R) => ih ⟨(k + 1, c'), by show k + 1 ≤ _; omega, hc'⟩ (by show s.l.length - (k + 1) < s.l.length - k; omega)
  refine W.loopR (α := { q : List Nat × Nat // q.1 ++ (putS q.2 ++ putsS (s.l.drop (k + 1))) = R ∧ q.2 < 18446744073709551616 }) (fun q => q.1.2) (fun q => [(0, .str q.1.1), (1, _), (5, .int .i64 (k : Int)), (6, .int .u64 (q.1.2 : Int))]) (fun q => []) ⟨(c, m), hc, hm⟩ ⟨rfl, rfl, rfl, rfl⟩ (List.nil_sublist _) ?_
  clear hc hm hx1 hpt hV ha ih
  rintro ⟨⟨c, m⟩, hc, hm⟩ ih2
  simp only at ih2 hc hm ⊢
  have hcl : c.length + 10 ≤ 3000000000000 := by rw [← hc, List.length_append] at hRl; omega
  repeat first | (with_reducible first | refine za ?_ | refine zb ?_ | refine zc ?_) | refine ym zr ?_ | refine yn 0 zr ?_ | refine yn 1 zr ?_ | refine yn 2 zr ?_ | refine yn 3 zr ?_ | (refine yo zr ?_; intro _) | (refine yp zr ?_; intro _) | refine yq zr ?_ | refine ys zr ?_ | refine yu zr ?_ | refine yv zr ?_ | (with_reducible first | refine zd ?_ | refine ze ?_ | refine zf ?_ | refine zg ?_ | refine zh ?_ | refine zi ?_ | refine zj ?_ | refine zk ?_ | refine zl ?_) | refine zz zr ?_ | refine zw (by decide +kernel) ?_ | refine zx zr zr zr ?_ | refine zy zr zr ?_ | refine W.condT zr ?_ | refine W.condF zr ?_
  refine W.condP rfl ?_ ?_ <;> intro hge
  · have hge : ¬ m < 128 := by omega
    rw [putS_ge hge] at hc
    have e1 : IntKind.u8.wrap (IntKind.u64.wrap ((m : Int).tmod 128 + 128)) = ((m % 128 + 128 : Nat) : Int) := by
      rw [Int.tmod_eq_emod_of_nonneg (by omega), wrapU64, wrapU8]; omega
    have e2 : IntKind.u64.wrap ((m : Int).tdiv 128) = ((m / 128 : Nat) : Int) := by
      rw [Int.tdiv_eq_ediv_of_nonneg (by omega), wrapU64]; omega
    repeat first | refine W.rem rfl rfl rfl rfl (by decide) ?_ | refine W.div rfl rfl rfl rfl (by decide) ?_ | (refine W.bsl tblOk rfl rfl rfl rfl (by decide) rfl rfl rfl ?_; intro _) | refine W.text tblOk 0 rfl rfl rfl rfl rfl rfl rfl rfl rfl rfl ?_ | refine W.cat rfl rfl rfl rfl (by show c.length + 1 ≤ _; omega) ?_ | (with_reducible first | refine za ?_ | refine zb ?_ | refine zc ?_) | refine ym zr ?_ | refine yn 0 zr ?_ | refine yn 1 zr ?_ | refine yn 2 zr ?_ | refine yn 3 zr ?_ | (refine yo zr ?_; intro _) | (refine yp zr ?_; intro _) | refine yq zr ?_ | refine ys zr ?_ | refine yu zr ?_ | refine yv zr ?_ | (with_reducible first | refine zd ?_ | refine ze ?_ | refine zf ?_ | refine zg ?_ | refine zh ?_ | refine zi ?_ | refine zj ?_ | refine zk ?_ | refine zl ?_) | refine zz zr ?_ | refine zw (by decide +kernel) ?_ | refine zx zr zr zr ?_ | refine zy zr zr ?_ | refine W.condT zr ?_ | refine W.condF zr ?_
    rw [e1, e2]
    have h9 := ih2 ⟨(c ++ [m % 128 + 128], m / 128), by show (c ++ [m % 128 + 128]) ++ _ = R; rw [← hc]; simp, by show m / 128 < _; omega⟩ (by show m / 128 < m; omega)
    refine W.weak _ _ ?_ ?_ h9
    · exact ⟨rfl, rfl, rfl, rfl⟩
    · exact List.nil_sublist _
  · have hlt' : m < 128 := by omega
    rw [putS_lt hlt'] at hc
    have e1 : IntKind.u8.wrap (m : Int) = ((m : Nat) : Int) := by rw [wrapU8]; omega
    clear ih2
    repeat first | (refine W.bsl tblOk rfl rfl rfl rfl (by decide) rfl rfl rfl ?_; intro _) | refine W.text tblOk 0 rfl rfl rfl rfl rfl rfl rfl rfl rfl rfl ?_ | refine W.cat rfl rfl rfl rfl (by show c.length + 1 ≤ _; omega) ?_ | (with_reducible first | refine za ?_ | refine zb ?_ | refine zc ?_) | refine ym zr ?_ | refine yn 0 zr ?_ | refine yn 1 zr ?_ | refine yn 2 zr ?_ | refine yn 3 zr ?_ | (refine yo zr ?_; intro _) | (refine yp zr ?_; intro _) | refine yq zr ?_ | refine ys zr ?_ | refine yu zr ?_ | refine yv zr ?_ | (with_reducible first | refine zd ?_ | refine ze ?_ | refine zf ?_ | refine zg ?_ | refine zh ?_ | refine zi ?_ | refine zj ?_ | refine zk ?_ | refine zl ?_) | refine zz zr ?_ | refine zw (by decide +kernel) ?_ | refine zx zr zr zr ?_ | refine zy zr zr ?_ | refine W.condT zr ?_ | refine W.condF zr ?_
    rw [e1, wN (by omega)]
    refine W.weak _ _ ?_ ?_ (hnext (c ++ [m]) (by rw [← hc]; simp))
    · exact ⟨rfl, rfl, rfl⟩
    · exact List.nil_sublist _
theorem oneR_c (hp : Plain g 64 = true) (h1 : Plain g 63 = true) {x : Int} (hx : 0 ≤ x ∧ x < 18446744073709551616) : Cl Try.prog g V 64 [.int .u64 x] [] fun o _ => o = .ret (.str (putS x.toNat)) := by
  refine Cl.enter hp Try.func64 rfl ?_
  have hc : ∀ V (i : K), (⟨some (i, 0), .ex 1, [x]⟩ : Sl Int).In V false 1 (AV.int .u64) → Cl Try.prog g V 63 [.str [], .slice (some (i, 0)) 1 (.ex 1)] [] fun o _ => o = .ret (.str (putS x.toNat)) := fun V i h => by
    have h9 : Cl Try.prog g V 63 [.str [], .slice (some (i, 0)) 1 (.ex 1)] [] fun o _ => o = .ret (.str ([] ++ putsS [x])) := putR_c h1 (b := []) h (fun y hy => by simp at hy; subst hy; omega) (by simp) (by simp)
    rw [show [] ++ putsS [x] = putS x.toNat by simp [putsS]] at h9
    exact h9
  repeat first | (refine W.bsl tblOk rfl rfl rfl rfl (by decide) rfl rfl rfl ?_; intro i0) | (with_reducible first | refine za ?_ | refine zb ?_ | refine zc ?_) | refine ym zr ?_ | refine yn 0 zr ?_ | refine yn 1 zr ?_ | refine yn 2 zr ?_ | refine yn 3 zr ?_ | (refine yo zr ?_; intro _) | (refine yp zr ?_; intro _) | refine yq zr ?_ | refine ys zr ?_ | refine yu zr ?_ | refine yv zr ?_ | (with_reducible first | refine zd ?_ | refine ze ?_ | refine zf ?_ | refine zg ?_ | refine zh ?_ | refine zi ?_ | refine zj ?_ | refine zk ?_ | refine zl ?_) | refine zz zr ?_ | refine zw (by decide +kernel) ?_ | refine zx zr zr zr ?_ | refine zy zr zr ?_ | refine W.condT zr ?_ | refine W.condF zr ?_
  refine W.callLP rfl rfl rfl rfl (hc _ i0 (lent_in (c := .ex 1) (xs := [x]))) ?_
  repeat' first | (with_reducible first | refine za ?_ | refine zb ?_ | refine zc ?_) | refine ym zr ?_ | refine yn 0 zr ?_ | refine yn 1 zr ?_ | refine yn 2 zr ?_ | refine yn 3 zr ?_ | (refine yo zr ?_; intro _) | (refine yp zr ?_; intro _) | refine yq zr ?_ | refine ys zr ?_ | refine yu zr ?_ | refine yv zr ?_ | (with_reducible first | refine zd ?_ | refine ze ?_ | refine zf ?_ | refine zg ?_ | refine zh ?_ | refine zi ?_ | refine zj ?_ | refine zk ?_ | refine zl ?_) | refine zz zr ?_ | refine zw (by decide +kernel) ?_ | refine zx zr zr zr ?_ | refine zy zr zr ?_ | (refine W.condP zr ?_ ?_ <;> intro _) | refine W.condT zr ?_ | refine W.condF zr ?_ | (refine W.cond zr ?_ ?_ <;> intro _) | (refine W.gs zr zr zr zr ?_ ?_ <;> intro _) | (refine W.gsB zr zr zr zr ?_ ?_ <;> intro _) | refine W.done zr ?_ | refine W.doneN zr ?_
  rfl
theorem putTextR_c (hp : Plain g 41 = true) (h1 : Plain g 63 = true) {b s : List Nat} (hb : b.length ≤ 1000000000) (hl : s.length ≤ 140737488355328) :
    Cl Try.prog g V 41 [.str b, .str s] [] fun o _ => o = .ret (.str (b ++ putS s.length ++ s)) := by
  refine Cl.enter hp Try.func41 rfl ?_
  have e1 : IntKind.u64.wrap (s.length : Int) = (s.length : Int) := by rw [wrapU64]; omega
  have hc : ∀ V (i : K), (⟨some (i, 0), .ex 1, [(s.length : Int)]⟩ : Sl Int).In V false 1 (AV.int .u64) → Cl Try.prog g V 63 [.str b, .slice (some (i, 0)) 1 (.ex 1)] [] fun o _ => o = .ret (.str (b ++ putS s.length)) := fun V i h => by
    have h9 : Cl Try.prog g V 63 [.str b, .slice (some (i, 0)) 1 (.ex 1)] [] fun o _ => o = .ret (.str (b ++ putsS [(s.length : Int)])) := putR_c h1 (b := b) h (fun x hx => by simp at hx; subst hx; omega) (by simp) (by omega)
    rw [show putsS [(s.length : Int)] = putS s.length by simp [putsS]] at h9
    exact h9
  have hlen := putS_len10 (n := s.length) (by omega)
  repeat first | (refine W.bsl tblOk rfl rfl rfl rfl (by decide) rfl rfl rfl ?_; intro i0) | (with_reducible first | refine za ?_ | refine zb ?_ | refine zc ?_) | refine ym zr ?_ | refine yn 0 zr ?_ | refine yn 1 zr ?_ | refine yn 2 zr ?_ | refine yn 3 zr ?_ | (refine yo zr ?_; intro _) | (refine yp zr ?_; intro _) | refine yq zr ?_ | refine ys zr ?_ | refine yu zr ?_ | refine yv zr ?_ | (with_reducible first | refine zd ?_ | refine ze ?_ | refine zf ?_ | refine zg ?_ | refine zh ?_ | refine zi ?_ | refine zj ?_ | refine zk ?_ | refine zl ?_) | refine zz zr ?_ | refine zw (by decide +kernel) ?_ | refine zx zr zr zr ?_ | refine zy zr zr ?_ | refine W.condT zr ?_ | refine W.condF zr ?_
  rw [e1]
  refine W.callLP rfl rfl rfl rfl (hc _ i0 (lent_in (c := .ex 1) (xs := [(s.length : Int)]))) ?_
  repeat' first | refine W.cat rfl rfl rfl rfl (by rw [List.length_append]; omega) ?_ | (with_reducible first | refine za ?_ | refine zb ?_ | refine zc ?_) | refine ym zr ?_ | refine yn 0 zr ?_ | refine yn 1 zr ?_ | refine yn 2 zr ?_ | refine yn 3 zr ?_ | (refine yo zr ?_; intro _) | (refine yp zr ?_; intro _) | refine yq zr ?_ | refine ys zr ?_ | refine yu zr ?_ | refine yv zr ?_ | (with_reducible first | refine zd ?_ | refine ze ?_ | refine zf ?_ | refine zg ?_ | refine zh ?_ | refine zi ?_ | refine zj ?_ | refine zk ?_ | refine zl ?_) | refine zz zr ?_ | refine zw (by decide +kernel) ?_ | refine zx zr zr zr ?_ | refine zy zr zr ?_ | (refine W.condP zr ?_ ?_ <;> intro _) | refine W.condT zr ?_ | refine W.condF zr ?_ | (refine W.cond zr ?_ ?_ <;> intro _) | (refine W.gs zr zr zr zr ?_ ?_ <;> intro _) | (refine W.gsB zr zr zr zr ?_ ?_ <;> intro _) | refine W.done zr ?_ | refine W.doneN zr ?_
  rfl
theorem frameR_c (hp : Plain g 45 = true) (h3 : Plain g 41 = true) (h2 : Plain g 63 = true) (hc : Plain g 66 = true) (hs : Plain g 82 = true) {b : List Nat} (hb : ∀ c ∈ b, c < 256) (hl : b.length ≤ 1000000000) : Cl Try.prog g V 45 [.str b] [] fun o _ => o = .ret (frameV b) := by
  refine Cl.enter hp Try.func45 rfl ?_
  have k1 := putTextR_c (g := g) (V := V) h3 h2 (b := []) (s := b) (by simp) (by omega)
  have k2 := tail_cR (g := g) (V := V) hc hs hb (by omega)
  have hp10 := putS_len10 (n := b.length) (by omega)
  rw [List.nil_append] at k1
  unfold frameV
  repeat' first | refine W.callP rfl rfl rfl rfl k1 ?_ | refine W.callP rfl rfl rfl rfl k2 ?_ | refine W.cat rfl rfl rfl rfl (by rw [List.length_append]; show _ + 4 ≤ _; omega) ?_ | (with_reducible first | refine za ?_ | refine zb ?_ | refine zc ?_) | refine ym zr ?_ | refine yn 0 zr ?_ | refine yn 1 zr ?_ | refine yn 2 zr ?_ | refine yn 3 zr ?_ | (refine yo zr ?_; intro _) | (refine yp zr ?_; intro _) | refine yq zr ?_ | refine ys zr ?_ | refine yu zr ?_ | refine yv zr ?_ | (with_reducible first | refine zd ?_ | refine ze ?_ | refine zf ?_ | refine zg ?_ | refine zh ?_ | refine zi ?_ | refine zj ?_ | refine zk ?_ | refine zl ?_) | refine zz zr ?_ | refine zw (by decide +kernel) ?_ | refine zx zr zr zr ?_ | refine zy zr zr ?_ | (refine W.condP zr ?_ ?_ <;> intro _) | refine W.condT zr ?_ | refine W.condF zr ?_ | (refine W.cond zr ?_ ?_ <;> intro _) | (refine W.gs zr zr zr zr ?_ ?_ <;> intro _) | (refine W.gsB zr zr zr zr ?_ ?_ <;> intro _) | refine W.done zr ?_ | refine W.doneN zr ?_
  · rw [if_pos (by omega)]; rfl
  · rw [if_neg (by omega)]; rfl
/-! ### a table's bytes -/
/-- A number, as it is written whatever it is. -/
def nS (n : Int) : List Nat := putS (IntKind.u64.wrap n).toNat
theorem wrapU64_in (n : Int) : 0 ≤ IntKind.u64.wrap n ∧ IntKind.u64.wrap n < 18446744073709551616 := by rw [wrapU64]; omega
theorem nS_len (n : Int) : (nS n).length ≤ 10 := putS_len10 (by have := wrapU64_in n; omega)
theorem nS_byte (n : Int) : ∀ c ∈ nS n, c < 256 := putS_byte _
theorem len_app {b : List Nat} {n : Int} {L : Nat} (h : b.length ≤ L) : (b ++ nS n).length ≤ L + 10 := by
  have := nS_len n
  rw [List.length_append]; omega
def zS (n : Int) : List Nat := putS (zigS n).toNat
theorem zigS_in {n : Int} (h : In64 n) : 0 ≤ zigS n ∧ zigS n < 18446744073709551616 := by unfold In64 at h; unfold zigS; split <;> omega
theorem zS_len {n : Int} (h : In64 n) : (zS n).length ≤ 10 := putS_len10 (by have := zigS_in h; omega)
def sgS (l : List Int) : List Nat := nS l.length ++ l.flatMap zS
def spS (x : Span) : List Nat := nS (x.t - x.f)
def rwS (r : Row) : List Nat := nS r.k ++ (nS r.o ++ (nS r.i ++ r.spans.flatMap spS))
def gdS (x : Guard) : List Nat := spS x.when ++ (nS x.rows.l.length ++ x.rows.l.flatMap rwS)
def stS (l : List Guard) : List Nat := nS l.length ++ l.flatMap gdS
def inS (x : Instr) : List Nat := nS x.k ++ nS x.a
def encS (t : Table) : List Nat := putS t.name.length ++ (t.name ++ (sgS t.regs.l ++ (nS t.slots ++ (sgS t.consts.l ++ (nS t.code.l.length ++ (t.code.l.flatMap inS ++ (nS t.states.l.length ++ t.states.l.flatMap fun s => stS s.l)))))))
theorem flat_le {α : Type} {f : α → List Nat} {c : Nat} : ∀ (l : List α), (∀ x ∈ l, (f x).length ≤ c) → (l.flatMap f).length ≤ c * l.length
  | [], _ => by simp
  | x :: l, h => by
    have h1 := h x (by simp)
    have h2 := flat_le l fun y hy => h y (by simp [hy])
    rw [List.flatMap_cons, List.length_append, List.length_cons, Nat.mul_succ]; omega
theorem flat_byte {α : Type} {f : α → List Nat} (h : ∀ x, ∀ c ∈ f x, c < 256) (l : List α) : ∀ c ∈ l.flatMap f, c < 256 := fun c hc => by
  obtain ⟨x, -, hx⟩ := List.mem_flatMap.1 hc
  exact h x c hx
theorem rwS_len (r : Row) : (rwS r).length ≤ 60 := by
  have h1 := nS_len r.k
  have h2 := nS_len r.o
  have h3 := nS_len r.i
  have h4 := flat_le (f := spS) r.spans (fun x _ => nS_len (x.t - x.f))
  have hl : r.spans.length ≤ 3 := by unfold Row.spans; (repeat' split) <;> simp
  simp only [rwS, List.length_append]; omega
theorem gdS_len (x : Guard) : (gdS x).length ≤ 20 + 60 * x.rows.l.length := by
  have h1 := nS_len (x.when.t - x.when.f)
  have h2 := nS_len x.rows.l.length
  have h3 := flat_le (f := rwS) x.rows.l (fun r _ => rwS_len r)
  simp only [gdS, spS, List.length_append]; omega
end Go.Proofs.Ythkkphkeonnnfaa.Abs
