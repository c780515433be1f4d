/- A table's bytes: the document's functions. No condition but those that each theorem names. -/
import Derived.Test.YthkkphkeonnnfaaVD
import Derived.Test.YthkkphkeonnnfaaTV
namespace Go.Proofs.Ythkkphkeonnnfaa.Abs
open Go
set_option linter.unusedVariables false
set_option linter.unusedSimpArgs false
set_option maxRecDepth 100000
set_option maxHeartbeats 4000000
attribute [local irreducible] W Cl Bd
variable {g : Cg} {V : K → Option (List AV)}
structure PlainsR (g : Cg) : Prop where
  number : Plain g 43 = true
  one : Plain g 64 = true
  put : Plain g 63 = true
  signed : Plain g 42 = true
  zig : Plain g 65 = true
  state : Plain g 44 = true
  has : Plain g 60 = true
  putText : Plain g 41 = true
  frame : Plain g 45 = true
  tail : Plain g 66 = true
  sum : Plain g 82 = true
  encode : Plain g 21 = true
theorem numberR_c (P : PlainsR g) {b : List Nat} {n : Int} (hb : b.length ≤ 1000000000000) : Cl Try.prog g V 43 [.str b, .int .i64 n] [] fun o _ => o = .ret (.str (b ++ nS n)) := by
  refine Cl.enter P.number Try.func43 rfl ?_
  have h1 := oneR_c (g := g) (V := V) P.one P.put (wrapU64_in n)
  have hl := nS_len n
  repeat' first | refine W.callP rfl rfl rfl rfl h1 ?_ | refine W.cat rfl rfl rfl rfl (by show b.length + (nS n).length ≤ _; omega) ?_ | (with_reducible first | refine za ?_ | refine zb ?_ | refine zc ?_) | refine ym zr ?_ | refine yn 0 zr ?_ | refine yn 1 zr ?_ | refine yn 2 zr ?_ | refine yn 3 zr ?_ | (refine yo zr ?_; intro _) | (refine yp zr ?_; intro _) | refine yq zr ?_ | refine ys zr ?_ | refine yu zr ?_ | refine yv zr ?_ | (with_reducible first | refine zd ?_ | refine ze ?_ | refine zf ?_ | refine zg ?_ | refine zh ?_ | refine zi ?_ | refine zj ?_ | refine zk ?_ | refine zl ?_) | refine zz zr ?_ | refine zw (by decide +kernel) ?_ | refine zx zr zr zr ?_ | refine zy zr zr ?_ | (refine W.condP zr ?_ ?_ <;> intro _) | refine W.condT zr ?_ | refine W.condF zr ?_ | (refine W.cond zr ?_ ?_ <;> intro _) | (refine W.gs zr zr zr zr ?_ ?_ <;> intro _) | (refine W.gsB zr zr zr zr ?_ ?_ <;> intro _) | refine W.done zr ?_ | refine W.doneN zr ?_
  rfl
theorem signedR_c (P : PlainsR g) {b : List Nat} {s : Sl Int} (hs : s.In V false 1 (AV.int .i64)) (hx : ∀ x ∈ s.l, In64 x) (hsl : s.l.length ≤ 1000000) (hb : b.length ≤ 1000000000) : Cl Try.prog g V 42 [.str b, s.v] [] fun o _ => o = .ret (.str (b ++ sgS s.l)) := by
  refine Cl.enter P.signed Try.func42 rfl ?_
  generalize hR : b ++ sgS s.l = R
  have hRl : R.length ≤ 2000000000 := by
    have h1 := nS_len s.l.length
    have h2 := flat_le (f := zS) s.l (fun x h => zS_len (hx x h))
    rw [← hR]; simp only [sgS, List.length_append]; omega
  repeat first | (refine W.callP rfl rfl rfl rfl (numberR_c P ?hb) ?_; case hb => (omega)) | (with_reducible first | refine za ?_ | refine zb ?_ | refine zc ?_) | refine ym zr ?_ | refine yn 0 zr ?_ | refine yn 1 zr ?_ | refine yn 2 zr ?_ | refine yn 3 zr ?_ | (refine yo zr ?_; intro _) | (refine yp zr ?_; intro _) | refine yq zr ?_ | refine ys zr ?_ | refine yu zr ?_ | refine yv zr ?_ | (with_reducible first | refine zd ?_ | refine ze ?_ | refine zf ?_ | refine zg ?_ | refine zh ?_ | refine zi ?_ | refine zj ?_ | refine zk ?_ | refine zl ?_) | refine zz zr ?_ | refine zw (by decide +kernel) ?_ | refine zx zr zr zr ?_ | refine zy zr zr ?_ | refine W.condT zr ?_ | refine W.condF zr ?_
  refine W.loopR (α := { q : Nat × List Nat // q.1 ≤ s.l.length ∧ q.2 ++ (s.l.drop q.1).flatMap zS = R }) (fun q => s.l.length - q.1.1) (fun q => [(0, .str q.1.2), (1, _), (5, .int .i64 (q.1.1 : Int))]) (fun q => []) ⟨(0, b ++ nS s.l.length), by simp, by show (b ++ nS s.l.length) ++ _ = R; rw [← hR, sgS, List.append_assoc]; rfl⟩ ⟨rfl, rfl, rfl⟩ (List.nil_sublist _) ?_
  rintro ⟨⟨k, c⟩, hk, hc⟩ ih
  simp only at ih hk hc ⊢
  repeat first | (with_reducible first | refine za ?_ | refine zb ?_ | refine zc ?_) | refine ym zr ?_ | refine yn 0 zr ?_ | refine yn 1 zr ?_ | refine yn 2 zr ?_ | refine yn 3 zr ?_ | (refine yo zr ?_; intro _) | (refine yp zr ?_; intro _) | refine yq zr ?_ | refine ys zr ?_ | refine yu zr ?_ | refine yv zr ?_ | (with_reducible first | refine zd ?_ | refine ze ?_ | refine zf ?_ | refine zg ?_ | refine zh ?_ | refine zi ?_ | refine zj ?_ | refine zk ?_ | refine zl ?_) | refine zz zr ?_ | refine zw (by decide +kernel) ?_ | refine zx zr zr zr ?_ | refine zy zr zr ?_ | refine W.condT zr ?_ | refine W.condF zr ?_
  refine W.condP rfl ?_ ?_ <;> intro hlt
  rotate_left
  · clear ih
    rw [List.drop_eq_nil_of_le (by omega)] at hc
    have hcR : c = R := by simpa using hc
    subst hcR
    repeat' first | (with_reducible first | refine za ?_ | refine zb ?_ | refine zc ?_) | refine ym zr ?_ | refine yn 0 zr ?_ | refine yn 1 zr ?_ | refine yn 2 zr ?_ | refine yn 3 zr ?_ | (refine yo zr ?_; intro _) | (refine yp zr ?_; intro _) | refine yq zr ?_ | refine ys zr ?_ | refine yu zr ?_ | refine yv zr ?_ | (with_reducible first | refine zd ?_ | refine ze ?_ | refine zf ?_ | refine zg ?_ | refine zh ?_ | refine zi ?_ | refine zj ?_ | refine zk ?_ | refine zl ?_) | refine zz zr ?_ | refine zw (by decide +kernel) ?_ | refine zx zr zr zr ?_ | refine zy zr zr ?_ | (refine W.condP zr ?_ ?_ <;> intro _) | refine W.condT zr ?_ | refine W.condF zr ?_ | (refine W.cond zr ?_ ?_ <;> intro _) | (refine W.gs zr zr zr zr ?_ ?_ <;> intro _) | (refine W.gsB zr zr zr zr ?_ ?_ <;> intro _) | refine W.done zr ?_ | refine W.doneN zr ?_
    rfl
  have hlt : k < s.l.length := by omega
  obtain ⟨jn, o, cs, ha, hV, hpt⟩ := Sl.In.get hs hlt
  have hx1 := hx _ (List.getElem_mem hlt)
  rw [List.drop_eq_getElem_cons hlt, List.flatMap_cons] at hc
  generalize s.l[k] = x at hpt hx1 hc
  have hzl := zS_len hx1
  have hcl : c.length ≤ 2000000000 := by rw [← hc, List.length_append] at hRl; omega
  have h1 := zigR_c (g := g) (V := V) P.zig hx1
  have h2 := oneR_c (g := g) (V := V) P.one P.put (zigS_in hx1)
  repeat first | (refine W.ia tblOk rfl rfl rfl rfl rfl rfl ha ?h1 ?h2 ?_; (case h1 => omega); (case h2 => omega)) | refine W.ldV tblOk rfl rfl rfl hV hpt ?_ | refine W.callP rfl rfl rfl rfl h1 ?_ | refine W.callP rfl rfl rfl rfl h2 ?_ | refine W.cat rfl rfl rfl rfl (by show c.length + (zS x).length ≤ _; omega) ?_ | (with_reducible first | refine za ?_ | refine zb ?_ | refine zc ?_) | refine ym zr ?_ | refine yn 0 zr ?_ | refine yn 1 zr ?_ | refine yn 2 zr ?_ | refine yn 3 zr ?_ | (refine yo zr ?_; intro _) | (refine yp zr ?_; intro _) | refine yq zr ?_ | refine ys zr ?_ | refine yu zr ?_ | refine yv zr ?_ | (with_reducible first | refine zd ?_ | refine ze ?_ | refine zf ?_ | refine zg ?_ | refine zh ?_ | refine zi ?_ | refine zj ?_ | refine zk ?_ | refine zl ?_) | refine zz zr ?_ | refine zw (by decide +kernel) ?_ | refine zx zr zr zr ?_ | refine zy zr zr ?_ | refine W.condT zr ?_ | refine W.condF zr ?_
  rw [wN (by omega)]
  refine W.weak _ _ ?_ ?_ (ih ⟨(k + 1, c ++ zS x), by show k + 1 ≤ _; omega, by show (c ++ zS x) ++ _ = R; rw [← hc, List.append_assoc]⟩ (by show s.l.length - (k + 1) < s.l.length - k; omega))
  · exact ⟨rfl, rfl, rfl⟩
  · exact List.nil_sublist _
theorem stS_len {l : List Guard} (h : l.length ≤ 12) (h8 : ∀ x ∈ l, x.rows.l.length ≤ 8) : (stS l).length ≤ 6100 := by
  have h1 := nS_len l.length
  have h2 := flat_le (f := gdS) (c := 500) l (fun x hx => by have := gdS_len x; have := h8 x hx; omega)
  simp only [stS, List.length_append]; omega
theorem stateR_c (P : PlainsR g) {b : List Nat} {s : Sl Guard} (hs : s.In V true 5 Guard.v) (hok : ∀ x ∈ s.l, x.Ok V) (h12 : s.l.length ≤ 12) (h8 : ∀ x ∈ s.l, x.rows.l.length ≤ 8) (hin : ∀ x ∈ s.l, GuardIn 0 4096 x) (hb : b.length ≤ 1000000000) : Cl Try.prog g V 44 [.str b, s.v] [] fun o _ => o = .ret (.str (b ++ stS s.l)) := by
  refine Cl.enter P.state Try.func44 rfl ?_
  have hsl := stS_len h12 h8
  generalize hR : b ++ stS s.l = R
  have hRl : R.length ≤ 2000000000 := by rw [← hR, List.length_append]; omega
  repeat first | (refine W.callP rfl rfl rfl rfl (numberR_c P ?hb) ?_; case hb => (omega)) | (with_reducible first | refine za ?_ | refine zb ?_ | refine zc ?_) | refine ym zr ?_ | refine yn 0 zr ?_ | refine yn 1 zr ?_ | refine yn 2 zr ?_ | refine yn 3 zr ?_ | (refine yo zr ?_; intro _) | (refine yp zr ?_; intro _) | refine yq zr ?_ | refine ys zr ?_ | refine yu zr ?_ | refine yv zr ?_ | (with_reducible first | refine zd ?_ | refine ze ?_ | refine zf ?_ | refine zg ?_ | refine zh ?_ | refine zi ?_ | refine zj ?_ | refine zk ?_ | refine zl ?_) | refine zz zr ?_ | refine zw (by decide +kernel) ?_ | refine zx zr zr zr ?_ | refine zy zr zr ?_ | refine W.condT zr ?_ | refine W.condF zr ?_
  refine W.loopR (α := { q : Nat × List Nat // q.1 ≤ s.l.length ∧ q.2 ++ (s.l.drop q.1).flatMap gdS = R }) (fun q => s.l.length - q.1.1) (fun q => [(0, .str q.1.2), (1, _), (5, .int .i64 (q.1.1 : Int))]) (fun q => []) ⟨(0, b ++ nS s.l.length), by simp, by show (b ++ nS s.l.length) ++ _ = R; rw [← hR, stS, List.append_assoc]; rfl⟩ ⟨rfl, rfl, rfl⟩ (List.nil_sublist _) ?_
  clear hsl hR hb
  rintro ⟨⟨k, c⟩, hk, hc⟩ ih
  simp only at ih hk hc ⊢
  repeat first | (with_reducible first | refine za ?_ | refine zb ?_ | refine zc ?_) | refine ym zr ?_ | refine yn 0 zr ?_ | refine yn 1 zr ?_ | refine yn 2 zr ?_ | refine yn 3 zr ?_ | (refine yo zr ?_; intro _) | (refine yp zr ?_; intro _) | refine yq zr ?_ | refine ys zr ?_ | refine yu zr ?_ | refine yv zr ?_ | (with_reducible first | refine zd ?_ | refine ze ?_ | refine zf ?_ | refine zg ?_ | refine zh ?_ | refine zi ?_ | refine zj ?_ | refine zk ?_ | refine zl ?_) | refine zz zr ?_ | refine zw (by decide +kernel) ?_ | refine zx zr zr zr ?_ | refine zy zr zr ?_ | refine W.condT zr ?_ | refine W.condF zr ?_
  refine W.condP rfl ?_ ?_ <;> intro hlt
  rotate_left
  · clear ih
    rw [List.drop_eq_nil_of_le (by omega)] at hc
    have hcR : c = R := by simpa using hc
    subst hcR
    repeat' first | (with_reducible first | refine za ?_ | refine zb ?_ | refine zc ?_) | refine ym zr ?_ | refine yn 0 zr ?_ | refine yn 1 zr ?_ | refine yn 2 zr ?_ | refine yn 3 zr ?_ | (refine yo zr ?_; intro _) | (refine yp zr ?_; intro _) | refine yq zr ?_ | refine ys zr ?_ | refine yu zr ?_ | refine yv zr ?_ | (with_reducible first | refine zd ?_ | refine ze ?_ | refine zf ?_ | refine zg ?_ | refine zh ?_ | refine zi ?_ | refine zj ?_ | refine zk ?_ | refine zl ?_) | refine zz zr ?_ | refine zw (by decide +kernel) ?_ | refine zx zr zr zr ?_ | refine zy zr zr ?_ | (refine W.condP zr ?_ ?_ <;> intro _) | refine W.condT zr ?_ | refine W.condF zr ?_ | (refine W.cond zr ?_ ?_ <;> intro _) | (refine W.gs zr zr zr zr ?_ ?_ <;> intro _) | (refine W.gsB zr zr zr zr ?_ ?_ <;> intro _) | refine W.done zr ?_ | refine W.doneN zr ?_
    rfl
  have hlt : k < s.l.length := by omega
  obtain ⟨jn, o, cs, ha, hV, hpt⟩ := Sl.In.get hs hlt
  have hg := hok _ (List.getElem_mem hlt)
  have hx8 := h8 _ (List.getElem_mem hlt)
  have hinx := hin _ (List.getElem_mem hlt)
  rw [List.drop_eq_getElem_cons hlt, List.flatMap_cons] at hc
  generalize s.l[k] = x at hpt hg hx8 hinx hc
  obtain ⟨hw0, hrows⟩ := hinx
  have hcl : c.length ≤ 2000000000 := by rw [← hc, List.length_append] at hRl; omega
  have e1 : IntKind.i64.wrap (x.when.t - x.when.f) = x.when.t - x.when.f := w64 (by omega) (by omega)
  repeat first | (refine W.ia tblOk rfl rfl rfl rfl rfl rfl ha ?h1 ?h2 ?_; (case h1 => omega); (case h2 => omega)) | refine W.ldV tblOk rfl rfl rfl hV hpt ?_ | (refine W.callP rfl rfl rfl rfl (numberR_c P ?hb) ?_; case hb => (first | omega | exact Nat.le_trans (len_app hcl) (by omega))) | (with_reducible first | refine za ?_ | refine zb ?_ | refine zc ?_) | refine ym zr ?_ | refine yn 0 zr ?_ | refine yn 1 zr ?_ | refine yn 2 zr ?_ | refine yn 3 zr ?_ | (refine yo zr ?_; intro _) | (refine yp zr ?_; intro _) | refine yq zr ?_ | refine ys zr ?_ | refine yu zr ?_ | refine yv zr ?_ | (with_reducible first | refine zd ?_ | refine ze ?_ | refine zf ?_ | refine zg ?_ | refine zh ?_ | refine zi ?_ | refine zj ?_ | refine zk ?_ | refine zl ?_) | refine zz zr ?_ | refine zw (by decide +kernel) ?_ | refine zx zr zr zr ?_ | refine zy zr zr ?_ | refine W.condT zr ?_ | refine W.condF zr ?_
  rw [e1]
  refine W.loopR (α := { q : Nat × List Nat // q.1 ≤ x.rows.l.length ∧ q.2 ++ ((x.rows.l.drop q.1).flatMap rwS ++ (s.l.drop (k + 1)).flatMap gdS) = R }) (fun q => x.rows.l.length - q.1.1) (fun q => [(0, .str q.1.2), (1, _), (5, .int .i64 (k : Int)), (6, _), (7, .int .i64 (q.1.1 : Int))]) (fun q => [_]) ⟨(0, c ++ nS (x.when.t - x.when.f) ++ nS x.rows.l.length), by simp, by show (c ++ nS (x.when.t - x.when.f) ++ nS x.rows.l.length) ++ _ = R; rw [← hc]; simp [gdS, spS]⟩ ⟨rfl, rfl, rfl, rfl, rfl⟩ (List.Sublist.refl _) ?_
  clear hc hcl e1
  rintro ⟨⟨j, c⟩, hj, hc⟩ ih2
  simp only at ih2 hj hc ⊢
  repeat first | (with_reducible first | refine za ?_ | refine zb ?_ | refine zc ?_) | refine ym zr ?_ | refine yn 0 zr ?_ | refine yn 1 zr ?_ | refine yn 2 zr ?_ | refine yn 3 zr ?_ | (refine yo zr ?_; intro _) | (refine yp zr ?_; intro _) | refine yq zr ?_ | refine ys zr ?_ | refine yu zr ?_ | refine yv zr ?_ | (with_reducible first | refine zd ?_ | refine ze ?_ | refine zf ?_ | refine zg ?_ | refine zh ?_ | refine zi ?_ | refine zj ?_ | refine zk ?_ | refine zl ?_) | refine zz zr ?_ | refine zw (by decide +kernel) ?_ | refine zx zr zr zr ?_ | refine zy zr zr ?_ | refine W.condT zr ?_ | refine W.condF zr ?_
  refine W.condP rfl ?_ ?_ <;> intro hlt2
  rotate_left
  · clear ih2
    rw [show x.rows.l.drop j = [] from List.drop_eq_nil_of_le (by omega), List.flatMap_nil, List.nil_append] at hc
    repeat first | (with_reducible first | refine za ?_ | refine zb ?_ | refine zc ?_) | refine ym zr ?_ | refine yn 0 zr ?_ | refine yn 1 zr ?_ | refine yn 2 zr ?_ | refine yn 3 zr ?_ | (refine yo zr ?_; intro _) | (refine yp zr ?_; intro _) | refine yq zr ?_ | refine ys zr ?_ | refine yu zr ?_ | refine yv zr ?_ | (with_reducible first | refine zd ?_ | refine ze ?_ | refine zf ?_ | refine zg ?_ | refine zh ?_ | refine zi ?_ | refine zj ?_ | refine zk ?_ | refine zl ?_) | refine zz zr ?_ | refine zw (by decide +kernel) ?_ | refine zx zr zr zr ?_ | refine zy zr zr ?_ | refine W.condT zr ?_ | refine W.condF zr ?_
    rw [wN (by omega)]
    refine W.weak _ _ ?_ ?_ (ih ⟨(k + 1, c), by show k + 1 ≤ _; omega, hc⟩ (by show s.l.length - (k + 1) < s.l.length - k; omega))
    · exact ⟨rfl, rfl, rfl⟩
    · exact List.nil_sublist _
  have hlt2 : j < x.rows.l.length := by omega
  obtain ⟨jn2, o2, cs2, ha2, hV2, hpt2⟩ := Sl.In.get hg.2.2.2.2.1 hlt2
  have hrow := hrows _ (List.getElem_mem hlt2)
  have hrok := hg.2.2.2.2.2 _ (List.getElem_mem hlt2)
  rw [List.drop_eq_getElem_cons hlt2, List.flatMap_cons] at hc
  generalize x.rows.l[j] = r at hpt2 hrow hrok hc
  have hcl : c.length ≤ 2000000000 := by rw [← hc, List.length_append] at hRl; omega
  have hnext := fun (c' : List Nat) (hc' : c' = c ++ rwS r) => ih2 ⟨(j + 1, c'), by show j + 1 ≤ _; omega, by rw [hc', ← hc]; simp⟩ (by show x.rows.l.length - (j + 1) < x.rows.l.length - j; omega)
  have ek : IntKind.i64.wrap r.k = r.k := by have := hrok.1; unfold In8 at this; exact w64 (by omega) (by omega)
  have eo : IntKind.i64.wrap r.o = r.o := by have := hrok.2.1; unfold In8 at this; exact w64 (by omega) (by omega)
  clear ih ih2
  repeat first | (refine W.ia tblOk rfl rfl rfl rfl rfl rfl ha2 ?h1 ?h2 ?_; (case h1 => omega); (case h2 => omega)) | refine W.ldV tblOk rfl rfl rfl hV2 hpt2 ?_ | (refine W.callP rfl rfl rfl rfl (numberR_c P ?hb) ?_; case hb => (first | omega | exact Nat.le_trans (len_app hcl) (by omega) | exact Nat.le_trans (len_app (len_app hcl)) (by omega))) | (with_reducible first | refine za ?_ | refine zb ?_ | refine zc ?_) | refine ym zr ?_ | refine yn 0 zr ?_ | refine yn 1 zr ?_ | refine yn 2 zr ?_ | refine yn 3 zr ?_ | (refine yo zr ?_; intro _) | (refine yp zr ?_; intro _) | refine yq zr ?_ | refine ys zr ?_ | refine yu zr ?_ | refine yv zr ?_ | (with_reducible first | refine zd ?_ | refine ze ?_ | refine zf ?_ | refine zg ?_ | refine zh ?_ | refine zi ?_ | refine zj ?_ | refine zk ?_ | refine zl ?_) | refine zz zr ?_ | refine zw (by decide +kernel) ?_ | refine zx zr zr zr ?_ | refine zy zr zr ?_ | refine W.condT zr ?_ | refine W.condF zr ?_
  rw [ek, eo]
  have hcase : (r.k = 1 ∧ r.o = 2) ∨ (r.k = 1 ∧ ¬ r.o = 2) ∨ r.k = 2 ∨ r.k = 4 ∨ (¬ r.k = 1 ∧ ¬ r.k = 2 ∧ ¬ r.k = 4) := by omega
  refine W.callR (Δ := []) rfl rfl rfl rfl (has_c P.has r) (by rintro v Δ' ⟨i, h, -⟩; cases h) ?_
  rintro v_ Δ_ ⟨i_, hv_, hm_⟩; injection hv_ with hv_; subst hv_
  rcases hcase with ⟨hk', ho'⟩ | ⟨hk', ho'⟩ | hk' | hk' | ⟨hk1', hk2', hk4'⟩
  · have hl2 : r.spans = [r.side, r.qty] := by simp [Row.spans, hk', ho']
    have hf0 := hrow r.side (by rw [hl2]; simp)
    have ef0 : IntKind.i64.wrap (r.side.t - r.side.f) = r.side.t - r.side.f := w64 (by omega) (by omega)
    have hf1 := hrow r.qty (by rw [hl2]; simp)
    have ef1 : IntKind.i64.wrap (r.qty.t - r.qty.f) = r.qty.t - r.qty.f := w64 (by omega) (by omega)
    rw [hasL_a hk' ho'] at hm_
    refine W.keep _ hm_ ?_
    repeat' first | refine W.condDT rfl (by decide) ?_ | refine W.condDF rfl (by decide) ?_ | refine W.condT rfl ?_ | refine W.condF rfl ?_ | (refine W.bsl tblOk rfl rfl rfl rfl (by decide) rfl rfl rfl ?_; intro _) | with_reducible refine W.loop (a := .seq (.seq (.region 18 _ _) _) _) ?_ | refine W.ia tblOk rfl rfl rfl rfl rfl rfl rfl (by decide) (by decide) ?_ | (refine W.callP rfl rfl rfl rfl (numberR_c P ?hb) ?_; case hb => (first | exact Nat.le_trans (len_app (len_app (len_app (hcl)))) (by omega) | exact Nat.le_trans (len_app (len_app (len_app (len_app (hcl))))) (by omega) | exact Nat.le_trans (len_app (len_app (len_app (len_app (len_app (hcl)))))) (by omega) | exact Nat.le_trans (len_app (len_app (len_app (len_app (len_app (len_app (hcl))))))) (by omega))) | (with_reducible first | refine za ?_ | refine zb ?_ | refine zc ?_) | refine ym zr ?_ | refine yn 0 zr ?_ | refine yn 1 zr ?_ | refine yn 2 zr ?_ | refine yn 3 zr ?_ | (refine yo zr ?_; intro _) | (refine yp zr ?_; intro _) | refine yq zr ?_ | refine ys zr ?_ | refine yu zr ?_ | refine yv zr ?_ | (with_reducible first | refine zd ?_ | refine ze ?_ | refine zf ?_ | refine zg ?_ | refine zh ?_ | refine zi ?_ | refine zj ?_ | refine zk ?_ | refine zl ?_) | refine zz zr ?_ | refine zw (by decide +kernel) ?_ | refine zx zr zr zr ?_ | refine zy zr zr ?_ | (refine W.condP zr ?_ ?_ <;> intro _) | refine W.condT zr ?_ | refine W.condF zr ?_ | (refine W.cond zr ?_ ?_ <;> intro _) | (refine W.gs zr zr zr zr ?_ ?_ <;> intro _) | (refine W.gsB zr zr zr zr ?_ ?_ <;> intro _) | refine W.done zr ?_ | refine W.doneN zr ?_
    rw [ef0]
    rw [ef1]
    rw [wN (by omega)]
    refine W.weak _ _ ?_ ?_ (hnext _ rfl)
    · refine ⟨?_, rfl, rfl, rfl, rfl⟩
      show some (AV.str _) = some (AV.str (c ++ rwS r))
      congr 2; simp [rwS, spS, hl2]
    · first | exact List.Sublist.refl _ | exact .cons _ (List.Sublist.refl _) | exact .cons _ (.cons _ (List.Sublist.refl _)) | exact .cons _ (.cons _ (.cons _ (List.Sublist.refl _)))
  · have hl2 : r.spans = [r.side, r.qty, r.price] := by simp [Row.spans, hk', ho']
    have hf0 := hrow r.side (by rw [hl2]; simp)
    have ef0 : IntKind.i64.wrap (r.side.t - r.side.f) = r.side.t - r.side.f := w64 (by omega) (by omega)
    have hf1 := hrow r.qty (by rw [hl2]; simp)
    have ef1 : IntKind.i64.wrap (r.qty.t - r.qty.f) = r.qty.t - r.qty.f := w64 (by omega) (by omega)
    have hf2 := hrow r.price (by rw [hl2]; simp)
    have ef2 : IntKind.i64.wrap (r.price.t - r.price.f) = r.price.t - r.price.f := w64 (by omega) (by omega)
    rw [hasL_b hk' ho'] at hm_
    refine W.keep _ hm_ ?_
    repeat' first | refine W.condDT rfl (by decide) ?_ | refine W.condDF rfl (by decide) ?_ | refine W.condT rfl ?_ | refine W.condF rfl ?_ | (refine W.bsl tblOk rfl rfl rfl rfl (by decide) rfl rfl rfl ?_; intro _) | with_reducible refine W.loop (a := .seq (.seq (.region 18 _ _) _) _) ?_ | refine W.ia tblOk rfl rfl rfl rfl rfl rfl rfl (by decide) (by decide) ?_ | (refine W.callP rfl rfl rfl rfl (numberR_c P ?hb) ?_; case hb => (first | exact Nat.le_trans (len_app (len_app (len_app (hcl)))) (by omega) | exact Nat.le_trans (len_app (len_app (len_app (len_app (hcl))))) (by omega) | exact Nat.le_trans (len_app (len_app (len_app (len_app (len_app (hcl)))))) (by omega) | exact Nat.le_trans (len_app (len_app (len_app (len_app (len_app (len_app (hcl))))))) (by omega))) | (with_reducible first | refine za ?_ | refine zb ?_ | refine zc ?_) | refine ym zr ?_ | refine yn 0 zr ?_ | refine yn 1 zr ?_ | refine yn 2 zr ?_ | refine yn 3 zr ?_ | (refine yo zr ?_; intro _) | (refine yp zr ?_; intro _) | refine yq zr ?_ | refine ys zr ?_ | refine yu zr ?_ | refine yv zr ?_ | (with_reducible first | refine zd ?_ | refine ze ?_ | refine zf ?_ | refine zg ?_ | refine zh ?_ | refine zi ?_ | refine zj ?_ | refine zk ?_ | refine zl ?_) | refine zz zr ?_ | refine zw (by decide +kernel) ?_ | refine zx zr zr zr ?_ | refine zy zr zr ?_ | (refine W.condP zr ?_ ?_ <;> intro _) | refine W.condT zr ?_ | refine W.condF zr ?_ | (refine W.cond zr ?_ ?_ <;> intro _) | (refine W.gs zr zr zr zr ?_ ?_ <;> intro _) | (refine W.gsB zr zr zr zr ?_ ?_ <;> intro _) | refine W.done zr ?_ | refine W.doneN zr ?_
    rw [ef0]
    rw [ef1]
    rw [ef2]
    rw [wN (by omega)]
    refine W.weak _ _ ?_ ?_ (hnext _ rfl)
    · refine ⟨?_, rfl, rfl, rfl, rfl⟩
      show some (AV.str _) = some (AV.str (c ++ rwS r))
      congr 2; simp [rwS, spS, hl2]
    · first | exact List.Sublist.refl _ | exact .cons _ (List.Sublist.refl _) | exact .cons _ (.cons _ (List.Sublist.refl _)) | exact .cons _ (.cons _ (.cons _ (List.Sublist.refl _)))
  · have hl2 : r.spans = [r.qty, r.price] := by simp [Row.spans, hk']
    have hf0 := hrow r.qty (by rw [hl2]; simp)
    have ef0 : IntKind.i64.wrap (r.qty.t - r.qty.f) = r.qty.t - r.qty.f := w64 (by omega) (by omega)
    have hf1 := hrow r.price (by rw [hl2]; simp)
    have ef1 : IntKind.i64.wrap (r.price.t - r.price.f) = r.price.t - r.price.f := w64 (by omega) (by omega)
    rw [hasL_c hk'] at hm_
    refine W.keep _ hm_ ?_
    repeat' first | refine W.condDT rfl (by decide) ?_ | refine W.condDF rfl (by decide) ?_ | refine W.condT rfl ?_ | refine W.condF rfl ?_ | (refine W.bsl tblOk rfl rfl rfl rfl (by decide) rfl rfl rfl ?_; intro _) | with_reducible refine W.loop (a := .seq (.seq (.region 18 _ _) _) _) ?_ | refine W.ia tblOk rfl rfl rfl rfl rfl rfl rfl (by decide) (by decide) ?_ | (refine W.callP rfl rfl rfl rfl (numberR_c P ?hb) ?_; case hb => (first | exact Nat.le_trans (len_app (len_app (len_app (hcl)))) (by omega) | exact Nat.le_trans (len_app (len_app (len_app (len_app (hcl))))) (by omega) | exact Nat.le_trans (len_app (len_app (len_app (len_app (len_app (hcl)))))) (by omega) | exact Nat.le_trans (len_app (len_app (len_app (len_app (len_app (len_app (hcl))))))) (by omega))) | (with_reducible first | refine za ?_ | refine zb ?_ | refine zc ?_) | refine ym zr ?_ | refine yn 0 zr ?_ | refine yn 1 zr ?_ | refine yn 2 zr ?_ | refine yn 3 zr ?_ | (refine yo zr ?_; intro _) | (refine yp zr ?_; intro _) | refine yq zr ?_ | refine ys zr ?_ | refine yu zr ?_ | refine yv zr ?_ | (with_reducible first | refine zd ?_ | refine ze ?_ | refine zf ?_ | refine zg ?_ | refine zh ?_ | refine zi ?_ | refine zj ?_ | refine zk ?_ | refine zl ?_) | refine zz zr ?_ | refine zw (by decide +kernel) ?_ | refine zx zr zr zr ?_ | refine zy zr zr ?_ | (refine W.condP zr ?_ ?_ <;> intro _) | refine W.condT zr ?_ | refine W.condF zr ?_ | (refine W.cond zr ?_ ?_ <;> intro _) | (refine W.gs zr zr zr zr ?_ ?_ <;> intro _) | (refine W.gsB zr zr zr zr ?_ ?_ <;> intro _) | refine W.done zr ?_ | refine W.doneN zr ?_
    rw [ef0]
    rw [ef1]
    rw [wN (by omega)]
    refine W.weak _ _ ?_ ?_ (hnext _ rfl)
    · refine ⟨?_, rfl, rfl, rfl, rfl⟩
      show some (AV.str _) = some (AV.str (c ++ rwS r))
      congr 2; simp [rwS, spS, hl2]
    · first | exact List.Sublist.refl _ | exact .cons _ (List.Sublist.refl _) | exact .cons _ (.cons _ (List.Sublist.refl _)) | exact .cons _ (.cons _ (.cons _ (List.Sublist.refl _)))
  · have hl2 : r.spans = [r.value] := by simp [Row.spans, hk']
    have hf0 := hrow r.value (by rw [hl2]; simp)
    have ef0 : IntKind.i64.wrap (r.value.t - r.value.f) = r.value.t - r.value.f := w64 (by omega) (by omega)
    rw [hasL_d hk'] at hm_
    refine W.keep _ hm_ ?_
    repeat' first | refine W.condDT rfl (by decide) ?_ | refine W.condDF rfl (by decide) ?_ | refine W.condT rfl ?_ | refine W.condF rfl ?_ | (refine W.bsl tblOk rfl rfl rfl rfl (by decide) rfl rfl rfl ?_; intro _) | with_reducible refine W.loop (a := .seq (.seq (.region 18 _ _) _) _) ?_ | refine W.ia tblOk rfl rfl rfl rfl rfl rfl rfl (by decide) (by decide) ?_ | (refine W.callP rfl rfl rfl rfl (numberR_c P ?hb) ?_; case hb => (first | exact Nat.le_trans (len_app (len_app (len_app (hcl)))) (by omega) | exact Nat.le_trans (len_app (len_app (len_app (len_app (hcl))))) (by omega) | exact Nat.le_trans (len_app (len_app (len_app (len_app (len_app (hcl)))))) (by omega) | exact Nat.le_trans (len_app (len_app (len_app (len_app (len_app (len_app (hcl))))))) (by omega))) | (with_reducible first | refine za ?_ | refine zb ?_ | refine zc ?_) | refine ym zr ?_ | refine yn 0 zr ?_ | refine yn 1 zr ?_ | refine yn 2 zr ?_ | refine yn 3 zr ?_ | (refine yo zr ?_; intro _) | (refine yp zr ?_; intro _) | refine yq zr ?_ | refine ys zr ?_ | refine yu zr ?_ | refine yv zr ?_ | (with_reducible first | refine zd ?_ | refine ze ?_ | refine zf ?_ | refine zg ?_ | refine zh ?_ | refine zi ?_ | refine zj ?_ | refine zk ?_ | refine zl ?_) | refine zz zr ?_ | refine zw (by decide +kernel) ?_ | refine zx zr zr zr ?_ | refine zy zr zr ?_ | (refine W.condP zr ?_ ?_ <;> intro _) | refine W.condT zr ?_ | refine W.condF zr ?_ | (refine W.cond zr ?_ ?_ <;> intro _) | (refine W.gs zr zr zr zr ?_ ?_ <;> intro _) | (refine W.gsB zr zr zr zr ?_ ?_ <;> intro _) | refine W.done zr ?_ | refine W.doneN zr ?_
    rw [ef0]
    rw [wN (by omega)]
    refine W.weak _ _ ?_ ?_ (hnext _ rfl)
    · refine ⟨?_, rfl, rfl, rfl, rfl⟩
      show some (AV.str _) = some (AV.str (c ++ rwS r))
      congr 2; simp [rwS, spS, hl2]
    · first | exact List.Sublist.refl _ | exact .cons _ (List.Sublist.refl _) | exact .cons _ (.cons _ (List.Sublist.refl _)) | exact .cons _ (.cons _ (.cons _ (List.Sublist.refl _)))
  · have hl2 : r.spans = [] := by simp [Row.spans, hk1', hk2', hk4']
    rw [hasL_e hk1' hk2' hk4'] at hm_
    refine W.keep _ hm_ ?_
    repeat' first | refine W.condDT rfl (by decide) ?_ | refine W.condDF rfl (by decide) ?_ | refine W.condT rfl ?_ | refine W.condF rfl ?_ | (refine W.bsl tblOk rfl rfl rfl rfl (by decide) rfl rfl rfl ?_; intro _) | with_reducible refine W.loop (a := .seq (.seq (.region 18 _ _) _) _) ?_ | refine W.ia tblOk rfl rfl rfl rfl rfl rfl rfl (by decide) (by decide) ?_ | (refine W.callP rfl rfl rfl rfl (numberR_c P ?hb) ?_; case hb => (first | exact Nat.le_trans (len_app (len_app (len_app (hcl)))) (by omega) | exact Nat.le_trans (len_app (len_app (len_app (len_app (hcl))))) (by omega) | exact Nat.le_trans (len_app (len_app (len_app (len_app (len_app (hcl)))))) (by omega) | exact Nat.le_trans (len_app (len_app (len_app (len_app (len_app (len_app (hcl))))))) (by omega))) | (with_reducible first | refine za ?_ | refine zb ?_ | refine zc ?_) | refine ym zr ?_ | refine yn 0 zr ?_ | refine yn 1 zr ?_ | refine yn 2 zr ?_ | refine yn 3 zr ?_ | (refine yo zr ?_; intro _) | (refine yp zr ?_; intro _) | refine yq zr ?_ | refine ys zr ?_ | refine yu zr ?_ | refine yv zr ?_ | (with_reducible first | refine zd ?_ | refine ze ?_ | refine zf ?_ | refine zg ?_ | refine zh ?_ | refine zi ?_ | refine zj ?_ | refine zk ?_ | refine zl ?_) | refine zz zr ?_ | refine zw (by decide +kernel) ?_ | refine zx zr zr zr ?_ | refine zy zr zr ?_ | (refine W.condP zr ?_ ?_ <;> intro _) | refine W.condT zr ?_ | refine W.condF zr ?_ | (refine W.cond zr ?_ ?_ <;> intro _) | (refine W.gs zr zr zr zr ?_ ?_ <;> intro _) | (refine W.gsB zr zr zr zr ?_ ?_ <;> intro _) | refine W.done zr ?_ | refine W.doneN zr ?_
    rw [wN (by omega)]
    refine W.weak _ _ ?_ ?_ (hnext _ rfl)
    · refine ⟨?_, rfl, rfl, rfl, rfl⟩
      show some (AV.str _) = some (AV.str (c ++ rwS r))
      congr 2; simp [rwS, spS, hl2]
    · first | exact List.Sublist.refl _ | exact .cons _ (List.Sublist.refl _) | exact .cons _ (.cons _ (List.Sublist.refl _)) | exact .cons _ (.cons _ (.cons _ (List.Sublist.refl _)))
end Go.Proofs.Ythkkphkeonnnfaa.Abs
