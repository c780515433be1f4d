/- What is read is what is written: plain. No condition but those that each theorem names. -/
import Derived.Test.YthkkphkeonnnfaaVR
import Derived.Test.YthkkphkeonnnfaaVD
import Derived.Test.YthkkphkeonnnfaaTT
namespace Go.Proofs.Ythkkphkeonnnfaa.Abs
open Go
set_option linter.unusedVariables false
set_option linter.unusedSimpArgs false
set_option maxRecDepth 100000
def Bytes (l : List Nat) : Prop := ∀ c ∈ l, c < 256
theorem Bytes.right {a l : List Nat} (h : Bytes (a ++ l)) : Bytes l := fun c hc => h c (List.mem_append_right _ hc)
theorem Bytes.left {a l : List Nat} (h : Bytes (a ++ l)) : Bytes a := fun c hc => h c (List.mem_append_left _ hc)
theorem Bytes.app {a l : List Nat} (h : Bytes a) (k : Bytes l) : Bytes (a ++ l) := fun c hc => by
  rcases List.mem_append.1 hc with h1 | h1
  · exact h c h1
  · exact k c h1
theorem numP_iff {most : Nat} (hm : most < 18446744073709551616) {l : List Nat} (hb : Bytes l) (n : Nat) (r : List Nat) : numP most l = some (n, r) ↔ n ≤ most ∧ l = putS n ++ r := by
  constructor
  · intro h
    obtain ⟨h1, h2⟩ := numP_take h
    exact ⟨h2, ((takeP_iff hb n r).1 h1).2⟩
  · rintro ⟨h1, h2⟩
    have := (takeP_iff hb n r).2 ⟨by omega, h2⟩
    unfold numP
    rw [this]
    exact if_pos h1
theorem nS_nat (n : Nat) (h : n < 18446744073709551616) : nS (n : Int) = putS n := by
  unfold nS
  rw [wrapU64]
  congr 1
  omega
theorem nS_pos {x : Int} (h0 : 0 ≤ x) (h : x < 18446744073709551616) : nS x = putS x.toNat := by
  obtain ⟨n, rfl⟩ := Int.eq_ofNat_of_zero_le h0
  exact nS_nat n (by omega)
/-- A reader reads just what is written. -/
def Spec {α : Type} (p : Rd α) (enc : α → List Nat) (ok : Int → α → Int → Prop) : Prop := ∀ nx l, Bytes l → ∀ x nx1 r, p nx l = some (x, nx1, r) ↔ ok nx x nx1 ∧ l = enc x ++ r
def okL {α : Type} (ok : Int → α → Int → Prop) : Int → List α → Int → Prop
  | a, [], z => z = a
  | a, x :: l, z => ∃ m, ok a x m ∧ okL ok m l z
theorem Spec.list {α : Type} {p : Rd α} {enc : α → List Nat} {ok : Int → α → Int → Prop} (h : Spec p enc ok) : ∀ k, Spec (listP p k) (fun xs => xs.flatMap enc) fun a xs z => xs.length = k ∧ okL ok a xs z
  | 0 => fun nx l hb x nx1 r => by
    constructor
    · intro e
      injection e with e; injection e with e1 e; injection e with e2 e3
      subst e1; subst e2; subst e3
      exact ⟨⟨rfl, rfl⟩, rfl⟩
    · rintro ⟨⟨h1, h2⟩, h3⟩
      obtain rfl := List.length_eq_zero_iff.1 h1
      have h2 : nx1 = nx := h2
      have h3 : l = r := h3
      subst h2; subst h3; rfl
  | k + 1 => fun nx l hb x nx1 r => by
    constructor
    · intro e
      rw [listP] at e
      split at e
      · rename_i y n2 q hq
        obtain ⟨h1, h2⟩ := (h nx l hb _ _ _).1 hq
        have hbq : Bytes q := by rw [h2] at hb; exact hb.right
        split at e
        · rename_i ys n3 q3 hq3
          obtain ⟨⟨h3, h4⟩, h5⟩ := (Spec.list h k n2 q hbq _ _ _).1 hq3
          injection e with e; injection e with e1 e; injection e with e2 e3
          subst e1; subst e2; subst e3
          refine ⟨⟨by simp [h3], n2, h1, h4⟩, ?_⟩
          show l = (y :: ys).flatMap enc ++ q3
          rw [h2, h5, List.flatMap_cons, List.append_assoc]
        · cases e
      · cases e
    · rintro ⟨⟨h1, h2⟩, h3⟩
      cases x with
      | nil => simp at h1
      | cons y ys =>
        obtain ⟨m, h4, h5⟩ := h2
        have h3 : l = (y :: ys).flatMap enc ++ r := h3
        rw [List.flatMap_cons, List.append_assoc] at h3
        have hbq : Bytes (ys.flatMap enc ++ r) := by rw [h3] at hb; exact hb.right
        have e1 := (h nx l hb y m _).2 ⟨h4, h3⟩
        have e2 := (Spec.list h k m _ hbq ys nx1 r).2 ⟨⟨by simpa using h1, h5⟩, rfl⟩
        rw [listP, e1]
        simp only [e2]
def spanOk (a : Int) (x : Span) (z : Int) : Prop := x.f = a ∧ z = x.t ∧ 0 ≤ x.t - x.f ∧ x.t - x.f ≤ 4096
theorem spec_span : Spec spanP spS spanOk := fun nx l hb x nx1 r => by
  unfold spanP
  constructor
  · intro e
    split at e
    · rename_i n q hq
      injection e with e; injection e with e1 e; injection e with e2 e3
      subst e1; subst e2; subst e3
      obtain ⟨h1, h2⟩ := (numP_iff (by decide) hb _ _).1 hq
      refine ⟨⟨rfl, rfl, ?_, ?_⟩, ?_⟩
      · show 0 ≤ nx + (n : Int) - nx; omega
      · show nx + (n : Int) - nx ≤ 4096; omega
      · show l = nS (nx + (n : Int) - nx) ++ q
        rw [show nx + (n : Int) - nx = (n : Int) by omega, nS_nat n (by omega)]; exact h2
    · cases e
  · rintro ⟨⟨h1, h2, h3, h4⟩, h5⟩
    unfold spS at h5
    rw [nS_pos h3 (by omega)] at h5
    have := (numP_iff (most := 4096) (by decide) hb _ _).2 ⟨by omega, h5⟩
    rw [this]
    obtain ⟨f, t⟩ := x
    simp only at h1 h2 h3 h4 ⊢
    subst h1; subst h2
    have : ((nx1 - f).toNat : Int) = nx1 - f := by omega
    rw [this, show f + (nx1 - f) = nx1 by omega]
def instrOk (a : Int) (x : Instr) (z : Int) : Prop := z = a ∧ 0 ≤ x.k ∧ x.k ≤ 9 ∧ 0 ≤ x.a ∧ x.a ≤ 4096
theorem spec_instr : Spec instrP inS instrOk := fun nx l hb x nx1 r => by
  unfold instrP
  constructor
  · intro e
    split at e
    · rename_i n q hq
      obtain ⟨h1, h2⟩ := (numP_iff (by decide) hb _ _).1 hq
      have hbq : Bytes q := by rw [h2] at hb; exact hb.right
      split at e
      · rename_i n2 q2 hq2
        obtain ⟨h3, h4⟩ := (numP_iff (by decide) hbq _ _).1 hq2
        injection e with e; injection e with e1 e; injection e with e2 e3
        subst e1; subst e2; subst e3
        refine ⟨⟨rfl, by show (0 : Int) ≤ (n : Int); omega, by show (n : Int) ≤ 9; omega, by show (0 : Int) ≤ (n2 : Int); omega, by show (n2 : Int) ≤ 4096; omega⟩, ?_⟩
        show l = (nS (n : Int) ++ nS (n2 : Int)) ++ q2
        rw [nS_nat n (by omega), nS_nat n2 (by omega), List.append_assoc, ← h4]; exact h2
      · cases e
    · cases e
  · rintro ⟨⟨h1, h2, h3, h4, h5⟩, h6⟩
    unfold inS at h6
    rw [nS_pos h2 (by omega), nS_pos h4 (by omega), List.append_assoc] at h6
    have hbq : Bytes (putS x.a.toNat ++ r) := by rw [h6] at hb; exact hb.right
    have e1 := (numP_iff (most := 9) (by decide) hb _ _).2 ⟨by omega, h6⟩
    have e2 := (numP_iff (most := 4096) (by decide) hbq _ _).2 ⟨by omega, rfl⟩
    rw [e1]
    simp only [e2]
    obtain ⟨k, a⟩ := x
    simp only at h2 h3 h4 h5 ⊢
    rw [Int.toNat_of_nonneg h2, Int.toNat_of_nonneg h4, h1]
theorem eq_zsp {x : Span} (h : x.no) : x = zsp := by
  obtain ⟨f, t⟩ := x
  obtain ⟨h1, h2⟩ := h
  simp only at h1 h2
  subst h1; subst h2; rfl
def rowOk (a : Int) (x : Row) (z : Int) : Prop := (0 ≤ x.k ∧ x.k ≤ 6) ∧ (0 ≤ x.o ∧ x.o ≤ 5) ∧ (0 ≤ x.i ∧ x.i ≤ 4096) ∧ x.rest ∧ okL spanOk a x.spans z
/-- The spans of a row, one by one. -/
theorem spec_spans (k o i : Int) : Spec (spansP (offs k o) ⟨k, o, i, zsp, zsp, zsp, zsp⟩) (fun x => x.spans.flatMap spS) fun a x z => x.k = k ∧ x.o = o ∧ x.i = i ∧ x.rest ∧ okL spanOk a x.spans z := fun nx l hb x nx1 r => by
  have one : ∀ (p : Nat) (ps : List Nat) (y : Row) (nx : Int) (l : List Nat), Bytes l → (spansP (p :: ps) y nx l = some (x, nx1, r) ↔ ∃ s m q, spanOk nx s m ∧ l = spS s ++ q ∧ spansP ps (y.put p s) m q = some (x, nx1, r)) := fun p ps y nx l hb => by
    rw [spansP]
    constructor
    · intro e
      split at e
      · rename_i s m q hq
        obtain ⟨h1, h2⟩ := (spec_span nx l hb s m q).1 hq
        exact ⟨s, m, q, h1, h2, e⟩
      · cases e
    · rintro ⟨s, m, q, h1, h2, h3⟩
      rw [(spec_span nx l hb s m q).2 ⟨h1, h2⟩]
      exact h3
  have nil : ∀ (y : Row) (nx : Int) (l : List Nat), (spansP [] y nx l = some (x, nx1, r) ↔ y = x ∧ nx1 = nx ∧ l = r) := fun y nx l => by
    constructor
    · intro e
      injection e with e; injection e with e1 e; injection e with e2 e3
      exact ⟨e1, e2.symm, e3⟩
    · rintro ⟨rfl, rfl, rfl⟩; rfl
  have zno : zsp.no := ⟨rfl, rfl⟩
  by_cases h1 : k = 1
  · by_cases h2 : o = 2
    · rw [offs_a h1 h2]
      constructor
      · intro e
        obtain ⟨s, m, q, a1, a2, e⟩ := (one _ _ _ _ _ hb).1 e
        obtain ⟨s2, m2, q2, b1, b2, e⟩ := (one _ _ _ _ _ (by rw [a2] at hb; exact hb.right)).1 e
        obtain ⟨rfl, rfl, rfl⟩ := (nil _ _ _).1 e
        subst h1; subst h2
        refine ⟨⟨rfl, rfl, rfl, ⟨zno, zno⟩, m, a1, nx1, b1, rfl⟩, ?_⟩
        show l = (spS s ++ (spS s2 ++ [])) ++ q2
        rw [a2, b2]; simp
      · rintro ⟨⟨rfl, rfl, rfl, hr, hc⟩, hl⟩
        obtain ⟨xk, xo, xi, s1, s2, s3, s4⟩ := x
        simp only at h1 h2
        subst h1; subst h2
        obtain ⟨r1, r2⟩ : Span.no s3 ∧ Span.no s4 := hr
        obtain rfl := eq_zsp r1
        obtain rfl := eq_zsp r2
        obtain ⟨m, c1, m2, c2, c3⟩ : ∃ m, spanOk nx s1 m ∧ ∃ m2, spanOk m s2 m2 ∧ nx1 = m2 := hc
        have hl : l = (spS s1 ++ (spS s2 ++ [])) ++ r := hl
        have hl : l = spS s1 ++ (spS s2 ++ r) := by rw [hl]; simp
        refine (one _ _ _ _ _ hb).2 ⟨s1, m, _, c1, hl, (one _ _ _ _ _ (by rw [hl] at hb; exact hb.right)).2 ⟨s2, m2, _, c2, rfl, ?_⟩⟩
        subst c3; rfl
    · rw [offs_b h1 h2]
      constructor
      · intro e
        obtain ⟨s, m, q, a1, a2, e⟩ := (one _ _ _ _ _ hb).1 e
        have hb2 : Bytes q := by rw [a2] at hb; exact hb.right
        obtain ⟨s2, m2, q2, b1, b2, e⟩ := (one _ _ _ _ _ hb2).1 e
        obtain ⟨s3, m3, q3, c1, c2, e⟩ := (one _ _ _ _ _ (by rw [b2] at hb2; exact hb2.right)).1 e
        obtain ⟨rfl, rfl, rfl⟩ := (nil _ _ _).1 e
        subst h1
        have hsp : Row.spans ⟨1, o, i, s, s2, s3, zsp⟩ = [s, s2, s3] := by unfold Row.spans; rw [if_pos rfl, if_neg h2]
        have hre : Row.rest ⟨1, o, i, s, s2, s3, zsp⟩ := by unfold Row.rest; rw [if_pos rfl, if_neg h2]; exact zno
        refine ⟨⟨rfl, rfl, rfl, hre, ?_⟩, ?_⟩
        · show okL spanOk nx (Row.spans ⟨1, o, i, s, s2, s3, zsp⟩) nx1
          rw [hsp]; exact ⟨m, a1, m2, b1, nx1, c1, rfl⟩
        · show l = (Row.spans ⟨1, o, i, s, s2, s3, zsp⟩).flatMap spS ++ q3
          rw [hsp, a2, b2, c2]; simp
      · rintro ⟨⟨rfl, rfl, rfl, hr, hc⟩, hl⟩
        obtain ⟨xk, xo, xi, s1, s2, s3, s4⟩ := x
        simp only at h1 h2 hr hc hl
        subst h1
        have hsp : Row.spans ⟨1, xo, xi, s1, s2, s3, s4⟩ = [s1, s2, s3] := by unfold Row.spans; rw [if_pos rfl, if_neg h2]
        have hre : Span.no s4 := by unfold Row.rest at hr; rw [if_pos rfl, if_neg h2] at hr; exact hr
        obtain rfl := eq_zsp hre
        rw [hsp] at hc hl
        obtain ⟨m, c1, m2, c2, m3, c3, c4⟩ : ∃ m, spanOk nx s1 m ∧ ∃ m2, spanOk m s2 m2 ∧ ∃ m3, spanOk m2 s3 m3 ∧ nx1 = m3 := hc
        have hl : l = spS s1 ++ (spS s2 ++ (spS s3 ++ r)) := by rw [hl]; simp
        have hb2 : Bytes (spS s2 ++ (spS s3 ++ r)) := by rw [hl] at hb; exact hb.right
        refine (one _ _ _ _ _ hb).2 ⟨s1, m, _, c1, hl, (one _ _ _ _ _ hb2).2 ⟨s2, m2, _, c2, rfl, (one _ _ _ _ _ hb2.right).2 ⟨s3, m3, _, c3, rfl, ?_⟩⟩⟩
        subst c4; rfl
  · by_cases h2 : k = 2
    · rw [offs_c h2]
      constructor
      · intro e
        obtain ⟨s, m, q, a1, a2, e⟩ := (one _ _ _ _ _ hb).1 e
        obtain ⟨s2, m2, q2, b1, b2, e⟩ := (one _ _ _ _ _ (by rw [a2] at hb; exact hb.right)).1 e
        obtain ⟨rfl, rfl, rfl⟩ := (nil _ _ _).1 e
        subst h2
        refine ⟨⟨rfl, rfl, rfl, ⟨zno, zno⟩, m, a1, nx1, b1, rfl⟩, ?_⟩
        show l = (spS s ++ (spS s2 ++ [])) ++ q2
        rw [a2, b2]; simp
      · rintro ⟨⟨rfl, rfl, rfl, hr, hc⟩, hl⟩
        obtain ⟨xk, xo, xi, s1, s2, s3, s4⟩ := x
        simp only at h1 h2
        subst h2
        obtain ⟨r1, r2⟩ : Span.no s1 ∧ Span.no s4 := hr
        obtain rfl := eq_zsp r1
        obtain rfl := eq_zsp r2
        obtain ⟨m, c1, m2, c2, c3⟩ : ∃ m, spanOk nx s2 m ∧ ∃ m2, spanOk m s3 m2 ∧ nx1 = m2 := hc
        have hl : l = (spS s2 ++ (spS s3 ++ [])) ++ r := hl
        have hl : l = spS s2 ++ (spS s3 ++ r) := by rw [hl]; simp
        refine (one _ _ _ _ _ hb).2 ⟨s2, m, _, c1, hl, (one _ _ _ _ _ (by rw [hl] at hb; exact hb.right)).2 ⟨s3, m2, _, c2, rfl, ?_⟩⟩
        subst c3; rfl
    · by_cases h4 : k = 4
      · rw [offs_d h4]
        constructor
        · intro e
          obtain ⟨s, m, q, a1, a2, e⟩ := (one _ _ _ _ _ hb).1 e
          obtain ⟨rfl, rfl, rfl⟩ := (nil _ _ _).1 e
          subst h4
          refine ⟨⟨rfl, rfl, rfl, ⟨zno, zno, zno⟩, nx1, a1, rfl⟩, ?_⟩
          show l = (spS s ++ []) ++ q
          rw [a2]; simp
        · rintro ⟨⟨rfl, rfl, rfl, hr, hc⟩, hl⟩
          obtain ⟨xk, xo, xi, s1, s2, s3, s4⟩ := x
          simp only at h1 h2 h4
          subst h4
          obtain ⟨r1, r2, r3⟩ : Span.no s1 ∧ Span.no s2 ∧ Span.no s3 := hr
          obtain rfl := eq_zsp r1
          obtain rfl := eq_zsp r2
          obtain rfl := eq_zsp r3
          obtain ⟨m, c1, c3⟩ : ∃ m, spanOk nx s4 m ∧ nx1 = m := hc
          have hl : l = (spS s4 ++ []) ++ r := hl
          have hl : l = spS s4 ++ r := by rw [hl]; simp
          refine (one _ _ _ _ _ hb).2 ⟨s4, m, _, c1, hl, ?_⟩
          subst c3; rfl
      · rw [offs_e h1 h2 h4, nil]
        constructor
        · rintro ⟨rfl, rfl, rfl⟩
          have hsp : Row.spans ⟨k, o, i, zsp, zsp, zsp, zsp⟩ = [] := by unfold Row.spans; rw [if_neg h1, if_neg h2, if_neg h4]
          have hre : Row.rest ⟨k, o, i, zsp, zsp, zsp, zsp⟩ := by unfold Row.rest; rw [if_neg h1, if_neg h2, if_neg h4]; exact ⟨zno, zno, zno, zno⟩
          refine ⟨⟨rfl, rfl, rfl, hre, ?_⟩, ?_⟩
          · show okL spanOk _ (Row.spans ⟨k, o, i, zsp, zsp, zsp, zsp⟩) _
            rw [hsp]; rfl
          · show _ = (Row.spans ⟨k, o, i, zsp, zsp, zsp, zsp⟩).flatMap spS ++ _
            rw [hsp]; rfl
        · rintro ⟨⟨rfl, rfl, rfl, hr, hc⟩, hl⟩
          obtain ⟨xk, xo, xi, s1, s2, s3, s4⟩ := x
          simp only at h1 h2 h4 hr hc hl
          have hsp : Row.spans ⟨xk, xo, xi, s1, s2, s3, s4⟩ = [] := by unfold Row.spans; rw [if_neg h1, if_neg h2, if_neg h4]
          rw [hsp] at hc hl
          unfold Row.rest at hr; rw [if_neg h1, if_neg h2, if_neg h4] at hr
          obtain ⟨r1, r2, r3, r4⟩ := hr
          obtain rfl := eq_zsp r1
          obtain rfl := eq_zsp r2
          obtain rfl := eq_zsp r3
          obtain rfl := eq_zsp r4
          exact ⟨rfl, hc, hl⟩
theorem spec_row : Spec rowP rwS rowOk := fun nx l hb x nx1 r => by
  unfold rowP
  constructor
  · intro e
    split at e
    · rename_i n q hq
      obtain ⟨h1, h2⟩ := (numP_iff (by decide) hb _ _).1 hq
      have hbq : Bytes q := by rw [h2] at hb; exact hb.right
      split at e
      · rename_i n2 q2 hq2
        obtain ⟨h3, h4⟩ := (numP_iff (by decide) hbq _ _).1 hq2
        have hbq2 : Bytes q2 := by rw [h4] at hbq; exact hbq.right
        split at e
        · rename_i n3 q3 hq3
          obtain ⟨h5, h6⟩ := (numP_iff (by decide) hbq2 _ _).1 hq3
          have hbq3 : Bytes q3 := by rw [h6] at hbq2; exact hbq2.right
          obtain ⟨⟨k1, k2, k3, k4, k5⟩, k6⟩ := (spec_spans _ _ _ nx q3 hbq3 _ _ _).1 e
          refine ⟨⟨by omega, by omega, by omega, k4, k5⟩, ?_⟩
          unfold rwS
          rw [k1, k2, k3, nS_nat n (by omega), nS_nat n2 (by omega), nS_nat n3 (by omega), h2, h4, h6, k6]
          simp
        · cases e
      · cases e
    · cases e
  · rintro ⟨⟨⟨h1, h2⟩, ⟨h3, h4⟩, ⟨h5, h6⟩, h7, h8⟩, h9⟩
    unfold rwS at h9
    rw [nS_pos h1 (by omega), nS_pos h3 (by omega), nS_pos h5 (by omega), List.append_assoc, List.append_assoc, List.append_assoc] at h9
    have hb1 : Bytes (putS x.o.toNat ++ (putS x.i.toNat ++ (x.spans.flatMap spS ++ r))) := by rw [h9] at hb; exact hb.right
    have e1 := (numP_iff (most := 6) (by decide) hb _ _).2 ⟨by omega, h9⟩
    have e2 := (numP_iff (most := 5) (by decide) hb1 _ _).2 ⟨by omega, rfl⟩
    have e3 := (numP_iff (most := 4096) (by decide) hb1.right _ _).2 ⟨by omega, rfl⟩
    rw [e1]
    simp only [e2, e3, Int.toNat_of_nonneg h1, Int.toNat_of_nonneg h3, Int.toNat_of_nonneg h5]
    exact (spec_spans _ _ _ nx _ hb1.right.right _ _ _).2 ⟨⟨rfl, rfl, rfl, h7, h8⟩, rfl⟩
def guardOk (c : List Instr) (a : Int) (x : Guard) (z : Int) : Prop := x.rows = mkS x.rows.l ∧ (x.fields = (rdsL c x.when.f x.when.t).1 ∧ x.regs = (rdsL c x.when.f x.when.t).2) ∧ x.rows.l.length ≤ 8 ∧ ∃ m, spanOk a x.when m ∧ okL rowOk m x.rows.l z
theorem spec_guard (c : List Instr) : Spec (guardP c) gdS (guardOk c) := fun nx l hb x nx1 r => by
  unfold guardP
  constructor
  · intro e
    split at e
    · rename_i s m q hq
      obtain ⟨h1, h2⟩ := (spec_span nx l hb s m q).1 hq
      have hbq : Bytes q := by rw [h2] at hb; exact hb.right
      split at e
      · rename_i n2 q2 hq2
        obtain ⟨h3, h4⟩ := (numP_iff (by decide) hbq _ _).1 hq2
        have hbq2 : Bytes q2 := by rw [h4] at hbq; exact hbq.right
        split at e
        · rename_i xs m3 q3 hq3
          obtain ⟨⟨k1, k2⟩, k3⟩ := (spec_row.list n2 m q2 hbq2 _ _ _).1 hq3
          injection e with e; injection e with e1 e; injection e with e2 e3
          subst e1; subst e2; subst e3
          refine ⟨⟨rfl, ⟨rfl, rfl⟩, by show xs.length ≤ 8; omega, m, h1, k2⟩, ?_⟩
          show l = (spS s ++ (nS xs.length ++ xs.flatMap rwS)) ++ q3
          rw [nS_nat _ (by omega), k1, h2, h4, k3]; simp
        · cases e
      · cases e
    · cases e
  · rintro ⟨⟨h1, ⟨h2, h3⟩, h4, m, h5, h6⟩, h7⟩
    obtain ⟨w, f, g, rs⟩ := x
    simp only at h1 h2 h3 h4 h5 h6
    have h7 : l = spS w ++ (putS rs.l.length ++ (rs.l.flatMap rwS ++ r)) := by
      rw [h7, ← nS_nat _ (by omega)]; simp [gdS]
    have hb1 : Bytes (putS rs.l.length ++ (rs.l.flatMap rwS ++ r)) := by rw [h7] at hb; exact hb.right
    have e1 := (spec_span nx l hb w m _).2 ⟨h5, h7⟩
    have e2 := (numP_iff (most := 8) (by decide) hb1 _ _).2 ⟨h4, rfl⟩
    have e3 := (spec_row.list rs.l.length m _ hb1.right rs.l nx1 r).2 ⟨⟨rfl, h6⟩, rfl⟩
    rw [e1]
    simp only [e2, e3]
    rw [← h2, ← h3, ← h1]
def stateOk (c : List Instr) (a : Int) (s : Sl Guard) (z : Int) : Prop := s = mkS s.l ∧ s.l.length ≤ 12 ∧ okL (guardOk c) a s.l z
theorem spec_state (c : List Instr) : Spec (stateP c) (fun s => stS s.l) (stateOk c) := fun nx l hb x nx1 r => by
  unfold stateP
  constructor
  · intro e
    split at e
    · rename_i n q hq
      obtain ⟨h1, h2⟩ := (numP_iff (by decide) hb _ _).1 hq
      have hbq : Bytes q := by rw [h2] at hb; exact hb.right
      split at e
      · rename_i xs m3 q3 hq3
        obtain ⟨⟨k1, k2⟩, k3⟩ := ((spec_guard c).list n nx q hbq _ _ _).1 hq3
        injection e with e; injection e with e1 e; injection e with e2 e3
        subst e1; subst e2; subst e3
        refine ⟨⟨rfl, by show xs.length ≤ 12; omega, k2⟩, ?_⟩
        show l = (nS xs.length ++ xs.flatMap gdS) ++ q3
        rw [nS_nat _ (by omega), k1, h2, k3]; simp
      · cases e
    · cases e
  · rintro ⟨⟨h1, h2, h3⟩, h4⟩
    have h4 : l = putS x.l.length ++ (x.l.flatMap gdS ++ r) := by
      rw [h4, ← nS_nat _ (by omega)]; simp [stS]
    have e1 := (numP_iff (most := 12) (by decide) hb _ _).2 ⟨h2, h4⟩
    have e2 := ((spec_guard c).list x.l.length nx _ (by rw [h4] at hb; exact hb.right) x.l nx1 r).2 ⟨⟨rfl, h3⟩, rfl⟩
    rw [e1]
    simp only [e2]
    rw [← h1]
theorem zig_zag' {x : Int} (h : In64 x) : zagS (zigS x).toNat = x := by
  exact zag_zig
theorem manyP_iff : ∀ (k : Nat) (l : List Nat), Bytes l → ∀ xs r, manyP k l = some (xs, r) ↔ (xs.length = k ∧ ∀ x ∈ xs, In64 x) ∧ l = xs.flatMap zS ++ r
  | 0, l, hb, xs, r => by
    constructor
    · intro e
      injection e with e; injection e with e1 e2
      subst e1; subst e2
      exact ⟨⟨rfl, fun x h => by simp at h⟩, rfl⟩
    · rintro ⟨⟨h1, h2⟩, h3⟩
      obtain rfl := List.length_eq_zero_iff.1 h1
      have h3 : l = r := h3
      subst h3; rfl
  | k + 1, l, hb, xs, r => by
    constructor
    · intro e
      rw [manyP] at e
      split at e
      · rename_i n q hq
        obtain ⟨h1, h2⟩ := (takeP_iff hb n q).1 hq
        have hbq : Bytes q := by rw [h2] at hb; exact hb.right
        split at e
        · rename_i ys q3 hq3
          obtain ⟨⟨h3, h4⟩, h5⟩ := (manyP_iff k q hbq _ _).1 hq3
          injection e with e; injection e with e1 e2
          subst e1; subst e2
          have z1 := zagS_in h1
          have z2 := zig_zag n
          refine ⟨⟨by simp [h3], ?_⟩, ?_⟩
          · intro x hx
            rcases List.mem_cons.1 hx with rfl | hx
            · exact z1
            · exact h4 x hx
          · rw [List.flatMap_cons, h2, h5, List.append_assoc]
            congr 1
            unfold zS
            rw [z2]
        · cases e
      · cases e
    · rintro ⟨⟨h1, h2⟩, h3⟩
      cases xs with
      | nil => simp at h1
      | cons y ys =>
        have hy := h2 y (by simp)
        rw [List.flatMap_cons, List.append_assoc] at h3
        have e1 := (takeP_iff hb (zigS y).toNat (ys.flatMap zS ++ r)).2 ⟨by have := zigS_in hy; omega, h3⟩
        have e2 := (manyP_iff k _ (by rw [h3] at hb; exact hb.right) ys r).2 ⟨⟨by simpa using h1, fun x hx => h2 x (by simp [hx])⟩, rfl⟩
        rw [manyP, e1]
        simp only [e2, zig_zag' hy]
theorem signedP_iff {most : Nat} (hm : most < 18446744073709551616) {l : List Nat} (hb : Bytes l) (xs : List Int) (r : List Nat) : signedP most l = some (xs, r) ↔ (xs.length ≤ most ∧ ∀ x ∈ xs, In64 x) ∧ l = sgS xs ++ r := by
  unfold signedP
  constructor
  · intro e
    split at e
    · rename_i n q hq
      obtain ⟨h1, h2⟩ := (numP_iff hm hb _ _).1 hq
      obtain ⟨⟨h3, h4⟩, h5⟩ := (manyP_iff n q (by rw [h2] at hb; exact hb.right) _ _).1 e
      refine ⟨⟨by omega, h4⟩, ?_⟩
      unfold sgS
      rw [nS_nat _ (by omega), h3, h2, h5, List.append_assoc]
    · cases e
  · rintro ⟨⟨h1, h2⟩, h3⟩
    unfold sgS at h3
    rw [nS_nat _ (by omega), List.append_assoc] at h3
    rw [(numP_iff hm hb _ _).2 ⟨h1, h3⟩]
    exact (manyP_iff _ _ (by rw [h3] at hb; exact hb.right) _ _).2 ⟨⟨rfl, h2⟩, rfl⟩
theorem textP_iff {l : List Nat} (hb : Bytes l) (s r : List Nat) : textP l = some (s, r) ↔ s.length ≤ 65536 ∧ l = putS s.length ++ (s ++ r) := by
  unfold textP
  constructor
  · intro e
    split at e
    · rename_i n q hq
      obtain ⟨h1, h2⟩ := (takeP_iff hb n q).1 hq
      split at e
      · cases e
      split at e
      · cases e
      injection e with e; injection e with e1 e2
      have hl : s.length = n := by rw [← e1, List.length_take]; omega
      exact ⟨by omega, by rw [hl, ← e1, ← e2, List.take_append_drop]; exact h2⟩
    · cases e
  · rintro ⟨h1, h2⟩
    have e1 := (takeP_iff hb s.length (s ++ r)).2 ⟨by omega, h2⟩
    rw [e1]
    simp only
    rw [if_neg (by omega), if_neg (by simp), List.take_left, List.drop_left]
/-- A table as it is read: its rows lie nowhere. -/
structure TabRd (y : Table) : Prop where
  name : y.name.length ≤ 65536
  regs : y.regs = mkS y.regs.l ∧ y.regs.l.length ≤ 12 ∧ ∀ x ∈ y.regs.l, In64 x
  slots : 0 ≤ y.slots ∧ y.slots ≤ 4
  consts : y.consts = mkS y.consts.l ∧ y.consts.l.length ≤ 1024 ∧ ∀ x ∈ y.consts.l, In64 x
  code : y.code = mkS y.code.l ∧ y.code.l.length ≤ 4096 ∧ okL instrOk 0 y.code.l 0
  states : y.states = mkS y.states.l ∧ y.states.l.length ≤ 12 ∧ ∃ z, okL (stateOk y.code.l) 0 y.states.l z
theorem okL_instr : ∀ {l : List Instr} {a z : Int}, okL instrOk a l z → z = a
  | [], _, _, h => h
  | x :: l, a, z, ⟨m, h1, h2⟩ => by rw [okL_instr h2, h1.1]
theorem tableP_iff {l : List Nat} (hb : Bytes l) (y : Table) : tableP l = some y ↔ TabRd y ∧ l = encS y := by
  unfold tableP
  constructor
  · intro e
    split at e
    case h_2 => cases e
    rename_i name r1 e1
    obtain ⟨a1, b1⟩ := (textP_iff hb _ _).1 e1
    have hb1 : Bytes r1 := by rw [b1] at hb; exact hb.right.right
    split at e
    case h_2 => cases e
    rename_i regs r2 e2
    obtain ⟨a2, b2⟩ := (signedP_iff (by decide) hb1 _ _).1 e2
    have hb2 : Bytes r2 := by rw [b2] at hb1; exact hb1.right
    split at e
    case h_2 => cases e
    rename_i slots r3 e3
    obtain ⟨a3, b3⟩ := (numP_iff (by decide) hb2 _ _).1 e3
    have hb3 : Bytes r3 := by rw [b3] at hb2; exact hb2.right
    split at e
    case h_2 => cases e
    rename_i consts r4 e4
    obtain ⟨a4, b4⟩ := (signedP_iff (by decide) hb3 _ _).1 e4
    have hb4 : Bytes r4 := by rw [b4] at hb3; exact hb3.right
    split at e
    case h_2 => cases e
    rename_i n r5 e5
    obtain ⟨a5, b5⟩ := (numP_iff (by decide) hb4 _ _).1 e5
    have hb5 : Bytes r5 := by rw [b5] at hb4; exact hb4.right
    split at e
    case h_2 => cases e
    rename_i code nx r6 e6
    obtain ⟨⟨a6, c6⟩, b6⟩ := (spec_instr.list n 0 r5 hb5 _ _ _).1 e6
    have hb6 : Bytes r6 := by rw [b6] at hb5; exact hb5.right
    split at e
    case h_2 => cases e
    rename_i m r7 e7
    obtain ⟨a7, b7⟩ := (numP_iff (by decide) hb6 _ _).1 e7
    have hb7 : Bytes r7 := by rw [b7] at hb6; exact hb6.right
    split at e
    case h_2 => cases e
    rename_i sts nx1 r8 e8
    obtain ⟨⟨a8, c8⟩, b8⟩ := ((spec_state code).list m nx r7 hb7 _ _ _).1 e8
    split at e
    case isFalse => cases e
    rename_i hr8
    injection e with e; subst e
    obtain rfl := okL_instr c6
    refine ⟨⟨a1, ⟨rfl, a2⟩, ⟨by show (0 : Int) ≤ (slots : Int); omega, by show (slots : Int) ≤ 4; omega⟩, ⟨rfl, a4⟩, ⟨rfl, by show code.length ≤ 4096; omega, c6⟩, ⟨rfl, by show sts.length ≤ 12; omega, nx1, c8⟩⟩, ?_⟩
    show l = putS name.length ++ (name ++ (sgS regs ++ (nS (slots : Int) ++ (sgS consts ++ (nS code.length ++ (code.flatMap inS ++ (nS sts.length ++ sts.flatMap fun s => stS s.l)))))))
    rw [nS_nat slots (by omega), nS_nat code.length (by omega), nS_nat sts.length (by omega), a6, a8]
    conv => lhs; rw [b1, b2, b3, b4, b5, b6, b7, b8, hr8, List.append_nil]
  · rintro ⟨h, hl⟩
    obtain ⟨name, regs, slots, consts, code, sts⟩ := y
    obtain ⟨h1, ⟨g2, h2⟩, ⟨h3, h3'⟩, ⟨g4, h4⟩, ⟨g5, h5, h5'⟩, ⟨g6, h6, z, h6'⟩⟩ := h
    simp only at h1 g2 h2 h3 h3' g4 h4 g5 h5 h5' g6 h6 h6'
    have hl : l = putS name.length ++ (name ++ (sgS regs.l ++ (nS slots ++ (sgS consts.l ++ (nS code.l.length ++ (code.l.flatMap inS ++ (nS sts.l.length ++ sts.l.flatMap fun s => stS s.l))))))) := hl
    rw [nS_pos h3 (by omega), nS_nat code.l.length (by omega), nS_nat sts.l.length (by omega)] at hl
    have hb0 := hb
    rw [hl] at hb
    have e1 := (textP_iff hb0 name _).2 ⟨h1, hl⟩
    have hb1 := hb.right.right
    have e2 := (signedP_iff (most := 12) (by decide) hb1 regs.l _).2 ⟨h2, rfl⟩
    have hb2 := hb1.right
    have e3 := (numP_iff (most := 4) (by decide) hb2 slots.toNat _).2 ⟨by omega, rfl⟩
    have hb3 := hb2.right
    have e4 := (signedP_iff (most := 1024) (by decide) hb3 consts.l _).2 ⟨h4, rfl⟩
    have hb4 := hb3.right
    have e5 := (numP_iff (most := 4096) (by decide) hb4 code.l.length _).2 ⟨h5, rfl⟩
    have hb5 := hb4.right
    have e6 := (spec_instr.list code.l.length 0 _ hb5 code.l 0 _).2 ⟨⟨rfl, h5'⟩, rfl⟩
    have hb6 := hb5.right
    have e7 := (numP_iff (most := 12) (by decide) hb6 sts.l.length _).2 ⟨h6, rfl⟩
    have hb7 := hb6.right
    have e8 := ((spec_state code.l).list sts.l.length 0 _ hb7 sts.l z []).2 ⟨⟨rfl, h6'⟩, by simp⟩
    rw [e1]
    simp only [e2, e3, e4, e5, e6, e7, e8, if_true, Int.toNat_of_nonneg h3]
    rw [← g2, ← g4, ← g5, ← g6]
end Go.Proofs.Ythkkphkeonnnfaa.Abs
/- How great the numbers of a table that was read are: plain. No condition but those that each theorem names. -/
namespace Go.Proofs.Ythkkphkeonnnfaa.Abs
open Go
set_option linter.unusedVariables false
set_option linter.unusedSimpArgs false
set_option maxRecDepth 100000
structure Guard.Num (x : Guard) : Prop where
  when : x.when.Ok
  fields : In16 x.fields
  regs : In16 x.regs
  rows : x.rows.l.length ≤ 8 ∧ ∀ r ∈ x.rows.l, r.Ok
structure Table.Num (t : Table) : Prop where
  regs : t.regs.l.length ≤ 12 ∧ ∀ n ∈ t.regs.l, In64 n
  slots : In64 t.slots
  consts : t.consts.l.length ≤ 1024 ∧ ∀ n ∈ t.consts.l, In64 n
  code : t.code.l.length ≤ 4096 ∧ ∀ x ∈ t.code.l, In8 x.k ∧ In64 x.a
  states : t.states.l.length ≤ 12 ∧ ∀ s ∈ t.states.l, s.l.length ≤ 12 ∧ ∀ g ∈ s.l, g.Num
theorem SameG.num {x y : Guard} (h : SameG x y) (hy : y.Num) {V' : K → Option (List AV)} (hr : x.rows.In V' true 11 Row.v) : x.Ok V' := by
  obtain ⟨h1, h2, h3, h4⟩ := h
  obtain ⟨k1, k2, k3, k4, k6⟩ := hy
  exact ⟨by rw [h1]; exact k1, by rw [h2]; exact k2, by rw [h3]; exact k3, by rw [h4]; unfold Len; omega, hr, by rw [h4]; exact k6⟩
theorem CpT.okN {V : K → Option (List AV)} {D : Dm} {x y : Table} (h : CpT D x y) (hy : y.Num) (hn : (names D).Nodup) : x.Ok (withV V D) := by
  have hl : ∀ {n m : Nat}, n ≤ m → m ≤ 4096 → Len n := fun h1 h2 => by unfold Len; omega
  refine ⟨⟨by rw [h.regs.1]; exact hl hy.regs.1 (by omega), h.regs.2.in hn (fun _ => rfl) (fun _ => rfl), by rw [h.regs.1]; exact hy.regs.2⟩, by rw [h.slots]; exact hy.slots, ⟨by rw [h.consts.1]; exact hl hy.consts.1 (by omega), h.consts.2.in hn (fun _ => rfl) (fun _ => rfl), by rw [h.consts.1]; exact hy.consts.2⟩,
    ⟨by rw [h.code.1]; exact hl hy.code.1 (by omega), h.code.2.in hn (fun _ => rfl) (fun _ => rfl), by rw [h.code.1]; exact hy.code.2⟩, by rw [h.states.1]; exact hl hy.states.1 (by omega), h.states.2.1.in hn (fun _ => rfl) (fun _ => rfl), fun s hs => ?_⟩
  obtain ⟨i, hi⟩ := List.getElem?_of_mem hs
  obtain ⟨hlt, rfl⟩ := List.getElem?_eq_some_iff.1 hi
  have hlt2 : i < y.states.l.length := by rw [← h.states.1]; exact hlt
  obtain ⟨c1, c2, c3⟩ := h.states.2.2 i hlt hlt2
  have hys := hy.states.2 _ (List.getElem_mem hlt2)
  refine ⟨by rw [c1]; exact hl hys.1 (by omega), c2.in hn (fun _ => rfl) (fun _ => rfl), fun q hq => ?_⟩
  obtain ⟨k, hk⟩ := List.getElem?_of_mem hq
  obtain ⟨hlt3, rfl⟩ := List.getElem?_eq_some_iff.1 hk
  have hlt4 : k < y.states.l[i].l.length := by rw [← c1]; exact hlt3
  exact (c3 k hlt3 hlt4).1.num (hys.2 _ (List.getElem_mem hlt4)) ((c3 k hlt3 hlt4).2.in hn (fun _ => rfl) (fun _ => rfl))
/-! ### how far the spans come -/
theorem okL_bound {α : Type} {ok : Int → α → Int → Prop} {c : Int} (h : ∀ a x z, ok a x z → a ≤ z ∧ z ≤ a + c) : ∀ (l : List α) (a z : Int), okL ok a l z → a ≤ z ∧ z ≤ a + c * l.length ∧ ∀ x ∈ l, ∃ a' z', ok a' x z' ∧ a ≤ a' ∧ z' ≤ z
  | [], a, z, e => by
    have e : z = a := e
    subst e
    exact ⟨Int.le_refl _, by simp, fun x hx => by simp at hx⟩
  | x :: l, a, z, ⟨m, e1, e2⟩ => by
    obtain ⟨h1, h2⟩ := h a x m e1
    obtain ⟨h3, h4, h5⟩ := okL_bound h l m z e2
    have hm : c * ((x :: l).length : Int) = c * (l.length : Int) + c := by
      rw [List.length_cons, Int.natCast_add, Int.mul_add]; simp
    refine ⟨by omega, by rw [hm]; omega, fun y hy => ?_⟩
    rcases List.mem_cons.1 hy with rfl | hy
    · exact ⟨a, m, e1, Int.le_refl _, h3⟩
    · obtain ⟨a', z', k1, k2, k3⟩ := h5 y hy
      exact ⟨a', z', k1, by omega, k3⟩
theorem spanOk_bound (a : Int) (x : Span) (z : Int) (h : spanOk a x z) : a ≤ z ∧ z ≤ a + 4096 := by
  obtain ⟨h1, h2, h3, h4⟩ := h; omega
theorem spans_le (r : Row) : r.spans.length ≤ 3 := by unfold Row.spans; (repeat' split) <;> simp
theorem rowOk_bound (a : Int) (x : Row) (z : Int) (h : rowOk a x z) : a ≤ z ∧ z ≤ a + 12288 := by
  obtain ⟨h1, h2, h3, h4, h5⟩ := h
  obtain ⟨k1, k2, -⟩ := okL_bound spanOk_bound _ _ _ h5
  have := spans_le x
  omega
theorem guardOk_bound (c : List Instr) (a : Int) (x : Guard) (z : Int) (h : guardOk c a x z) : a ≤ z ∧ z ≤ a + 102400 := by
  obtain ⟨h1, h2, h3, m, h4, h5⟩ := h
  obtain ⟨k1, k2, -⟩ := okL_bound rowOk_bound _ _ _ h5
  have := spanOk_bound _ _ _ h4
  omega
theorem stateOk_bound (c : List Instr) (a : Int) (x : Sl Guard) (z : Int) (h : stateOk c a x z) : a ≤ z ∧ z ≤ a + 1228800 := by
  obtain ⟨h1, h2, h3⟩ := h
  obtain ⟨k1, k2, -⟩ := okL_bound (guardOk_bound c) _ _ _ h3
  omega
theorem span_ok {a : Int} {x : Span} {z : Int} (h : spanOk a x z) (h0 : 0 ≤ a) (h1 : z ≤ 1000000000) : x.Ok := by
  obtain ⟨k1, k2, k3, k4⟩ := h
  unfold Span.Ok In64; omega
theorem zsp_ok {x : Span} (h : x.no) : x.Ok := by
  obtain ⟨h1, h2⟩ := h
  unfold Span.Ok In64; omega
theorem row_ok {a : Int} {x : Row} {z : Int} (h : rowOk a x z) (h0 : 0 ≤ a) (h1 : z ≤ 1000000000) : x.Ok := by
  obtain ⟨k1, k2, k3, k4, k5⟩ := h
  obtain ⟨-, -, k6⟩ := okL_bound spanOk_bound _ _ _ k5
  have hs : ∀ s ∈ x.spans, s.Ok := fun s hs => by
    obtain ⟨a', z', e1, e2, e3⟩ := k6 s hs
    exact span_ok e1 (by omega) (by omega)
  obtain ⟨xk, xo, xi, s1, s2, s3, s4⟩ := x
  unfold Row.rest at k4
  unfold Row.spans at hs
  simp only at k1 k2 k3 k4 hs
  refine ⟨by show In8 xk; unfold In8; omega, by show In8 xo; unfold In8; omega, by show In64 xi; unfold In64; omega, ?_⟩
  show s1.Ok ∧ s2.Ok ∧ s3.Ok ∧ s4.Ok
  by_cases c1 : xk = 1
  · by_cases c2 : xo = 2
    · rw [if_pos c1, if_pos c2] at k4 hs
      exact ⟨hs _ (by simp), hs _ (by simp), zsp_ok k4.1, zsp_ok k4.2⟩
    · rw [if_pos c1, if_neg c2] at k4 hs
      exact ⟨hs _ (by simp), hs _ (by simp), hs _ (by simp), zsp_ok k4⟩
  · by_cases c2 : xk = 2
    · rw [if_neg c1, if_pos c2] at k4 hs
      exact ⟨zsp_ok k4.1, hs _ (by simp), hs _ (by simp), zsp_ok k4.2⟩
    · by_cases c4 : xk = 4
      · rw [if_neg c1, if_neg c2, if_pos c4] at k4 hs
        exact ⟨zsp_ok k4.1, zsp_ok k4.2.1, zsp_ok k4.2.2, hs _ (by simp)⟩
      · rw [if_neg c1, if_neg c2, if_neg c4] at k4
        exact ⟨zsp_ok k4.1, zsp_ok k4.2.1, zsp_ok k4.2.2.1, zsp_ok k4.2.2.2⟩
theorem wrap16_in (n : Int) : In16 (IntKind.u16.wrap n) := by
  have e : IntKind.u16.wrap n = n % 65536 := by
    simp only [IntKind.wrap, IntKind.bits, IntKind.signed, Bool.false_and, Int.reducePow]
    rfl
  rw [e]; unfold In16; omega
theorem orW_in (m a : Int) : In16 (orW m a) := by
  unfold orW
  exact wrap16_in _
theorem readsS_in (c : Int → Instr) : ∀ (k : Nat) (i m r : Int), In16 m → In16 r → In16 (readsS c k i m r).1 ∧ In16 (readsS c k i m r).2
  | 0, i, m, r, h1, h2 => ⟨h1, h2⟩
  | k + 1, i, m, r, h1, h2 => by
    rw [readsS]
    (repeat' split)
    · exact readsS_in c k _ _ _ (orW_in _ _) h2
    · exact readsS_in c k _ _ _ h1 (orW_in _ _)
    · exact readsS_in c k _ _ _ h1 h2
    · exact readsS_in c k _ _ _ h1 h2
theorem guard_num {c : List Instr} {a : Int} {x : Guard} {z : Int} (h : guardOk c a x z) (h0 : 0 ≤ a) (h1 : z ≤ 1000000000) : x.Num := by
  obtain ⟨k1, ⟨k2, k2'⟩, k3, m, k4, k5⟩ := h
  obtain ⟨e1, e2, e3⟩ := okL_bound rowOk_bound _ _ _ k5
  have e4 := spanOk_bound _ _ _ k4
  have hr := readsS_in (fun i => c.getD i.toNat ⟨0, 0⟩) (min x.when.t c.length - max x.when.f 0).toNat (max x.when.f 0) 0 0 (by unfold In16; omega) (by unfold In16; omega)
  refine ⟨span_ok k4 h0 (by omega), by rw [k2]; exact hr.1, by rw [k2']; exact hr.2, k3, fun r hr => ?_⟩
  obtain ⟨a', z', f1, f2, f3⟩ := e3 r hr
  exact row_ok f1 (by omega) (by omega)
theorem okL_each {l : List Instr} {a z : Int} (h : okL instrOk a l z) : ∀ x ∈ l, 0 ≤ x.k ∧ x.k ≤ 9 ∧ 0 ≤ x.a ∧ x.a ≤ 4096 := by
  have := (okL_bound (ok := instrOk) (c := 0) (fun a x z h => by have := h.1; omega) l a z h).2.2
  intro x hx
  obtain ⟨a', z', h1, -⟩ := this x hx
  exact h1.2
theorem state_num {c : List Instr} {a : Int} {s : Sl Guard} {z : Int} (h : stateOk c a s z) (h0 : 0 ≤ a) (h1 : z ≤ 1000000000) : s.l.length ≤ 12 ∧ ∀ g ∈ s.l, g.Num := by
  obtain ⟨g1, g2, g3⟩ := h
  refine ⟨g2, fun g hg => ?_⟩
  obtain ⟨-, -, k3⟩ := okL_bound (guardOk_bound _) _ _ _ g3
  obtain ⟨a2, z2, m1, m2, m3⟩ := k3 g hg
  exact guard_num m1 (by omega) (by omega)
theorem TabRd.num {y : Table} (h : TabRd y) : y.Num := by
  refine ⟨h.regs.2, by have := h.slots; unfold In64; omega, h.consts.2, ⟨h.code.2.1, fun x hx => ?_⟩, h.states.2.1, fun s hs => ?_⟩
  · have := okL_each h.code.2.2 x hx
    unfold In8 In64; omega
  · obtain ⟨z, hz⟩ := h.states.2.2
    obtain ⟨e1, e2, e3⟩ := okL_bound (stateOk_bound _) _ _ _ hz
    obtain ⟨a', z', f1, f2, f3⟩ := e3 s hs
    have hlen := h.states.2.1
    exact state_num f1 (by omega) (by omega)
/-- The first states alone. -/
def Table.upto (y : Table) (ys : List (Sl Guard)) : Table := { y with states := mkS ys }
theorem Table.Num.upto {y : Table} (h : y.Num) {ys : List (Sl Guard)} (hs : ∀ s ∈ ys, s ∈ y.states.l) (hl : ys.length ≤ 12) : (y.upto ys).Num := ⟨h.regs, h.slots, h.consts, h.code, hl, fun s k => h.states.2 s (hs s k)⟩
end Go.Proofs.Ythkkphkeonnnfaa.Abs
