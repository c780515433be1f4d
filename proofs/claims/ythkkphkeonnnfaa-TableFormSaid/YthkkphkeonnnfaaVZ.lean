/- A table that may be is read back: plain. No condition but those that each theorem names. -/
import Derived.Test.YthkkphkeonnnfaaDP
import Derived.Test.YthkkphkeonnnfaaVFa
namespace Go.Proofs.Ythkkphkeonnnfaa.Abs
open Go
set_option linter.unusedVariables false
set_option linter.unusedSimpArgs false
set_option maxRecDepth 100000
theorem enc_er (t : Table) : encS t.er = encS t := by
  have e : (t.states.l.map erG).flatMap (fun s => stS s.l) = t.states.l.flatMap fun s => stS s.l := by
    rw [List.flatMap_map]
    congr 1
    funext s
    show stS (s.l.map Guard.er) = stS s.l
    unfold stS
    rw [List.length_map, List.flatMap_map]
    rfl
  have e2 : t.er.states.l.length = t.states.l.length := List.length_map ..
  show putS _ ++ (_ ++ (_ ++ (_ ++ (_ ++ (_ ++ (_ ++ (nS t.er.states.l.length ++ (t.states.l.map erG).flatMap fun s => stS s.l))))))) = _
  rw [e, e2]; rfl
/-! ### the spans cover all instructions -/
def InS (i : Int) (x : Span) : Prop := x.f ≤ i ∧ i < x.t
theorem chain_cover : ∀ (l : List Span) (n m i : Int), chain l n = some m → n ≤ i → i < m → ∃ x ∈ l, InS i x
  | [], n, m, i, h, h1, h2 => by injection h with h; omega
  | x :: l, n, m, i, h, h1, h2 => by
    simp only [chain] at h
    split at h
    · rename_i hs
      unfold SpanAt at hs
      by_cases e : i < x.t
      · exact ⟨x, by simp, by omega, e⟩
      · obtain ⟨y, h3, h4⟩ := chain_cover l x.t m i h (by omega) h2
        exact ⟨y, by simp [h3], h4⟩
    · cases h
theorem rows_cover {t : Table} : ∀ (l : List Row) (p n m i : Int), rowsAt t p l n = some m → n ≤ i → i < m → ∃ r ∈ l, ∃ x ∈ r.spans, InS i x
  | [], p, n, m, i, h, h1, h2 => by injection h with h; omega
  | r :: l, p, n, m, i, h, h1, h2 => by
    simp only [rowsAt] at h
    split at h
    · obtain ⟨k, h3, h4⟩ := Option.bind_eq_some_iff.1 h
      by_cases e : i < k
      · simp only [RowAt, Option.ite_none_right_eq_some] at h3
        obtain ⟨x, h5, h6⟩ := chain_cover _ _ _ i h3.2 h1 e
        exact ⟨r, by simp, x, h5, h6⟩
      · obtain ⟨y, h5, h6⟩ := rows_cover l _ k m i h4 (by omega) h2
        exact ⟨y, by simp [h5], h6⟩
    · cases h
def InG (i : Int) (x : Guard) : Prop := InS i x.when ∨ ∃ r ∈ x.rows.l, ∃ y ∈ r.spans, InS i y
theorem guard_cover {t : Table} {x : Guard} {n m i : Int} (h : guardAt t x n = some m) (h1 : n ≤ i) (h2 : i < m) : InG i x := by
  unfold guardAt at h
  split at h
  · rename_i hs
    have hs := hs.1
    unfold SpanAt at hs
    by_cases e : i < x.when.t
    · exact .inl ⟨by omega, e⟩
    · exact .inr (rows_cover _ _ _ _ i h (by omega) h2)
  · cases h
theorem guards_cover {t : Table} : ∀ (l : List Guard) (n m i : Int), guardsAt t l n = some m → n ≤ i → i < m → ∃ x ∈ l, InG i x
  | [], n, m, i, h, h1, h2 => by injection h with h; omega
  | x :: l, n, m, i, h, h1, h2 => by
    obtain ⟨k, h3, h4⟩ := Option.bind_eq_some_iff.1 h
    by_cases e : i < k
    · exact ⟨x, by simp, guard_cover h3 h1 e⟩
    · obtain ⟨y, h5, h6⟩ := guards_cover l k m i h4 (by omega) h2
      exact ⟨y, by simp [h5], h6⟩
theorem states_cover {t : Table} : ∀ (l : List (Sl Guard)) (n m i : Int), statesAt t l n = some m → n ≤ i → i < m → ∃ s ∈ l, ∃ x ∈ s.l, InG i x
  | [], n, m, i, h, h1, h2 => by injection h with h; omega
  | s :: l, n, m, i, h, h1, h2 => by
    simp only [statesAt] at h
    split at h
    · obtain ⟨k, h3, h4⟩ := Option.bind_eq_some_iff.1 h
      by_cases e : i < k
      · obtain ⟨x, h5, h6⟩ := guards_cover _ _ _ _ h3 h1 e
        exact ⟨s, by simp, x, h5, h6⟩
      · obtain ⟨y, h5, h6⟩ := states_cover l k m i h4 (by omega) h2
        exact ⟨y, by simp [h5], h6⟩
    · cases h
/-! ### nothing is wrong -/
theorem or_none {a b : Option Int} (h : a.or b = none) : a = none ∧ b = none := by
  cases a with
  | none => exact ⟨rfl, by simpa using h⟩
  | some x => simp at h
theorem spansErr_none {t : Table} : ∀ {l : List Span}, spansErr t l = none → ∀ x ∈ l, spanS t x.f x.t = none
  | [], _, x, hx => by simp at hx
  | y :: l, h, x, hx => by
    obtain ⟨h1, h2⟩ := or_none h
    rcases List.mem_cons.1 hx with rfl | hx
    · exact h1
    · exact spansErr_none h2 x hx
theorem rowsErr_none {t : Table} : ∀ {l : List Row}, rowsErr t l = none → ∀ r ∈ l, ∀ x ∈ r.spans, spanS t x.f x.t = none
  | [], _, r, hr => by simp at hr
  | y :: l, h, r, hr => by
    obtain ⟨h1, h2⟩ := or_none h
    rcases List.mem_cons.1 hr with rfl | hr
    · exact spansErr_none h1
    · exact rowsErr_none h2 r hr
theorem guardErr_none {t : Table} {x : Guard} (h : guardErr t x = none) : spanS t x.when.f x.when.t = none ∧ maskErr t x = none ∧ ∀ r ∈ x.rows.l, ∀ y ∈ r.spans, spanS t y.f y.t = none := by
  obtain ⟨h1, h2⟩ := or_none h
  obtain ⟨h3, h4⟩ := or_none h2
  exact ⟨h1, h3, rowsErr_none h4⟩
theorem guardsErr_none {t : Table} : ∀ {l : List Guard}, guardsErr t l = none → ∀ x ∈ l, guardErr t x = none
  | [], _, x, hx => by simp at hx
  | y :: l, h, x, hx => by
    obtain ⟨h1, h2⟩ := or_none h
    rcases List.mem_cons.1 hx with rfl | hx
    · exact h1
    · exact guardsErr_none h2 x hx
theorem statesErr_none {t : Table} : ∀ {l : List (Sl Guard)}, statesErr t l = none → ∀ s ∈ l, ∀ x ∈ s.l, guardErr t x = none
  | [], _, x, hx => by simp at hx
  | y :: l, h, x, hx => by
    obtain ⟨h1, h2⟩ := or_none h
    rcases List.mem_cons.1 hx with rfl | hx
    · exact guardsErr_none h1
    · exact statesErr_none h2 x hx
theorem span_stands {t : Table} {f z : Int} (h : spanS t f z = none) {i : Int} (h1 : f ≤ i) (h2 : i < z) : Stands t (codeAt t i) i z = true := by
  unfold spanS at h
  split at h
  · rename_i hs
    exact standAll_at _ _ _ hs h1 (by omega)
  · cases h
theorem stands_small {t : Table} {x : Instr} {a z : Int} (h : Stands t x a z = true) (ha : 0 ≤ a) (hz : z ≤ 4096) (hc : t.consts.l.length ≤ 1024) (hr : t.regs.l.length ≤ 12) : 0 ≤ x.k ∧ x.k ≤ 9 ∧ 0 ≤ x.a ∧ x.a ≤ 4096 := by
  unfold Stands at h
  (repeat' split at h) <;> first
    | (simp only [decide_eq_true_eq] at h; omega)
    | (cases h; done)
/-! ### a table's parts -/
theorem chain_ok : ∀ (l : List Span) (n m : Int), chain l n = some m → 0 ≤ n → m ≤ 4096 → okL spanOk n l m
  | [], n, m, h, h0, h1 => by injection h with h; exact h.symm
  | x :: l, n, m, h, h0, h1 => by
    simp only [chain] at h
    split at h
    · rename_i hs
      have hm := (chain_in (t := ⟨[], mkS [], 0, mkS [], mkS [], mkS []⟩) l _ _ h).1
      unfold SpanAt at hs
      exact ⟨x.t, ⟨hs.1, rfl, by omega, by omega⟩, chain_ok l _ _ h (by omega) h1⟩
    · cases h
theorem index_small {t : Table} {r : Row} (h : Index t r = true) (h1 : t.slots ≤ 4) (h2 : t.regs.l.length ≤ 12) (h3 : t.states.l.length ≤ 12) : 0 ≤ r.i ∧ r.i ≤ 4096 := by
  unfold Index at h
  (repeat' split at h) <;> (simp only [decide_eq_true_eq] at h; omega)
section
variable {t : Table} (hH : Heads t)
theorem row_ok' {r : Row} {n m : Int} (hH : Heads t) (h : RowAt t r n = some m) (h0 : 0 ≤ n) (h1 : m ≤ 4096) : rowOk n r m := by
  simp only [RowAt, Option.ite_none_right_eq_some] at h
  obtain ⟨⟨k1, k2, k3, k4⟩, k5⟩ := h
  obtain ⟨-, a1, a2, a3, a4, a5, a6, a7⟩ := hH
  refine ⟨⟨by omega, k1.2⟩, ?_, index_small k2 a3 a1 a7, k4, chain_ok _ _ _ k5 h0 h1⟩
  split at k3 <;> omega
theorem rows_ok {t : Table} (hH : Heads t) : ∀ (l : List Row) (p n m : Int), rowsAt t p l n = some m → 0 ≤ n → m ≤ 4096 → okL rowOk n l m
  | [], p, n, m, h, h0, h1 => by injection h with h; exact h.symm
  | r :: l, p, n, m, h, h0, h1 => by
    simp only [rowsAt] at h
    split at h
    · obtain ⟨k, h2, h3⟩ := Option.bind_eq_some_iff.1 h
      have a := (row_in h2).1
      have b := (rows_in _ _ _ _ h3).1
      exact ⟨k, row_ok' hH h2 h0 (by omega), rows_ok hH l _ _ _ h3 (by omega) h1⟩
    · cases h
theorem guard_ok {x : Guard} {n m : Int} (hH : Heads t) (h : guardAt t x n = some m) (he : maskErr t x = none) (h0 : 0 ≤ n) (h1 : m ≤ 4096) : guardOk t.code.l n x.er m := by
  unfold guardAt at h
  split at h
  · rename_i hs
    obtain ⟨k1, k2, k3⟩ := hs
    have b := (rows_in _ _ _ _ h).1
    unfold SpanAt at k1
    unfold maskErr at he
    split at he
    · rename_i hm
      refine ⟨rfl, ⟨hm.1.symm, hm.2.symm⟩, k3, x.when.t, ⟨k1.1, rfl, ?_, ?_⟩, rows_ok hH _ _ _ _ h (by omega) h1⟩
      · show 0 ≤ x.when.t - x.when.f; omega
      · show x.when.t - x.when.f ≤ 4096; omega
    · cases he
  · cases h
theorem guards_ok {t : Table} (hH : Heads t) : ∀ (l : List Guard) (n m : Int), guardsAt t l n = some m → (∀ x ∈ l, maskErr t x = none) → 0 ≤ n → m ≤ 4096 → okL (guardOk t.code.l) n (l.map Guard.er) m
  | [], n, m, h, he, h0, h1 => by injection h with h; exact h.symm
  | x :: l, n, m, h, he, h0, h1 => by
    obtain ⟨k, h2, h3⟩ := Option.bind_eq_some_iff.1 h
    have a := (guard_in h2).1
    have b := (guards_in _ _ _ h3).1
    exact ⟨k, guard_ok hH h2 (he x (by simp)) h0 (by omega), guards_ok hH l _ _ h3 (fun y hy => he y (by simp [hy])) (by omega) h1⟩
theorem states_ok {t : Table} (hH : Heads t) : ∀ (l : List (Sl Guard)) (n m : Int), statesAt t l n = some m → (∀ s ∈ l, ∀ x ∈ s.l, maskErr t x = none) → 0 ≤ n → m ≤ 4096 → okL (stateOk t.code.l) n (l.map erG) m
  | [], n, m, h, he, h0, h1 => by injection h with h; exact h.symm
  | s :: l, n, m, h, he, h0, h1 => by
    simp only [statesAt] at h
    split at h
    · rename_i hl
      obtain ⟨k, h2, h3⟩ := Option.bind_eq_some_iff.1 h
      have a := (guards_in _ _ _ h2).1
      have b := (states_in _ _ _ h3).1
      exact ⟨k, ⟨rfl, by show (s.l.map Guard.er).length ≤ 12; simpa using hl, guards_ok hH _ _ _ h2 (he s (by simp)) h0 (by omega)⟩, states_ok hH l _ _ h3 (fun y hy => he y (by simp [hy])) (by omega) h1⟩
    · cases h
end
theorem okL_instr_of : ∀ {l : List Instr}, (∀ x ∈ l, 0 ≤ x.k ∧ x.k ≤ 9 ∧ 0 ≤ x.a ∧ x.a ≤ 4096) → okL instrOk 0 l 0
  | [], _ => rfl
  | x :: l, h => ⟨0, ⟨rfl, h x (by simp)⟩, okL_instr_of fun y hy => h y (by simp [hy])⟩
theorem nameS_len {s : List Nat} (h : NameS s = true) : s.length ≤ 16 := by
  unfold NameS at h
  simp only [Bool.and_eq_true, decide_eq_true_eq] at h
  exact h.1.1.1.2
/-- A table that may be, is as one that is read. -/
theorem check_rd {t : Table} (h : checkS t = none) (hr : ∀ n ∈ t.regs.l, In64 n) (hc : ∀ n ∈ t.consts.l, In64 n) : TabRd t.er := by
  unfold checkS at h
  split at h
  case isFalse => cases h
  rename_i hF
  have hG := statesErr_none h
  obtain ⟨hH, hS⟩ := hF
  have hH' := hH
  obtain ⟨a0, a1, a2, a3, a4, a5, a6, a7⟩ := hH
  have hsp := Formed.in ⟨hH', hS⟩
  have hcode : ∀ x ∈ t.code.l, 0 ≤ x.k ∧ x.k ≤ 9 ∧ 0 ≤ x.a ∧ x.a ≤ 4096 := fun x hx => by
    obtain ⟨i, hi⟩ := List.getElem?_of_mem hx
    obtain ⟨hlt, hxi⟩ := List.getElem?_eq_some_iff.1 hi
    have hat : codeAt t (i : Int) = x := by
      unfold codeAt
      rw [Int.toNat_natCast, List.getD_eq_getElem?_getD, hi]; rfl
    obtain ⟨s, hs, g, hg, hin⟩ := states_cover _ _ _ (i : Int) hS (by omega) (by omega)
    obtain ⟨b1, b2, b3⟩ := guardErr_none (hG s hs g hg)
    have hgi := hsp s hs g hg
    rcases hin with ⟨c1, c2⟩ | ⟨r, hr, y, hy, c1, c2⟩
    · have := span_stands b1 c1 c2
      rw [hat] at this
      exact stands_small this (by omega) (by have := hgi.1; omega) a4 a1
    · have := span_stands (b3 r hr y hy) c1 c2
      rw [hat] at this
      exact stands_small this (by omega) (by have := hgi.2 r hr y hy; omega) a4 a1
  refine ⟨by have := nameS_len a0; show t.name.length ≤ _; omega, ⟨rfl, a1, hr⟩, ⟨a2, a3⟩, ⟨rfl, a4, hc⟩, ⟨rfl, a5, okL_instr_of hcode⟩, ⟨rfl, by show (t.states.l.map erG).length ≤ 12; simpa using a7, _, states_ok hH' _ _ _ hS (fun s hs x hx => (guardErr_none (hG s hs x hx)).2.1) (Int.le_refl _) (by omega)⟩⟩
/-! ### how long its bytes are -/
theorem putS_1 {n : Nat} (h : n < 128) : (putS n).length = 1 := by rw [putS_lt h]; rfl
theorem putS_2 {n : Nat} (h : n < 16384) : (putS n).length ≤ 2 := by
  by_cases e : n < 128
  · rw [putS_1 e]; omega
  · rw [putS_ge e, List.length_cons, putS_1 (by omega)]
    omega
theorem nS_1 {x : Int} (h0 : 0 ≤ x) (h : x < 128) : (nS x).length ≤ 1 := by rw [nS_pos h0 (by omega), putS_1 (by omega)]; omega
theorem nS_2 {x : Int} (h0 : 0 ≤ x) (h : x < 16384) : (nS x).length ≤ 2 := by rw [nS_pos h0 (by omega)]; exact putS_2 (by omega)
theorem okL_len {α : Type} {ok : Int → α → Int → Prop} {enc : α → List Nat} {c : Nat} (h : ∀ a x z, ok a x z → (enc x).length ≤ c) : ∀ (l : List α) (a z : Int), okL ok a l z → (l.flatMap enc).length ≤ c * l.length
  | [], a, z, e => by simp
  | x :: l, a, z, ⟨m, e1, e2⟩ => by
    have h1 := h a x m e1
    have h2 := okL_len h l m z e2
    rw [List.flatMap_cons, List.length_append, List.length_cons, Nat.mul_succ]; omega
theorem spanOk_len (a : Int) (x : Span) (z : Int) (h : spanOk a x z) : (spS x).length ≤ 2 := nS_2 h.2.2.1 (by have := h.2.2.2; omega)
theorem rowOk_len (a : Int) (x : Row) (z : Int) (h : rowOk a x z) : (rwS x).length ≤ 10 := by
  obtain ⟨h1, h2, h3, h4, h5⟩ := h
  have b1 := nS_1 h1.1 (by omega)
  have b2 := nS_1 h2.1 (by omega)
  have b3 := nS_2 h3.1 (by omega)
  have b4 := okL_len (c := 2) spanOk_len _ _ _ h5
  have b5 := spans_le x
  simp only [rwS, List.length_append]; omega
theorem guardOk_len (c : List Instr) (a : Int) (x : Guard) (z : Int) (h : guardOk c a x z) : (gdS x).length ≤ 83 := by
  obtain ⟨h1, h2, h3, m, h4, h5⟩ := h
  have b1 := spanOk_len _ _ _ h4
  have b2 := nS_1 (x := x.rows.l.length) (by omega) (by omega)
  have b3 := okL_len (c := 10) rowOk_len _ _ _ h5
  simp only [gdS, List.length_append]; omega
theorem stateOk_len (c : List Instr) (a : Int) (x : Sl Guard) (z : Int) (h : stateOk c a x z) : (stS x.l).length ≤ 997 := by
  obtain ⟨h1, h2, h3⟩ := h
  have b2 := nS_1 (x := x.l.length) (by omega) (by omega)
  have b3 := okL_len (c := 83) (guardOk_len c) _ _ _ h3
  simp only [stS, List.length_append]; omega
theorem instrOk_len (a : Int) (x : Instr) (z : Int) (h : instrOk a x z) : (inS x).length ≤ 3 := by
  obtain ⟨h1, h2, h3, h4, h5⟩ := h
  have b1 := nS_1 h2 (by omega)
  have b2 := nS_2 h4 (by omega)
  simp only [inS, List.length_append]; omega
theorem enc_len {y : Table} (h : TabRd y) (hn : y.name.length ≤ 16) : (encS y).length ≤ 65536 := by
  obtain ⟨h1, ⟨g2, h2, h2'⟩, ⟨h3, h3'⟩, ⟨g4, h4, h4'⟩, ⟨g5, h5, h5'⟩, ⟨g6, h6, z, h6'⟩⟩ := h
  have b1 := putS_1 (n := y.name.length) (by omega)
  have b2 := sgS_len h2'
  have b3 := nS_1 h3 (by omega)
  have b4 := sgS_len h4'
  have b5 := nS_2 (x := y.code.l.length) (by omega) (by omega)
  have b6 := okL_len (c := 3) instrOk_len _ _ _ h5'
  have b7 := nS_1 (x := y.states.l.length) (by omega) (by omega)
  have b8 := okL_len (c := 997) (enc := fun s : Sl Guard => stS s.l) (stateOk_len _) _ _ _ h6'
  simp only [encS, List.length_append]; omega
/-- What is written of a table that may be, is read as it. -/
theorem table_back {t : Table} (h : checkS t = none) (hr : ∀ n ∈ t.regs.l, In64 n) (hc : ∀ n ∈ t.consts.l, In64 n) (hn : ∀ c ∈ t.name, c < 256) : tableP (encS t) = some t.er ∧ (encS t).length ≤ 65536 := by
  have hrd := check_rd h hr hc
  have hb : Bytes (encS t) := encS_byte hn
  refine ⟨(tableP_iff hb _).2 ⟨hrd, (enc_er t).symm⟩, ?_⟩
  rw [← enc_er]
  refine enc_len hrd ?_
  unfold checkS at h
  split at h
  · rename_i hF
    exact nameS_len hF.1.1
  · cases h
/-! ### frames -/
theorem unframeP_iff {l : List Nat} (hb : Bytes l) (s r : List Nat) : unframeP l = some (s, r) ↔ s.length ≤ 65536 ∧ l = frameS s ++ r := by
  have hcl : ∀ s, (checkB s).length = 4 := fun s => rfl
  unfold unframeP
  constructor
  · intro e
    split at e
    · rename_i s1 r1 h1
      obtain ⟨k1, k2⟩ := (textP_iff hb _ _).1 h1
      split at e
      · cases e
      split at e
      · rename_i hck
        injection e with e; injection e with e1 e2
        subst e1; subst e2
        refine ⟨k1, ?_⟩
        unfold frameS
        rw [← hck]
        conv => lhs; rw [k2, ← List.take_append_drop 4 r1]
        simp
      · cases e
    · cases e
  · rintro ⟨h1, h2⟩
    unfold frameS at h2
    rw [List.append_assoc, List.append_assoc] at h2
    rw [(textP_iff hb s (checkB s ++ r)).2 ⟨h1, h2⟩]
    simp only
    have e4 : (checkB s ++ r).take 4 = checkB s := by rw [← hcl s, List.take_left]
    have e5 : (checkB s ++ r).drop 4 = r := by rw [← hcl s, List.drop_left]
    rw [if_neg (by rw [List.length_append, hcl]; omega), e4, if_pos rfl, e5]
theorem frameS_byte {s : List Nat} (h : Bytes s) : Bytes (frameS s) := by
  unfold frameS
  exact (Bytes.app (putS_byte _) h).app (tailS_byte _ (sumS_lt s _ (by decide)))
end Go.Proofs.Ythkkphkeonnnfaa.Abs
