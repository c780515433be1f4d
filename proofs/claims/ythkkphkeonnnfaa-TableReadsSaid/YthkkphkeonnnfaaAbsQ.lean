/- An abstract machine over the model's code: a region that draws its order comes, in whatever order, to what it comes to in the text's order. No condition but those that each theorem names. -/
import Derived.Test.YthkkphkeonnnfaaAbsO
namespace Go.Proofs.Ythkkphkeonnnfaa.Abs
open Go
variable {P : Program} {B : Nat} {μ μ' : K → Option Loc} {H H' : Hp} {w w1 : World}

/-! ### what the checks say -/
theorem orL_get : ∀ (a b : List Bool) (i : Nat), (orL a b)[i]? = some true → a[i]? = some true ∨ b[i]? = some true
  | [], l, i, h => .inr (by simpa [orL] using h)
  | a :: l, [], i, h => .inl (by simpa [orL] using h)
  | a :: l, b :: m, 0, h => by
    simp only [orL, List.getElem?_cons_zero, Option.some.injEq, Bool.or_eq_true] at h
    simpa using h
  | a :: l, b :: m, i + 1, h => by
    simp only [orL, List.getElem?_cons_succ] at h ⊢
    exact orL_get l m i h
theorem oneAt_get : ∀ (n i : Nat), (oneAt n)[i]? = some true → i = n
  | 0, 0, _ => rfl
  | 0, i + 1, h => by simp [oneAt] at h
  | n + 1, 0, h => by simp [oneAt] at h
  | n + 1, i + 1, h => by
    simp only [oneAt, List.getElem?_cons_succ] at h
    rw [oneAt_get n i h]
/-- j waits for i: there is an edge to i, or to one that waits for i. -/
theorem waitsFor_get (rows : List (List Bool)) (j : Nat) : ∀ (es : List Edge) (r : List Bool) (i : Nat), waitsFor rows j es = some r → r[i]? = some true → ∃ e ∈ es, Region.binds .any e = true ∧ e.on < j ∧ (e.on = i ∨ ∃ r', rows[e.on]? = some r' ∧ r'[i]? = some true)
  | [], r, i, h, hi => by
    injection (show some [] = some r from h) with h; subst h; simp at hi
  | e :: es, r, i, h, hi => by
    simp only [waitsFor] at h
    split at h
    · rename_i l hl
      split at h
      · rename_i hb
        split at h
        · rename_i hlt
          split at h
          · rename_i r' hr'
            injection h with h; subst h
            rw [getL_eq] at hr'
            rcases orL_get _ _ _ hi with h | h
            · rcases orL_get _ _ _ h with h | h
              · exact ⟨e, by simp, hb, hlt, .inl (oneAt_get _ _ h).symm⟩
              · exact ⟨e, by simp, hb, hlt, .inr ⟨r', hr', h⟩⟩
            · obtain ⟨e', h1, h2⟩ := waitsFor_get rows j es l i hl h
              exact ⟨e', by simp [h1], h2⟩
          · cases h
        · cases h
      · injection h with h; subst h
        obtain ⟨e', h1, h2⟩ := waitsFor_get rows j es l i hl hi
        exact ⟨e', by simp [h1], h2⟩
    · cases h
theorem rowsOf_get : ∀ (os : List Oper) (rows : List (List Bool)) (i : Nat) (out : List (List Bool)), rowsOf rows i os = some out → rows.length = i → (∀ k, k < i → out[k]? = rows[k]?) ∧ ∀ k o, os[k]? = some o → ∃ r, out[i + k]? = some r ∧ waitsFor out (i + k) o.after.toList = some r
  | [], rows, i, out, h, hl => by
    injection (show some rows = some out from h) with h; subst h
    exact ⟨fun _ _ => rfl, fun k o hk => by simp at hk⟩
  | o :: os, rows, i, out, h, hl => by
    simp only [rowsOf] at h
    split at h
    · rename_i r hr
      obtain ⟨h1, h2⟩ := rowsOf_get os (rows ++ [r]) (i + 1) out h (by simp [hl])
      have hi : out[i]? = some r := by rw [h1 i (by omega), List.getElem?_append_right (by omega)]; simp [hl]
      have hlow : ∀ k, k < i → out[k]? = rows[k]? := fun k hk => by rw [h1 k (by omega), List.getElem?_append_left (by omega)]
      refine ⟨hlow, fun k o' hk => ?_⟩
      cases k with
      | zero =>
        simp only [List.getElem?_cons_zero, Option.some.injEq] at hk; subst hk
        refine ⟨r, hi, ?_⟩
        rw [← hr]
        have : ∀ es : List Edge, waitsFor out i es = waitsFor rows i es := by
          intro es
          induction es with
          | nil => rfl
          | cons e es ih =>
            simp only [waitsFor, ih]
            by_cases hlt : e.on < i
            · rw [getL_eq, getL_eq, hlow _ hlt]
            · simp only [if_neg hlt]
        exact this _
      | succ k =>
        simp only [List.getElem?_cons_succ] at hk
        have := h2 k o' hk
        rw [show i + 1 + k = i + (k + 1) by omega] at this
        exact this
    · cases h
def Closed (ops : Array Oper) (listed : Array Bool) : Prop := ∀ j o, ops[j]? = some o → listed.getD j false = true → ∀ e ∈ o.after, Region.binds .any e = true → listed.getD e.on false = true
theorem waits_rows {rows : List (List Bool)} {j i : Nat} (h : waits rows j i = true) : ∃ r, rows[j]? = some r ∧ r[i]? = some true := by
  unfold waits at h
  split at h
  · rename_i r hr
    split at h
    · rename_i b hb
      rw [getL_eq] at hr hb
      subst h
      exact ⟨r, hr, hb⟩
    · cases h
  · cases h
/-- What one waits for has come up, where it has come up itself. -/
theorem waits_listed {ops : Array Oper} {rows : List (List Bool)} (hrows : rowsOf [] 0 ops.toList = some rows) {listed : Array Bool} (hc : Closed ops listed) : ∀ (j i : Nat) (o : Oper), ops[j]? = some o → waits rows j i = true → (∀ e ∈ o.after, Region.binds .any e = true → listed.getD e.on false = true) → listed.getD i false = true := by
  intro j
  induction j using Nat.strongRecOn with
  | _ j ih =>
    intro i o ho hw he
    obtain ⟨r, hr, hri⟩ := waits_rows hw
    obtain ⟨-, h2⟩ := rowsOf_get ops.toList [] 0 rows hrows rfl
    obtain ⟨r', hr', hwf⟩ := h2 j o (by rw [Array.getElem?_toList]; exact ho)
    rw [Nat.zero_add] at hr' hwf
    rw [hr] at hr'; injection hr' with hr'; subst hr'
    obtain ⟨e, hmem, hb, hlt, h⟩ := waitsFor_get rows j o.after.toList r i hwf hri
    have hel := he e (by simpa using hmem) hb
    rcases h with rfl | ⟨r2, hr2, hi2⟩
    · exact hel
    · have hoe : ∃ oe, ops[e.on]? = some oe := by
        have : e.on < ops.size := Nat.lt_trans hlt (Array.getElem?_eq_some_iff.1 ho).1
        exact ⟨ops[e.on], Array.getElem?_eq_getElem this⟩
      obtain ⟨oe, hoe⟩ := hoe
      refine ih e.on hlt i oe hoe ?_ (fun e' h1 h2 => hc e.on oe hoe hel e' h1 h2)
      unfold waits
      rw [getL_eq, hr2]
      simp only [getL_eq, hi2]
theorem pairs2_get {ops : List Oper} {rows : List (List Bool)} {oi : Oper} {i : Nat} : ∀ (os : List Oper) (j : Nat), pairs2 P ops rows oi i j os = true → ∀ k o, os[k]? = some o → waits rows (j + k) i = true ∨ apartA P ops oi o = true
  | [], j, _, k, o, hk => by simp at hk
  | x :: os, j, h, k, o, hk => by
    simp only [pairs2] at h
    split at h
    · rename_i hb
      cases k with
      | zero =>
        simp only [List.getElem?_cons_zero, Option.some.injEq] at hk; subst hk
        simpa using hb
      | succ k =>
        simp only [List.getElem?_cons_succ] at hk
        have := pairs2_get os (j + 1) h k o hk
        rw [show j + 1 + k = j + (k + 1) by omega] at this
        exact this
    · cases h
theorem pairs1_get {ops : List Oper} {rows : List (List Bool)} : ∀ (os : List Oper) (i : Nat), pairs1 P ops rows i os = true → ∀ a b oa ob, a < b → os[a]? = some oa → os[b]? = some ob → waits rows (i + b) (i + a) = true ∨ apartA P ops oa ob = true
  | [], i, _, a, b, oa, ob, _, ha, _ => by simp at ha
  | x :: os, i, h, a, b, oa, ob, hab, ha, hb => by
    simp only [pairs1] at h
    split at h
    · rename_i h2
      cases b with
      | zero => omega
      | succ b =>
        simp only [List.getElem?_cons_succ] at hb
        cases a with
        | zero =>
          simp only [List.getElem?_cons_zero, Option.some.injEq] at ha; subst ha
          have := pairs2_get os (i + 1) h2 b ob hb
          rw [show i + 1 + b = i + (b + 1) by omega] at this
          exact this
        | succ a =>
          simp only [List.getElem?_cons_succ] at ha
          have := pairs1_get os (i + 1) h a b oa ob (by omega) ha hb
          rw [show i + 1 + b = i + (b + 1) by omega, show i + 1 + a = i + (a + 1) by omega] at this
          exact this
    · cases h
theorem lastAt_get {rows : List (List Bool)} {p : Nat} : ∀ (os : List Oper) (j : Nat), lastAt rows p j os = true → ∀ k o, os[k]? = some o → j + k ≤ p ∨ waits rows (j + k) p = true
  | [], j, _, k, o, hk => by simp at hk
  | x :: os, j, h, k, o, hk => by
    simp only [lastAt] at h
    split at h
    · rename_i hb
      cases k with
      | zero =>
        rcases Bool.or_eq_true _ _ ▸ hb with h1 | h1
        · exact .inl (Nat.le_of_ble_eq_true h1)
        · exact .inr h1
      | succ k =>
        simp only [List.getElem?_cons_succ] at hk
        have := lastAt_get os (j + 1) h k o hk
        rw [show j + 1 + k = j + (k + 1) by omega] at this
        exact this
    · cases h
def stT (tr : List (Tm × St)) (z : Tm × St) (i : Nat) : Tm × St := (tr[i]?).getD z
theorem stT_zero (x : Tm × St) (tr : List (Tm × St)) (z : Tm × St) : stT (x :: tr) z 0 = x := rfl
theorem stT_succ (x : Tm × St) (tr : List (Tm × St)) (z : Tm × St) (i : Nat) : stT (x :: tr) z (i + 1) = stT tr z i := by simp [stT]
theorem trace_get {call : Nat → List AV → St → CR} {ops : List Oper} {n : Nat} : ∀ (l : List Oper) (tm : Tm) (s : St) (tr : List (Tm × St)) (v : Option AV) (tm9 : Tm) (s9 : St), traceA P call ops n l tm s = .ok tr v tm9 s9 →
    stT tr (tm9, s9) 0 = (tm, s) ∧ (v = none → tr.length = l.length) ∧ (∀ u, v = some u → ∃ p o, tr.length = p + 1 ∧ l[p]? = some o ∧ stepO P call ops n o (stT tr (tm9, s9) p).1 (stT tr (tm9, s9) p).2 = .pan u s9) ∧
    ∀ i o, l[i]? = some o → (i + 1 < tr.length ∨ (i < tr.length ∧ v = none)) → stepO P call ops n o (stT tr (tm9, s9) i).1 (stT tr (tm9, s9) i).2 = .go (stT tr (tm9, s9) (i + 1)).1 (stT tr (tm9, s9) (i + 1)).2
  | [], tm, s, tr, v, tm9, s9, h => by
    injection (show TR.ok [] none tm s = .ok tr v tm9 s9 from h) with h1 h2 h3 h4; subst h1; subst h2; subst h3; subst h4
    exact ⟨rfl, fun _ => rfl, fun u hu => by (cases hu), fun i o hi => by simp at hi⟩
  | o :: l, tm, s, tr, v, tm9, s9, h => by
    simp only [traceA] at h
    split at h
    · rename_i tm' s' hst
      split at h
      · rename_i tr' v' tm2 s2 htr
        injection h with h1 h2 h3 h4; subst h1; subst h2; subst h3; subst h4
        obtain ⟨q1, q2, q3, q4⟩ := trace_get l tm' s' tr' v' tm2 s2 htr
        refine ⟨rfl, fun hv => by simp [q2 hv], fun u hu => ?_, fun i o' hi hlt => ?_⟩
        · obtain ⟨p, o', r1, r2, r3⟩ := q3 u hu
          exact ⟨p + 1, o', by simp [r1], by simpa using r2, by rw [stT_succ]; exact r3⟩
        · cases i with
          | zero =>
            simp only [List.getElem?_cons_zero, Option.some.injEq] at hi; subst hi
            rw [stT_succ, stT_zero, q1]
            exact hst
          | succ i =>
            simp only [List.getElem?_cons_succ] at hi
            rw [stT_succ, stT_succ]
            exact q4 i o' hi (by simpa using hlt)
      · cases h
    · rename_i u s' hst
      injection h with h1 h2 h3 h4; subst h1; subst h2; subst h3; subst h4
      refine ⟨rfl, fun hv => by (cases hv), fun u' hu => ⟨0, o, rfl, rfl, ?_⟩, fun i o' hi hlt => ?_⟩
      · injection hu with hu; subst hu; exact hst
      · rcases hlt with h | ⟨-, h⟩
        · simp at h
        · cases h
    · cases h
theorem noneAt_get {k : K} : ∀ (l : List (Tm × St)), noneAt k l = true → ∀ x ∈ l, T.get x.2.hp k = none
  | [], _, x, hx => by cases hx
  | (tm, s) :: l, h, x, hx => by
    simp only [noneAt] at h
    split at h
    · rename_i hn
      rcases List.mem_cons.1 hx with rfl | hx
      · exact hn
      · exact noneAt_get l h x hx
    · cases h
theorem fltOk_get : ∀ (os : List Oper) (tr seen : List (Tm × St)), fltOk P seen os tr = true → ∀ (f : Nat) (o : Oper) (x : Tm × St), os[f]? = some o → tr[f]? = some x → cls P o.op = .f → (∀ y ∈ seen, T.get y.2.hp x.2.nx = none) ∧ ∀ (j : Nat) (y : Tm × St), j ≤ f → tr[j]? = some y → T.get y.2.hp x.2.nx = none
  | [], _, _, _, f, o, x, ho, _, _ => by simp at ho
  | _ :: _, [], _, _, f, o, x, _, hx, _ => by simp at hx
  | a :: os, b :: tr, seen, h, f, o, x, ho, hx, hf => by
    simp only [fltOk] at h
    split at h
    · rename_i hb
      cases f with
      | zero =>
        simp only [List.getElem?_cons_zero, Option.some.injEq] at ho hx; subst ho; subst hx
        rw [hf] at hb
        have := noneAt_get _ hb
        refine ⟨fun y hy => this y (by simp [hy]), fun j y hj hy => ?_⟩
        have : j = 0 := by omega
        subst this
        simp only [List.getElem?_cons_zero, Option.some.injEq] at hy; subst hy
        exact noneAt_get _ hb b (by simp)
      | succ f =>
        simp only [List.getElem?_cons_succ] at ho hx
        obtain ⟨h1, h2⟩ := fltOk_get os tr (b :: seen) h f o x ho hx hf
        refine ⟨fun y hy => h1 y (by simp [hy]), fun j y hj hy => ?_⟩
        cases j with
        | zero =>
          simp only [List.getElem?_cons_zero, Option.some.injEq] at hy; subst hy
          exact h1 b (by simp)
        | succ j =>
          simp only [List.getElem?_cons_succ] at hy
          exact h2 j y (by omega) hy
    · cases h
theorem heldBy_get {rows : List (List Bool)} {r : Nat} {t : TypeId} {p : K × Nat} {v : AV} {s9 : St} {tm9 : Tm} : ∀ (os : List Oper) (tr : List (Tm × St)) (j : Nat), heldBy P rows r t p v j os tr s9 = true → ∀ m o, os[m]? = some o → m < tr.length → isM P o.op = true → waits rows (j + m) r = false → waits rows r (j + m) = false →
    keptAt P (stT tr (tm9, s9) m).2.hp t p v = true ∧ keptAt P (stT tr (tm9, s9) (m + 1)).2.hp t p v = true ∧ hasAt (stT tr (tm9, s9) m).2.hp p.1 = hasAt (stT tr (tm9, s9) (m + 1)).2.hp p.1
  | [], _, _, _, m, o, ho, _, _, _, _ => by simp at ho
  | _ :: _, [], _, _, m, o, _, hm, _, _, _ => by simp at hm
  | a :: os, (tm, s) :: tr, j, h, m, o, ho, hm, hM, w1, w2 => by
    simp only [heldBy] at h
    split at h
    · rename_i hb
      cases m with
      | zero =>
        simp only [List.getElem?_cons_zero, Option.some.injEq] at ho; subst ho
        rw [Nat.add_zero] at w1 w2
        simp only [hM, w1, w2, Bool.not_true, Bool.or_false, Bool.false_or, Bool.and_eq_true, beq_iff_eq] at hb
        rw [stT_succ]
        cases tr with
        | nil => exact hb
        | cons y tr => exact hb
      | succ m =>
        simp only [List.getElem?_cons_succ] at ho
        rw [stT_succ, stT_succ]
        exact heldBy_get os tr (j + 1) h m o ho (by simpa using hm) hM (by rw [show j + 1 + m = j + (m + 1) by omega]; exact w1) (by rw [show j + 1 + m = j + (m + 1) by omega]; exact w2)
    · cases h
theorem heldAll_get {all : List Oper} {rows : List (List Bool)} {tr0 : List (Tm × St)} {s9 : St} {tm9 : Tm} : ∀ (os : List Oper) (tr : List (Tm × St)) (r : Nat), heldAll P all rows tr0 s9 r os tr = true → ∀ k o, os[k]? = some o → k < tr.length → cls P o.op = .r → wantA all (stT tr (tm9, s9) k).1 o = some true →
    ∃ t p v, readAt o.op (stT tr (tm9, s9) k).1 = some (t, p) ∧ loadAt P t (stT tr (tm9, s9) k).2.hp p = some v ∧ heldBy P rows (r + k) t p v 0 all tr0 s9 = true
  | [], _, _, _, k, o, ho, _, _, _ => by simp at ho
  | _ :: _, [], _, _, k, o, _, hk, _, _ => by simp at hk
  | a :: os, (tm, s) :: tr, r, h, k, o, ho, hk, hc, hw => by
    simp only [heldAll] at h
    split at h
    · rename_i hb
      cases k with
      | zero =>
        simp only [List.getElem?_cons_zero, Option.some.injEq] at ho; subst ho
        rw [stT_zero] at hw ⊢
        rw [hc] at hb
        simp only [hw] at hb
        split at hb
        · rename_i t p hr
          split at hb
          · rename_i v hl
            exact ⟨t, p, v, hr, hl, hb⟩
          · cases hb
        · cases hb
      | succ k =>
        simp only [List.getElem?_cons_succ] at ho
        rw [stT_succ] at hw ⊢
        have := heldAll_get os tr (r + 1) h k o ho (by simpa using hk) hc hw
        rw [show r + 1 + k = r + (k + 1) by omega] at this
        exact this
    · cases h
end Go.Proofs.Ythkkphkeonnnfaa.Abs
