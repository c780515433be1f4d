/- An abstract machine over the model's code: a region that draws its order, step by step. No condition but those that each theorem names. -/
import Derived.Test.YthkkphkeonnnfaaAbsS
namespace Go.Proofs.Ythkkphkeonnnfaa.Abs
open Go
variable {P : Program} {B : Nat} {μ μ' μ0 : K → Option Loc} {H H' : Hp} {w w0 w' : World} {s0 : St} {N9 : K}
variable {call : Nat → List AV → St → CR} {ops : Array Oper} {n : Nat} {rows : List (List Bool)} {q : Nat} {st : Nat → Tm × St} {ds : List Deferred} {M : Array Bool} {p : Nat} {a : Act}

theorem set_get {i j : Nat} (hi : i < M.size) : (M.setIfInBounds i true).getD j false = true ↔ j = i ∨ M.getD j false = true := by
  by_cases e : i = j
  · subst e
    simp [hi]
  · rw [getD_set_ne false e]
    exact ⟨fun h => .inr h, fun h => h.elim (fun h => absurd h.symm e) id⟩
theorem closed_set (hi : M.size = ops.size) (hc : Closed ops M) {i : Nat} {o : Oper} (N : Nxt P ops rows M i o) : Closed ops (M.setIfInBounds i true) := by
  intro j oj hj hM e he hb
  have his : i < M.size := by rw [hi]; exact (Array.getElem?_eq_some_iff.1 N.ho).1
  rcases (set_get his).1 hM with rfl | h
  · rw [N.ho] at hj; injection hj with hj; subst hj
    exact getD_set_true (N.edges e he hb)
  · exact getD_set_true (hc j oj hj h e he hb)
/-- The temporaries, once one more has come up. -/
theorem tmps_set (L : Line P call ops n rows q st) (I : Inv P B μ0 s0 w0 N9 ds ops n q st M p H μ a w) {i : Nat} {o : Oper} (N : Nxt P ops rows M i o) (hi : i < q) (hm : MLe μ μ') {v : AV} {c : Value} (hc : conc μ' v = some c) (hp : putK none n (st i).1 v (fun tm => some tm) o.dst = some (st (i + 1)).1) :
    ∀ i', i' ≤ q → ∀ t, (∀ j oj, ops[j]? = some oj → oj.dst = some t → ((M.setIfInBounds i true).getD j false = true ↔ j < i')) → ∀ v, T.get (st i').1 (K.of t) = some v → ∃ x, conc μ' v = some x ∧ (a.put o.dst c).tmps[t]? = some x := by
  intro i' hi' t hw v' hv'
  have his : i < M.size := by rw [I.size]; exact (Array.getElem?_eq_some_iff.1 N.ho).1
  by_cases hd : o.dst = some t
  · have hlt : i < i' := (hw i o N.ho hd).1 ((set_get his).2 (.inl rfl))
    have hbt : T.get (st i').1 (K.of t) = T.get (st (i + 1)).1 (K.of t) := by
      refine L.tm_between (by omega) hi' fun k ok h1 h2 hok hdk => ?_
      have hk := (set_get his).1 ((hw k ok hok hdk).2 h2)
      rcases hk with rfl | hk
      · omega
      · rcases N.behind L hok (show i < k by omega) with h3 | h3
        · rw [hk] at h3; cases h3
        · exact (apart_reads h3).2.2 t hd hdk
    obtain ⟨h1, h2⟩ := (putK_get hp t).2 hd
    rw [hbt, h1] at hv'
    injection hv' with hv'; subst hv'
    exact ⟨c, hc, by rw [hd]; simp [Act.put, I.tsize, h2]⟩
  · have := I.tmps i' hi' t (fun j oj hj hdj => by
      rw [← hw j oj hj hdj]
      have hne : j ≠ i := by
        rintro rfl
        rw [N.ho] at hj; injection hj with hj; subst hj
        exact hd hdj
      constructor
      · intro h; exact (set_get his).2 (.inr h)
      · intro h; exact ((set_get his).1 h).resolve_left hne) v' hv'
    obtain ⟨x, h1, h2⟩ := this
    refine ⟨x, conc_mono hm _ _ h1, ?_⟩
    cases hod : o.dst with
    | none => exact h2
    | some d =>
      have hne : ¬ d = t := fun e => hd (by rw [hod, e])
      simp [Act.put, hne, h2]
theorem put_size (d : Option Tmp) (c : Value) : (a.put d c).tmps.size = a.tmps.size := by cases d <;> simp [Act.put]
/-- What leaves the memory. -/
theorem Inv.quiet (L : Line P call ops n rows q st) (I : Inv P B μ0 s0 w0 N9 ds ops n q st M p H μ a w) {i : Nat} {o : Oper} (N : Nxt P ops rows M i o) (hi : i < q) (hM : isM P o.op = false) (hF : ¬ Flt P ops st i) (hfc : cls P o.op = .f → p ≤ i) {v : AV} {c : Value} (hc : conc μ v = some c) (hp : putK none n (st i).1 v (fun tm => some tm) o.dst = some (st (i + 1)).1) :
    Inv P B μ0 s0 w0 N9 ds ops n q st (M.setIfInBounds i true) p H μ (a.put o.dst c) w := by
  have his : i < M.size := by rw [I.size]; exact (Array.getElem?_eq_some_iff.1 N.ho).1
  have hFl : ∀ f, Flt P ops st f → ((M.setIfInBounds i true).getD f false = true ↔ M.getD f false = true) := fun f hf => by
    rw [set_get his]
    exact ⟨fun h => h.resolve_left (by rintro rfl; exact hF hf), .inr⟩
  refine ⟨by simpa using I.size, closed_set I.size I.closed N, fun j hj => ?_, I.ple, fun j oj hj hjq hMj => ?_, fun j oj hj hjp hcj => (set_get his).2 (.inr (I.fl j oj hj hjp hcj)), fun k b => ?_, I.step, fun k l hk => ?_, (put_defers _ _ _).trans I.defers, (put_size _ _).trans I.tsize, tmps_set L I N hi (MLe.refl _) hc hp⟩
  · rcases (set_get his).1 hj with rfl | hj
    · exact hi
    · exact I.lt j hj
  · rw [set_get his, I.mov j oj hj hjq hMj]
    refine ⟨fun h => h.resolve_left ?_, .inr⟩
    rintro rfl
    rw [N.ho] at hj; injection hj with hj; subst hj
    rw [hM] at hMj; cases hMj
  · rw [I.heap k b]
    constructor
    · rintro (h | ⟨f, h1, h2, h3, h4, h5⟩)
      · exact .inl h
      · exact .inr ⟨f, h1, h2, h3, (hFl f h3).2 h4, h5⟩
    · rintro (h | ⟨f, h1, h2, h3, h4, h5⟩)
      · exact .inl h
      · exact .inr ⟨f, h1, h2, h3, (hFl f h3).1 h4, h5⟩
  · rcases I.dom k l hk with h | h | ⟨f, h1, h2, h3, h4, h5⟩
    · exact .inl h
    · exact .inr (.inl h)
    · exact .inr (.inr ⟨f, h1, h2, h3, (hFl f h3).2 h4, h5⟩)
/-- What makes a block, whatever is in memory. -/
theorem Inv.make (L : Line P call ops n rows q st) (I : Inv P B μ0 s0 w0 N9 ds ops n q st M p H μ a w) {i : Nat} {o : Oper} (N : Nxt P ops rows M i o) (hi : i < q) (hF : Flt P ops st i) (h0 : s0.nx.val ≤ (st i).2.nx.val) (h9 : (st q).2.nx.val ≤ N9.val) {b : Bk} (hb : (st (i + 1)).2 = newB (st i).2 b)
    {v : AV} {c : Value} (hc : conc μ' v = some c) (hp : putK none n (st i).1 v (fun tm => some tm) o.dst = some (st (i + 1)).1)
    (hs : Step B μ (T.get (.e : T Bk)) (st i).2.nx w μ' (T.get (newB ⟨.e, (st i).2.nx⟩ b).hp) (newB ⟨.e, (st i).2.nx⟩ b).nx w') :
    ∃ H', Inv P B μ0 s0 w0 N9 ds ops n q st (M.setIfInBounds i true) p H' μ' (a.put o.dst c) w' := by
  have his : i < M.size := by rw [I.size]; exact (Array.getElem?_eq_some_iff.1 N.ho).1
  obtain ⟨o', ho', hcf, -⟩ := id hF
  rw [N.ho] at ho'; injection ho' with ho'; subst ho'
  have hpi : p ≤ i := by
    rcases Nat.lt_or_ge i p with h | h
    · have := I.fl i o N.ho h hcf; rw [N.un] at this; cases this
    · exact h
  have hget : ∀ k, T.get (newB ⟨.e, (st i).2.nx⟩ b).hp k = if k = (st i).2.nx then some b else none := fun k => by
    show T.get (T.set .e (st i).2.nx b) k = _
    rw [T.get_set, T.get_e]
  have hnone : ∀ j, j ≤ i → T.get (st j).2.hp (st i).2.nx = none := fun j hj => L.flt_none hi hF hj
  have hown : T.get (st (i + 1)).2.hp (st i).2.nx = some b := by
    rw [hb]
    show T.get (T.set (st i).2.hp (st i).2.nx b) _ = _
    rw [T.get_set, if_pos rfl]
  have hHn : H (st i).2.nx = none := by
    cases hh : H (st i).2.nx with
    | none => rfl
    | some b' =>
      rcases (I.heap _ _).1 hh with h | ⟨f, h1, h2, h3, h4, h5, -⟩
      · rw [hnone p hpi] at h; cases h
      · have := L.flt_inj hi h2 hF h3 h5
        subst this
        rw [N.un] at h4; cases h4
  have hst := step_laid (H := H) I.step.rel (fun k b' h => by rw [T.get_e] at h; cases h) hs
  have hH' : ∀ k b', laid (T.get (newB ⟨.e, (st i).2.nx⟩ b).hp) (T.get (.e : T Bk)) H k = some b' ↔ (k = (st i).2.nx ∧ b' = b) ∨ H k = some b' := fun k b' => by
    by_cases e : k = (st i).2.nx
    · subst e
      rw [hHn]
      unfold laid
      rw [hget, if_pos rfl]
      exact ⟨fun h => .inl ⟨rfl, by injection h with h; exact h.symm⟩, fun h => h.elim (fun h => by rw [h.2]) (fun h => by cases h)⟩
    · rw [laid_old (by rw [hget, if_neg e]) (T.get_e k)]
      exact ⟨.inr, fun h => h.elim (fun h => absurd h.1 e) id⟩
  refine ⟨_, by simpa using I.size, closed_set I.size I.closed N, fun j hj => ?_, I.ple, fun j oj hj hjq hMj => ?_, fun j oj hj hjp hcj => (set_get his).2 (.inr (I.fl j oj hj hjp hcj)), fun k b' => ?_, I.step.then_ hst h0 ?_, fun k l hk => ?_, (put_defers _ _ _).trans I.defers, (put_size _ _).trans I.tsize, tmps_set L I N hi hst.ext hc hp⟩
  · rcases (set_get his).1 hj with rfl | hj
    · exact hi
    · exact I.lt j hj
  · rw [set_get his, I.mov j oj hj hjq hMj]
    refine ⟨fun h => h.resolve_left ?_, .inr⟩
    rintro rfl
    rw [hF.notM hj] at hMj; cases hMj
  · rw [hH' k b', I.heap k b']
    constructor
    · rintro (⟨rfl, rfl⟩ | h | ⟨f, h1, h2, h3, h4, h5⟩)
      · exact .inr ⟨i, hpi, hi, hF, (set_get his).2 (.inl rfl), rfl, hown⟩
      · exact .inl h
      · exact .inr ⟨f, h1, h2, h3, (set_get his).2 (.inr h4), h5⟩
    · rintro (h | ⟨f, h1, h2, h3, h4, h5, h6⟩)
      · exact .inr (.inl h)
      · rcases (set_get his).1 h4 with rfl | h4
        · subst h5
          rw [hown] at h6
          exact .inl ⟨rfl, by injection h6 with h6; exact h6.symm⟩
        · exact .inr (.inr ⟨f, h1, h2, h3, h4, h5, h6⟩)
  · show (K.succ (st i).2.nx).val ≤ N9.val
    rw [K.val_succ]
    have := L.flt_lt hF hi (Nat.le_refl q)
    omega
  · rcases hst.new k l hk with h | ⟨h1, h2⟩
    · rcases I.dom k l h with h | h | ⟨f, h1, h2, h3, h4, h5⟩
      · exact .inl h
      · exact .inr (.inl h)
      · exact .inr (.inr ⟨f, h1, h2, h3, (set_get his).2 (.inr h4), h5⟩)
    · have h2 : k.val < (K.succ (st i).2.nx).val := h2
      rw [K.val_succ] at h2
      exact .inr (.inr ⟨i, hpi, hi, hF, (set_get his).2 (.inl rfl), K.val_inj (by omega)⟩)
/-- What stands ahead of a mover. -/
theorem Nxt.clear (L : Line P call ops n rows q st) (I : Inv P B μ0 s0 w0 N9 ds ops n q st M p H μ a w) {i : Nat} {o : Oper} (N : Nxt P ops rows M i o) (hiq : i ≤ q) (hM : isM P o.op = true) (hpi : p ≤ i) : Inv P B μ0 s0 w0 N9 ds ops n q st M i H μ a w := by
  refine I.raise L hpi hiq (fun k ok h1 h2 hk => ?_) (fun j oj hj h1 h2 hcj => ?_)
  · cases hMk : isM P ok.op with
    | false => rfl
    | true =>
      rcases N.before L hk h2 with h3 | h3
      · have := (I.mov k ok hk (by omega) hMk).1 h3; omega
      · exact absurd (isM_true hMk) (apart_cls h3 (isM_true hM)).1
  · rcases N.before L hj h2 with h3 | h3
    · exact h3
    · exact absurd hcj (apart_cls h3 (isM_true hM)).2
/-- What may change the memory. -/
theorem Inv.move (L : Line P call ops n rows q st) {i : Nat} (I : Inv P B μ0 s0 w0 N9 ds ops n q st M i H μ a w) {o : Oper} (N : Nxt P ops rows M i o) (hi : i < q) (hM : isM P o.op = true) (h0 : s0.nx.val ≤ (st i).2.nx.val) (h9 : (st q).2.nx.val ≤ N9.val)
    {v : AV} {c : Value} (hc : conc μ' v = some c) (hp : putK none n (st i).1 v (fun tm => some tm) o.dst = some (st (i + 1)).1)
    (hs : Step B μ (T.get (st i).2.hp) (st i).2.nx w μ' (T.get (st (i + 1)).2.hp) (st (i + 1)).2.nx w') :
    ∃ H', Inv P B μ0 s0 w0 N9 ds ops n q st (M.setIfInBounds i true) (i + 1) H' μ' (a.put o.dst c) w' := by
  have his : i < M.size := by rw [I.size]; exact (Array.getElem?_eq_some_iff.1 N.ho).1
  have hnf : ∀ f, Flt P ops st f → f ≠ i := fun f hf e => by
    subst e
    rw [hf.notM N.ho] at hM; cases hM
  have hst := step_laid (H := H) I.step.rel (fun k b' h => (I.heap k b').2 (.inl h)) hs
  refine ⟨_, by simpa using I.size, closed_set I.size I.closed N, fun j hj => ?_, by omega, fun j oj hj hjq hMj => ?_, fun j oj hj hjp hcj => ?_, fun k b' => ?_, I.step.then_ hst h0 (Nat.le_trans (L.nx_le (i := i + 1) (by omega) (Nat.le_refl q)) h9), fun k l hk => ?_, (put_defers _ _ _).trans I.defers, (put_size _ _).trans I.tsize, tmps_set L I N hi hst.ext hc hp⟩
  · rcases (set_get his).1 hj with rfl | hj
    · exact hi
    · exact I.lt j hj
  · rw [set_get his, I.mov j oj hj hjq hMj]
    omega
  · have hne : j ≠ i := by
      rintro rfl
      rw [N.ho] at hj; injection hj with hj; subst hj
      rw [isM_true hM] at hcj; cases hcj
    exact (set_get his).2 (.inr (I.fl j oj hj (by omega) hcj))
  · constructor
    · intro h
      rcases laid_some h with h | ⟨h1, h2, h⟩
      · exact .inl h
      · rcases (I.heap k b').1 h with h | ⟨f, g1, g2, g3, g4, g5, g6⟩
        · rw [h2] at h; cases h
        · have := hnf f g3
          exact .inr ⟨f, by omega, g2, g3, (set_get his).2 (.inr g4), g5, g6⟩
    · rintro (h | ⟨f, g1, g2, g3, g4, g5, g6⟩)
      · exact laid_new h
      · have hn := hnf f g3
        have g4 := ((set_get his).1 g4).resolve_left hn
        rw [laid_old (by rw [g5]; exact L.flt_none g2 g3 g1) (by rw [g5]; exact L.flt_none g2 g3 (by omega))]
        exact (I.heap k b').2 (.inr ⟨f, by omega, g2, g3, g4, g5, g6⟩)
  · rcases hst.new k l hk with h | ⟨h1, h2⟩
    · rcases I.dom k l h with h | h | ⟨f, g1, g2, g3, g4, g5⟩
      · exact .inl h
      · exact .inr (.inl (Nat.lt_of_lt_of_le h (L.nx_succ hi)))
      · have := hnf f g3
        exact .inr (.inr ⟨f, by omega, g2, g3, (set_get his).2 (.inr g4), g5⟩)
    · exact .inr (.inl h2)
/-- A name that the mark has not come to is not used. -/
theorem Inv.fresh {i : Nat} (I : Inv P B μ0 s0 w0 N9 ds ops n q st M i H μ a w) (hf : Fresh μ0 s0.nx N9) (h0 : s0.nx.val ≤ (st i).2.nx.val) {N1 : K} (h1 : N1.val ≤ N9.val) (hn : ∀ f, i ≤ f → f < q → Flt P ops st f → M.getD f false = true → N1.val ≤ (st f).2.nx.val) : Fresh μ (st i).2.nx N1 := fun k g1 g2 => by
  cases e : μ k with
  | none => rfl
  | some l =>
    rcases I.dom k l e with h | h | ⟨f, f1, f2, f3, f4, f5⟩
    · rw [hf k (by omega) (by omega)] at h; cases h
    · omega
    · have := hn f f1 f2 f3 f4
      rw [← f5] at this; omega
end Go.Proofs.Ythkkphkeonnnfaa.Abs
