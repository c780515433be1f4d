/- An abstract machine over the model's code: a region that draws its order comes to what it comes to in the text's order. No condition but those that each theorem names. -/
import Derived.Test.YthkkphkeonnnfaaAbsU
namespace Go.Proofs.Ythkkphkeonnnfaa.Abs
open Go
variable {P : Program} {B : Nat} {μ μ' μ0 : K → Option Loc} {H H' : Hp} {w w0 w' : World} {s0 : St} {N9 : K}
variable {call : Nat → List AV → St → CR} {ops : Array Oper} {n : Nat} {rows : List (List Bool)} {q : Nat} {st : Nat → Tm × St} {ds : List Deferred} {M : Array Bool} {p : Nat} {a : Act}

/-- A block that holds such a value there. -/
def Ld (P : Program) (t : TypeId) (x : Option Bk) (o : Nat) (v : AV) : Prop := ∃ b cs, x = some b ∧ rdl b = some cs ∧ partA P t cs o = some v
theorem loadAt_ld {t : TypeId} {h : T Bk} {i : K} {o : Nat} {v : AV} (e : loadAt P t h (i, o) = some v) : Ld P t (T.get h i) o v := by
  obtain ⟨cs, h1, h2⟩ := optK_some e
  obtain ⟨b, h3, h4⟩ := optK_some h1
  exact ⟨b, cs, h3, h4, h2⟩
theorem kept_ld {t : TypeId} {h : T Bk} {i : K} {o : Nat} {v : AV} (e : keptAt P h t (i, o) v = true) (hh : hasAt h i = true) : Ld P t (T.get h i) o v := by
  unfold keptAt at e
  split at e
  · rename_i u hu
    rw [← sameA_eq _ _ e]
    exact loadAt_ld hu
  · rw [show hasAt h (i, o).1 = hasAt h i from rfl, hh] at e; cases e
theorem has_of {h : T Bk} {i : K} {b : Bk} (e : T.get h i = some b) : hasAt h i = true := by unfold hasAt; rw [e]
/-- A load finds what it finds in the text's order. -/
theorem load_there (L : Line P call ops n rows q st) (I : Inv P B μ0 s0 w0 N9 ds ops n q st M p H μ a w) (hf : Fresh μ0 s0.nx N9) (h0 : ∀ j, j ≤ q → s0.nx.val ≤ (st j).2.nx.val) (h9 : (st q).2.nx.val ≤ N9.val) {i : Nat} {o : Oper} (N : Nxt P ops rows M i o) (hi : i < q) (hc : cls P o.op = .r) (hw : wantA ops.toList (st i).1 o = some true) :
    ∃ t k d v, readAt o.op (st i).1 = some (t, (k, d)) ∧ loadAt P t (st i).2.hp (k, d) = some v ∧ ((∃ l, μ k = some l) → Ld P t (H k) d v) := by
  obtain ⟨t, ⟨k, d⟩, v, hr, hl, hk⟩ := L.held i o N.ho hi hc hw
  refine ⟨t, k, d, v, hr, hl, ?_⟩
  rintro ⟨l, hl'⟩
  have hnM : isM P o.op = false := by unfold isM; rw [hc]
  have good : Ld P t (T.get (st i).2.hp k) d v := loadAt_ld hl
  have fin : Ld P t (T.get (st p).2.hp k) d v → Ld P t (H k) d v := by
    rintro ⟨b, cs, h1, h2⟩
    exact ⟨b, cs, (I.heap k b).2 (.inl h1), h2⟩
  rcases Nat.lt_or_ge i p with hip | hip
  · refine fin ?_
    have up : ∀ j, i ≤ j → j ≤ p → Ld P t (T.get (st j).2.hp k) d v := by
      intro j
      induction j with
      | zero =>
        intro h _
        have : i = 0 := by omega
        subst this; exact good
      | succ j ih =>
        intro h1 h2
        by_cases e : i = j + 1
        · subst e; exact good
        · obtain ⟨b, cs, g1, g2, g3⟩ := ih (by omega) (by omega)
          have hjq : j < q := by have := I.ple; omega
          obtain ⟨oj, hoj⟩ := L.at_ hjq
          cases hMj : isM P oj.op with
          | true =>
            have hlj := (I.mov j oj hoj hjq hMj).2 (by omega)
            have hne : j ≠ i := by rintro rfl; rw [N.un] at hlj; cases hlj
            have w1 : waits rows j i = false := by
              cases h : waits rows j i with
              | false => rfl
              | true => have := N.post j h; rw [hlj] at this; cases this
            have w2 : waits rows i j = false := by
              cases h : waits rows i j with
              | false => rfl
              | true => have := waits_lt L.rows_ i j h; omega
            obtain ⟨-, q2, q3⟩ := hk j oj hoj hjq hMj w1 w2
            exact kept_ld q2 (q3 ▸ has_of g1)
          | false =>
            rcases L.kind hoj hjq hMj with ⟨hF, b', hb'⟩ | ⟨-, hs⟩
            · refine ⟨b, cs, ?_, g2, g3⟩
              rw [hb']
              show T.get (T.set (st j).2.hp (st j).2.nx b') k = some b
              rw [T.get_set]
              split
              · rename_i e'
                rw [e', L.flt_none hjq hF (Nat.le_refl _)] at g1; cases g1
              · exact g1
            · rw [hs]; exact ⟨b, cs, g1, g2, g3⟩
    exact up p (by omega) (Nat.le_refl _)
  · have down : ∀ m j, j + m = i → p ≤ j → Ld P t (T.get (st j).2.hp k) d v ∨ ∃ f, p ≤ f ∧ f < i ∧ Flt P ops st f ∧ k = (st f).2.nx ∧ Ld P t (T.get (st (f + 1)).2.hp k) d v := by
      intro m
      induction m with
      | zero =>
        intro j h _
        have : j = i := by omega
        subst this; exact .inl good
      | succ m ih =>
        intro j h1 h2
        rcases ih (j + 1) (by omega) (by omega) with g | g
        · have hjq : j < q := by omega
          obtain ⟨oj, hoj⟩ := L.at_ hjq
          obtain ⟨b, cs, g1, g2, g3⟩ := g
          cases hMj : isM P oj.op with
          | true =>
            have hlj : M.getD j false = false := by
              cases h : M.getD j false with
              | false => rfl
              | true => have := (I.mov j oj hoj hjq hMj).1 h; omega
            have w1 : waits rows j i = false := by
              cases h : waits rows j i with
              | false => rfl
              | true => have := waits_lt L.rows_ j i h; omega
            have w2 : waits rows i j = false := by
              cases h : waits rows i j with
              | false => rfl
              | true => have := N.pre j h; rw [hlj] at this; cases this
            obtain ⟨q1, -, q3⟩ := hk j oj hoj hjq hMj w1 w2
            exact .inl (kept_ld q1 (q3 ▸ has_of g1))
          | false =>
            rcases L.kind hoj hjq hMj with ⟨hF, b', hb'⟩ | ⟨-, hs⟩
            · by_cases e : k = (st j).2.nx
              · exact .inr ⟨j, h2, by omega, hF, e, b, cs, g1, g2, g3⟩
              · rw [hb'] at g1
                have g1 : T.get (T.set (st j).2.hp (st j).2.nx b') k = some b := g1
                rw [T.get_set, if_neg e] at g1
                exact .inl ⟨b, cs, g1, g2, g3⟩
            · rw [hs] at g1; exact .inl ⟨b, cs, g1, g2, g3⟩
        · exact .inr g
    rcases down (i - p) p (by omega) (Nat.le_refl _) with g | ⟨f, f1, f2, f3, f4, b, cs, g1, g2, g3⟩
    · exact fin g
    · have hlf : M.getD f false = true := by
        rcases I.dom k l hl' with h | h | ⟨f', e1, e2, e3, e4, e5⟩
        · have h1 := h0 f (by omega)
          have h2 := L.flt_lt f3 (show f < q by omega) (Nat.le_refl q)
          rw [← f4] at h1 h2
          rw [hf k h1 (by omega)] at h; cases h
        · have := L.nx_le (show p ≤ f from f1) (by omega)
          rw [f4] at h; omega
        · rw [f4] at e5
          have := L.flt_inj (by omega) e2 f3 e3 e5
          subst this; exact e4
      exact ⟨b, cs, (I.heap k b).2 (.inr ⟨f, f1, by omega, f3, hlf, f4, g1⟩), g2, g3⟩
theorem readAt_inv {op : Op} {tm : Tm} {t : TypeId} {x : K × Nat} (h : readAt op tm = some (t, x)) : ∃ e, op = .load t e ∧ ev tm e = some (.ptr (some x)) := by
  unfold readAt at h
  split at h
  · rename_i t' e
    split at h
    · rename_i y hy
      injection h with h; injection h with h1 h2; subst h1; subst h2
      obtain ⟨u, hu, hp⟩ := optK_some hy
      exact ⟨e, rfl, by rw [hu, asPtr_some hp]⟩
    · cases h
  · cases h
/-- One operation of a region that draws its order. -/
theorem drawn_step (hN : NoNG P) (L : Line P call ops n rows q st) (I : Inv P B μ0 s0 w0 N9 ds ops n q st M p H μ a w) (hf : Fresh μ0 s0.nx N9) (h0 : ∀ j, j ≤ q → s0.nx.val ≤ (st j).2.nx.val) (h9 : (st q).2.nx.val ≤ N9.val) {i : Nat} {o : Oper} (N : Nxt P ops rows M i o) (hi : i < q)
    {k : Act → World → Prop} {Q : Exit → Act → World → Prop} (hk : ∀ p' H' μ' a' w', Inv P B μ0 s0 w0 N9 ds ops n q st (M.setIfInBounds i true) p' H' μ' a' w' → k a' w') : wpOp P ops Q i k a w := by
  unfold wpOp
  rw [N.ho]
  simp only []
  have hgo := stepO_go (L.go i o N.ho hi)
  have hpf : cls P o.op = .f → p ≤ i := fun hc => by
    rcases Nat.lt_or_ge i p with h | h
    · have := I.fl i o N.ho h hc; rw [N.un] at this; cases this
    · exact h
  have hpm : isM P o.op = true → p ≤ i := fun hM => by
    rcases Nat.lt_or_ge i p with h | h
    · have := (I.mov i o N.ho hi hM).2 h; rw [N.un] at this; cases this
    · exact h
  have notF : cls P o.op ≠ .f → ¬ Flt P ops st i := fun hc => by
    rintro ⟨o', ho', hc', -⟩
    rw [N.ho] at ho'; injection ho' with ho'; subst ho'
    exact hc hc'
  have h1i := h0 i (by omega)
  have hnx := L.nx_le (i := i + 1) (by omega) (Nat.le_refl q)
  rcases hgo with ⟨hw, hp, hs⟩ | ⟨hw, v, hv, hp⟩
  · rw [N.want L I hi hw]
    simp only [Bool.false_eq_true, if_false]
    cases hM : isM P o.op with
    | true =>
      have I' := N.clear L I (by omega) hM (hpm hM)
      obtain ⟨H', h⟩ := I'.move (μ' := μ) (w' := w) L N hi hM h1i h9 conc_undef hp (by rw [hs]; exact Step.refl (I'.step.rel.sub fun k b h => (I'.heap k b).2 (.inl h)) _)
      exact hk _ _ _ _ _ h
    | false =>
      refine hk _ _ _ _ _ (I.quiet L N hi hM ?_ hpf conc_undef hp)
      rintro ⟨o', ho', -, hw'⟩
      rw [N.ho] at ho'; injection ho' with ho'; subst ho'
      rw [hw] at hw'; cases hw'
  · rw [N.want L I hi hw]
    simp only [if_true]
    have hops := N.ops_ L I hi
    refine .inl ?_
    cases hc : cls P o.op with
    | m =>
      have hM := isM_of hc
      have I' := N.clear L I (by omega) hM (hpm hM)
      refine op_wp hN L.hC (I'.step.rel.sub fun k b h => (I'.heap k b).2 (.inl h)) (I'.fresh hf h1i (by omega) fun f f1 f2 f3 f4 => ?_) hv hops fun μ' c w' hcc hst => ?_
      · have : f ≠ i := by
          rintro rfl
          rw [f3.notM N.ho] at hM; cases hM
        exact L.nx_le (by omega) (by omega)
      · obtain ⟨H', h⟩ := I'.move L N hi hM h1i h9 hcc hp hst
        exact hk _ _ _ _ _ h
    | f =>
      have hF : Flt P ops st i := ⟨o, N.ho, hc, hw⟩
      obtain ⟨b, hb, hrun⟩ := flt_inv hc hv
      have hfr : Fresh μ (st i).2.nx (newB ⟨.e, (st i).2.nx⟩ b).nx := fun k g1 g2 => by
        cases e : μ k with
        | none => rfl
        | some l =>
          have g2 : k.val < (K.succ (st i).2.nx).val := g2
          rw [K.val_succ] at g2
          have hlt := L.flt_lt hF hi (Nat.le_refl q)
          rcases I.dom k l e with h | h | ⟨f, f1, f2, f3, f4, f5⟩
          · rw [hf k (by omega) (by omega)] at h; cases h
          · have := L.nx_le (show p ≤ i from hpf hc) (by omega); omega
          · have : (st f).2.nx = (st i).2.nx := by rw [← f5]; exact K.val_inj (by omega)
            have := L.flt_inj f2 hi f3 hF this
            subst this
            rw [N.un] at f4; cases f4
      refine op_wp (μ := μ) (s := ⟨.e, (st i).2.nx⟩) hN L.hC (I.step.rel.sub fun k b h => by rw [T.get_e] at h; cases h) hfr hrun hops fun μ' c w' hcc hst => ?_
      obtain ⟨H', h⟩ := I.make L N hi hF h1i h9 hb hcc hp hst
      exact hk _ _ _ _ _ h
    | p =>
      obtain ⟨dst, op, ty, pos, after, guard⟩ := o
      obtain ⟨-, c, hcc, hy⟩ := pure_ok (P := P) call dst op ty pos after guard hc hv hops
      unfold Oper.wp
      rw [hy w, Oper.upon]
      exact hk _ _ _ _ _ (I.quiet L N hi (by unfold isM; rw [hc]) (notF (by rw [hc]; exact fun e => by cases e)) hpf hcc hp)
    | r =>
      obtain ⟨t, kk, d, v', hr, hl, hth⟩ := load_there L I hf h0 h9 N hi hc hw
      obtain ⟨e, heq, hev⟩ := readAt_inv hr
      obtain ⟨dst, op, ty, pos, after, guard⟩ := o
      have heq : op = .load t e := heq
      subst heq
      have hv1 : opLoad P t (ev (st i).1 e) (st i).2 = some v := (ofO_ret (show ofO (opLoad P t (ev (st i).1 e) (st i).2) (st i).2 = .ret v (st (i + 1)).2 from hv)).1
      rw [hev] at hv1
      have hv1 : loadAt P t (st i).2.hp (kk, d) = some v := hv1
      rw [hl] at hv1
      injection hv1 with hv1; subst hv1
      have hptr := hops e (by simp [Op.operands]) _ hev
      obtain ⟨l, hkl, -⟩ := conc_ptr hptr
      obtain ⟨b, cs, g1, g2, g3⟩ := hth ⟨l, hkl⟩
      obtain ⟨c, hcc, hrun⟩ := loadAt_run I.step.rel g1 g2 g3 hptr
      have hex : (execOp a.eval ⟨dst, .load t e, ty, pos, after, guard⟩).run P w = .ok (.value c) w := vrun hrun
      unfold Oper.wp
      rw [hex, Oper.upon]
      exact hk _ _ _ _ _ (I.quiet L N hi (by unfold isM; rw [hc]) (notF (by rw [hc]; exact fun e => by cases e)) hpf hcc hp)
/-- All have come up, where none is ready. -/
theorem all_up {rows : List (List Bool)} (hrows : rowsOf [] 0 ops.toList = some rows) (hs : M.size = ops.size) (h : Region.ready .any ops M = []) : ∀ j, j < ops.size → M.getD j false = true := by
  intro j
  induction j using Nat.strongRecOn with
  | _ j ih =>
    intro hj
    cases hM : M.getD j false with
    | true => rfl
    | false =>
      have hj' : j < M.size := by omega
      have : j ∈ Region.ready .any ops M := by
        refine mem_ready.2 ⟨?_, ops[j], Array.getElem?_eq_getElem hj, fun e he hb => ?_⟩
        · simp only [Array.getD_eq_getD_getElem?, Array.getElem?_eq_getElem hj', Option.getD_some] at hM ⊢
          exact hM
        · have := edges_lt hrows (Array.getElem?_eq_getElem hj) e he hb
          exact ih e.on this (by omega)
      rw [h] at this; cases this
theorem count_set {i : Nat} (hi : i < M.size) (h : M.getD i false = false) : (M.setIfInBounds i true).toList.count false + 1 = M.toList.count false := by
  have hi' : i < M.toList.length := by simpa using hi
  have hM : M.toList[i] = false := by
    simp only [Array.getD_eq_getD_getElem?, Array.getElem?_eq_getElem hi, Option.getD_some] at h
    simpa using h
  rw [Array.toList_setIfInBounds, List.count_set hi', hM]
  have : 0 < M.toList.count false := List.count_pos_iff.2 (by rw [← hM]; exact List.getElem_mem hi')
  rw [if_pos (show (false == false) = true from rfl), if_neg (show ¬ (true == false) = true from fun h => by cases h)]
  omega
/-- A region whose operations all go through in the text's order. -/
theorem drawn_ok (hN : NoNG P) (L : Line P call ops n rows q st) (hq : q = ops.size) (hf : Fresh μ0 s0.nx N9) (h0 : ∀ j, j ≤ q → s0.nx.val ≤ (st j).2.nx.val) (h9 : (st q).2.nx = N9) {Q : Exit → Act → World → Prop}
    (hQ : ∀ a' w', Post B μ0 s0 w0 n ds .nrm (st q).1 (st q).2 .normal a' w' → Q .normal a' w') : ∀ (fuel : Nat) (M : Array Bool) (p : Nat) (H : Hp) (μ : K → Option Loc) (a : Act) (w : World), M.toList.count false ≤ fuel → Inv P B μ0 s0 w0 N9 ds ops n q st M p H μ a w → wpAny P .any ops Q fuel M a w := by
  have done : ∀ (M : Array Bool) (p : Nat) (H : Hp) (μ : K → Option Loc) (a : Act) (w : World), Inv P B μ0 s0 w0 N9 ds ops n q st M p H μ a w → Region.ready .any ops M = [] → Q .normal a w := by
    intro M p H μ a w I hr
    have hall := all_up L.rows_ I.size hr
    have I' : Inv P B μ0 s0 w0 N9 ds ops n q st M q H μ a w := by
      refine I.raise L I.ple (Nat.le_refl q) (fun k o h1 h2 hk => ?_) (fun j o hj _ h2 _ => hall j (by omega))
      cases hM : isM P o.op with
      | false => rfl
      | true => have := (I.mov k o hk h2 hM).1 (hall k (by omega)); omega
    refine hQ a w ⟨μ, ?_, trivial, I'.defers, fun _ => ⟨I'.tsize, fun t v hv => I'.tmps q (Nat.le_refl q) t (fun j o hj _ => ?_) v hv⟩⟩
    · rw [h9]
      exact I'.step.sub fun k b h => (I'.heap k b).2 (.inl h)
    · have : j < ops.size := (Array.getElem?_eq_some_iff.1 hj).1
      exact ⟨fun _ => by omega, fun _ => hall j this⟩
  intro fuel
  induction fuel with
  | zero =>
    intro M p H μ a w hc I
    have hr : Region.ready .any ops M = [] := by
      cases hr : Region.ready .any ops M with
      | nil => rfl
      | cons i l =>
        obtain ⟨o, N⟩ := nxt_of L I (i := i) (by rw [hr]; simp)
        have hi : i < M.size := by rw [I.size]; exact (Array.getElem?_eq_some_iff.1 N.ho).1
        have := count_set hi N.un
        omega
    exact ⟨hr, done M p H μ a w I hr⟩
  | succ fuel ih =>
    intro M p H μ a w hc I
    refine ⟨done M p H μ a w I, fun i hi => ?_⟩
    obtain ⟨o, N⟩ := nxt_of L I hi
    have his : i < ops.size := (Array.getElem?_eq_some_iff.1 N.ho).1
    refine drawn_step hN L I hf h0 (by rw [h9]; exact Nat.le_refl _) N (by omega) fun p' H' μ' a' w' I' => ih _ p' H' μ' a' w' ?_ I'
    have := count_set (by rw [I.size]; exact his) N.un
    omega
/-- A region one of whose operations panics. -/
theorem drawn_pan (hN : NoNG P) (L : Line P call ops n rows q st) {oq : Oper} (hoq : ops[q]? = some oq) {u : AV} {s9 : St} (hpan : stepO P call ops.toList n oq (st q).1 (st q).2 = .pan u s9) (hMq : isM P oq.op = true) (hlast : ∀ j o, ops[j]? = some o → j ≤ q ∨ waits rows j q = true) (hf : Fresh μ0 s0.nx s9.nx) (h0 : ∀ j, j ≤ q → s0.nx.val ≤ (st j).2.nx.val)
    {Q : Exit → Act → World → Prop} {tm9 : Tm} (hQ : ∀ x a' w', Post B μ0 s0 w0 n ds (.pan u) tm9 s9 x a' w' → Q x a' w') : ∀ (fuel : Nat) (M : Array Bool) (p : Nat) (H : Hp) (μ : K → Option Loc) (a : Act) (w : World), M.toList.count false ≤ fuel → Inv P B μ0 s0 w0 s9.nx ds ops n q st M p H μ a w → wpAny P .any ops Q fuel M a w := by
  have hqs : q < ops.size := (Array.getElem?_eq_some_iff.1 hoq).1
  have hq9 : (st q).2.nx.val ≤ s9.nx.val := stepO_mono (tm' := (st q).1) L.hC (.inr hpan)
  have never : ∀ (M : Array Bool) (p : Nat) (H : Hp) (μ : K → Option Loc) (a : Act) (w : World), Inv P B μ0 s0 w0 s9.nx ds ops n q st M p H μ a w → Region.ready .any ops M ≠ [] := by
    intro M p H μ a w I hr
    have := I.lt q (all_up L.rows_ I.size hr q hqs)
    omega
  intro fuel
  induction fuel with
  | zero =>
    intro M p H μ a w hc I
    refine absurd ?_ (never M p H μ a w I)
    cases hr : Region.ready .any ops M with
    | nil => rfl
    | cons i l =>
      obtain ⟨o, N⟩ := nxt_of L I (i := i) (by rw [hr]; simp)
      have hi : i < M.size := by rw [I.size]; exact (Array.getElem?_eq_some_iff.1 N.ho).1
      have := count_set hi N.un
      omega
  | succ fuel ih =>
    intro M p H μ a w hc I
    refine ⟨fun hr => absurd hr (never M p H μ a w I), fun i hi => ?_⟩
    obtain ⟨o, N⟩ := nxt_of L I hi
    have his : i < ops.size := (Array.getElem?_eq_some_iff.1 N.ho).1
    rcases Nat.lt_trichotomy i q with h | h | h
    · refine drawn_step hN L I hf h0 hq9 N h fun p' H' μ' a' w' I' => ih _ p' H' μ' a' w' ?_ I'
      have := count_set (by rw [I.size]; exact his) N.un
      omega
    · subst h
      have ho := N.ho
      rw [hoq] at ho; injection ho with ho; subst ho
      have I' := N.clear L I (Nat.le_refl _) hMq I.ple
      have hsub : ∀ k b, T.get (st i).2.hp k = some b → H k = some b := fun k b h => (I'.heap k b).2 (.inl h)
      have hfr : Fresh μ (st i).2.nx s9.nx := I'.fresh hf (h0 i (Nat.le_refl _)) (Nat.le_refl _) (fun f f1 f2 _ _ => by omega)
      obtain ⟨hw, hv⟩ := stepO_pan hpan
      have hreads : ∀ t, t ∈ readsOf ops.toList oq → ∀ v, T.get (st i).1 (K.of t) = some v → ∃ c, conc μ v = some c ∧ a.tmps[t]? = some c := fun t ht => I.tmps i (Nat.le_refl _) t (N.order L ht)
      have hwant : Region.wanted oq (yielded ops a.tmps) = true := by
        refine want_ok' (μ := μ) (fun j x pj d hg hp hd v hv => ?_) hw
        refine hreads d (List.mem_append_left _ ?_) v hv
        rw [hg]
        simp only [getL_eq, Array.getElem?_toList, hp, hd, List.mem_singleton]
      have hops : OpsR μ (st i).1 a.eval oq.op := fun x hx u hu => by
        cases x with
        | tmp t =>
          obtain ⟨c, h1, h2⟩ := hreads t (List.mem_append_right _ (mem_tmpsOf _ hx)) u hu
          simp [Act.eval, Array.getD_eq_getD_getElem?, h2, h1]
        | const v => exact conc_ofV μ v u hu
        | global g => cases hu
        | func f =>
          injection (show some (AV.func f [] []) = some u from hu) with hu; subst hu
          rfl
      unfold wpOp
      rw [hoq]
      simp only []
      rw [hwant]
      simp only [if_true]
      refine .inl (op_wp_pan hN L.hC (I'.step.rel.sub hsub) hfr hv hops fun μ' c w' hcc hst => hQ _ _ _ ⟨μ', ?_, ⟨c, hcc, rfl⟩, I.defers, fun h => by cases h⟩)
      exact (I'.step.sub hsub).then_ hst (h0 i (Nat.le_refl _)) (Nat.le_refl _)
    · rcases hlast i o N.ho with h1 | h1
      · omega
      · have := I.lt q (N.pre q h1); omega
end Go.Proofs.Ythkkphkeonnnfaa.Abs
