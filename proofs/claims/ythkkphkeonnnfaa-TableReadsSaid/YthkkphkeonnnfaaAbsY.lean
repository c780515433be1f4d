/- An abstract machine over the model's code: calls. No condition but those that each theorem names. -/
import Derived.Test.YthkkphkeonnnfaaAbsX
namespace Go.Proofs.Ythkkphkeonnnfaa.Abs
open Go
variable {P : Program} {B : Nat} {μ μ' : K → Option Loc} {H H' : Hp} {w w1 w' : World} {nx nx' : K}

/-! ### arguments, results -/
theorem startA_eq (ih : Nat → Cd → Tm → St → Out) (n : Nat) (c : Code) (tm : Tm) (s : St) : startA ih n c tm s = ih n (.code c) tm s := by cases n <;> rfl
theorem setArgs_get : ∀ (l : List AV) (i : Nat) (t : T AV) (j : Nat), T.get (setArgs i l t) (K.of j) = if i ≤ j ∧ j < i + l.length then l[j - i]? else T.get t (K.of j)
  | [], i, t, j => by rw [if_neg (fun h => by have := h.2; simp at this; omega)]; rfl
  | v :: vs, i, t, j => by
    show T.get (setArgs (i + 1) vs (T.set t (K.of i) v)) (K.of j) = _
    rw [setArgs_get vs (i + 1) _ j, T.get_set]
    by_cases h : i + 1 ≤ j ∧ j < i + 1 + vs.length
    · rw [if_pos h, if_pos (by simp; omega)]
      rw [show j - i = (j - (i + 1)) + 1 by omega, List.getElem?_cons_succ]
    · rw [if_neg h]
      by_cases e : j = i
      · subst e
        rw [if_pos rfl, if_pos (by simp)]
        simp
      · rw [if_neg (fun e' => e (K.of_inj e')), if_neg (by simp; omega)]
theorem lenL_length {α : Type} : ∀ (l : List α), lenL l = l.length
  | [] => rfl
  | _ :: l => by show Nat.succ (lenL l) = _; rw [lenL_length l]; rfl
theorem tmR_args {args : List AV} {cargs : List Value} (h : concL μ args = some cargs) (m : Nat) : TmR (max m (lenL args)) μ (setArgs 0 args .e) { tmps := cargs.toArray ++ Array.replicate (m - cargs.toArray.size) undef, defers := [] } := by
  have hlen := concL_length _ _ h
  refine ⟨by rw [lenL_length]; simp [hlen]; omega, fun t v hv => ?_⟩
  rw [setArgs_get] at hv
  split at hv
  · rename_i hb
    obtain ⟨c, h1, h2⟩ := concL_get _ _ _ _ h hv
    refine ⟨c, h2, ?_⟩
    have hlt : t < cargs.length := by omega
    simp only [Nat.sub_zero] at h1
    rw [Array.getElem?_append_left (by simpa using hlt)]
    simpa using h1
  · rw [T.get_e] at hv; cases hv
theorem loadVar_of {t : TypeId} {c x : Value} (h : (Instr.loadAt t c).run P w = .ok x w) (hp : ∃ a, c = .pointer (some a)) : (do loadVar t (← asAddr c) : Sem Value).run P w = .ok x w := by
  obtain ⟨a, rfl⟩ := hp
  simpa [Instr.loadAt, Instr.sureAddr, asAddr] using h
theorem resA_run {n : Nat} {tm : Tm} {s : St} {a : Act} (hR : Rel B μ (T.get s.hp) w) (hT : TmR n μ tm a) : ∀ (rs : List ResultVar) (vs : List AV), resA P tm s rs = some vs →
    ∃ cs, concL μ vs = some cs ∧ ∀ (f : ResultVar → Sem Value), (∀ u, f (.tmp u) = pure (a.tmps.getD u undef)) → (∀ p t, f (.cell p t) = (do loadVar t (← asAddr (a.tmps.getD p undef)))) → (rs.mapM f).run P w = .ok cs w
  | [], vs, h => by
    injection (show some [] = some vs from h) with h; subst h
    exact ⟨[], rfl, fun f _ _ => by simp⟩
  | r :: rs, vs, h => by
    simp only [resA] at h
    split at h
    · rename_i v us hv hus
      injection h with h; subst h
      obtain ⟨cs, h1, h2⟩ := resA_run hR hT rs us hus
      have key : ∃ c, conc μ v = some c ∧ ∀ (f : ResultVar → Sem Value), (∀ u, f (.tmp u) = pure (a.tmps.getD u undef)) → (∀ p t, f (.cell p t) = (do loadVar t (← asAddr (a.tmps.getD p undef)))) → (f r).run P w = .ok c w := by
        cases r with
        | tmp t =>
          obtain ⟨c, h3, h4⟩ := hT.at_ t v hv
          refine ⟨c, h3, fun f hf hc => ?_⟩
          rw [hf]
          simp [Array.getD_eq_getD_getElem?, h4]
        | cell p t =>
          have hv : opLoad P t (T.get tm (K.of p)) s = some v := hv
          obtain ⟨q, hq, hld⟩ := optK_some hv
          obtain ⟨u, hu, hq⟩ := optK_some hq
          have := asPtr_some hq
          subst this
          obtain ⟨c, h3, h4⟩ := hT.at_ p _ hu
          obtain ⟨ds, hds, hld⟩ := optK_some hld
          obtain ⟨b, hb, hbl⟩ := optK_some hds
          obtain ⟨x, h5, h6⟩ := loadAt_run hR hb hbl hld h3
          obtain ⟨l, -, rfl⟩ := conc_ptr h3
          refine ⟨x, h5, fun f hf hc => ?_⟩
          rw [hc, show a.tmps.getD p undef = Value.pointer (some (ptrV l q.2)) by simp [Array.getD_eq_getD_getElem?, h4]]
          exact loadVar_of h6 ⟨_, rfl⟩
      obtain ⟨c, h3, h4⟩ := key
      exact ⟨c :: cs, by simp [concL, h1, h3], fun f hf hc => by simp [List.mapM_cons, h4 f hf hc, h2 f hf hc]⟩
    · cases h
theorem results_run {n : Nat} {tm : Tm} {s : St} {a : Act} (hR : Rel B μ (T.get s.hp) w) (hT : TmR n μ tm a) {fn : Func} {vs : List AV} (h : resA P tm s fn.results.toList = some vs) : ∃ c, conc μ (oneOr vs) = some c ∧ (results fn a.tmps).run P w = .ok c w := by
  have hrs : fn.results = fn.results.toList.toArray := by simp
  generalize fn.results.toList = rs at hrs h
  unfold results
  rw [hrs, List.mapM_toArray]
  simp only [Sem.run_bind, Sem.run_map]
  obtain ⟨cs, h1, h2⟩ := resA_run hR hT rs vs h
  rw [h2 _ (fun _ => rfl) (fun _ _ => rfl)]
  have hlen := concL_length _ _ h1
  match vs, cs, h1, hlen with
  | [], [], _, _ => exact ⟨_, rfl, by simp⟩
  | [v], [c], h1, _ => 
    simp only [concL, Option.bind_eq_some_iff, Option.map_eq_some_iff] at h1
    obtain ⟨x, h3, l, h4, h5⟩ := h1
    injection h4 with h4; subst h4
    injection h5 with h5 h6; subst h5
    exact ⟨x, h3, by simp⟩
  | v :: v2 :: vs, c :: c2 :: cs, h1, _ => exact ⟨_, by show (concL μ (v :: v2 :: vs)).map _ = _; rw [h1]; rfl, by simp⟩
/-! ### a call -/
/-- What a call that comes to r leaves. -/
def RetS (B : Nat) (μ : K → Option Loc) (s : St) (w : World) (v : AV) (s' : St) (e : Ending) (w' : World) : Prop := ∃ μ' c, Step B μ (T.get s.hp) s.nx w μ' (T.get s'.hp) s'.nx w' ∧ conc μ' v = some c ∧ e = .returned c
def PanS (B : Nat) (μ : K → Option Loc) (s : St) (w : World) (v : AV) (s' : St) (e : Ending) (w' : World) : Prop := ∃ μ' c, Step B μ (T.get s.hp) s.nx w μ' (T.get s'.hp) s'.nx w' ∧ conc μ' v = some c ∧ e = .panicked [{ v := c, recovered := false }]
theorem body_inv {ih : Nat → Cd → Tm → St → Out} {f : Nat} {args : List AV} {s : St} {r : CR} (h : callBody P ih f args s = r) (hr : r ≠ .no) : ∃ fn c e tm s', P.funcs[f]? = some fn ∧ fn.body = some c ∧ ih (max fn.ntmps (lenL args)) (.code c) (setArgs 0 args .e) s = .ok e tm s' ∧
    (((e = .nrm ∨ e = .ret) ∧ ∃ vs, resA P tm s' fn.results.toList = some vs ∧ r = .ret (oneOr vs) s') ∨ ∃ v, e = .pan v ∧ r = .pan v s') := by
  unfold callBody at h
  split at h
  · rename_i fn hfn
    rw [getL_eq, Array.getElem?_toList] at hfn
    split at h
    · rename_i c hc
      rw [startA_eq] at h
      split at h
      · rename_i tm s' hst
        split at h
        · rename_i vs hvs
          exact ⟨fn, c, _, tm, s', hfn, hc, hst, .inl ⟨.inl rfl, vs, hvs, h.symm⟩⟩
        · exact absurd h.symm hr
      · rename_i tm s' hst
        split at h
        · rename_i vs hvs
          exact ⟨fn, c, _, tm, s', hfn, hc, hst, .inl ⟨.inr rfl, vs, hvs, h.symm⟩⟩
        · exact absurd h.symm hr
      · rename_i v tm s' hst
        exact ⟨fn, c, _, tm, s', hfn, hc, hst, .inr ⟨v, rfl, h.symm⟩⟩
      · exact absurd h.symm hr
    · exact absurd h.symm hr
  · exact absurd h.symm hr
theorem body_mono {ih : Nat → Cd → Tm → St → Out} {k : Nat} (S : Snd P ih k) {f : Nat} {args : List AV} {s s' : St} {v : AV} (h : callBody P ih f args s = .ret v s' ∨ callBody P ih f args s = .pan v s') : s.nx.val ≤ s'.nx.val := by
  rcases h with h | h
  · obtain ⟨fn, c, e, tm, s1, -, -, h3, h4⟩ := body_inv h (fun h => by cases h)
    have := S.mono _ _ _ _ _ _ _ h3
    rcases h4 with ⟨-, vs, -, h4⟩ | ⟨v, -, h4⟩
    · injection h4 with h5 h6; rw [h6]; exact this
    · cases h4
  · obtain ⟨fn, c, e, tm, s1, -, -, h3, h4⟩ := body_inv h (fun h => by cases h)
    have := S.mono _ _ _ _ _ _ _ h3
    rcases h4 with ⟨-, vs, -, h4⟩ | ⟨v, -, h4⟩
    · cases h4
    · injection h4 with h5 h6; rw [h6]; exact this
theorem body_ret {ih : Nat → Cd → Tm → St → Out} {k : Nat} (S : Snd P ih k) {f : Nat} {args : List AV} {s s' : St} {v : AV} (h : callBody P ih f args s = .ret v s') {cargs : List Value} (hR : Rel B μ (T.get s.hp) w) (hf : Fresh μ s.nx s'.nx) (hc : concL μ args = some cargs) : Calls P f cargs.toArray w (RetS B μ s w v s') := by
  obtain ⟨fn, c, e, tm, s1, h1, h2, h3, h4⟩ := body_inv h (fun h => by cases h)
  rcases h4 with ⟨he, vs, hvs, h4⟩ | ⟨v, -, h4⟩
  · injection h4 with h5 h6; subst h5; subst h6
    refine calls_of_wp h1 h2 (S.code c _ _ _ _ _ _ h3 B μ w _ _ hR hf (tmR_args hc _) fun x a' w' hp => ?_)
    obtain ⟨μ', p1, p2, p3, p4⟩ := hp
    have ht := p4 (by rcases he with rfl | rfl <;> rfl)
    obtain ⟨cv, q1, q2⟩ := results_run p1.rel ht hvs
    rcases he with rfl | rfl
    · cases x with
      | normal => exact ⟨p3, cv, q2, μ', cv, p1, q1, rfl⟩
      | _ => exact p2.elim
    · cases x with
      | ret => exact ⟨p3, cv, q2, μ', cv, p1, q1, rfl⟩
      | _ => exact p2.elim
  · cases h4
theorem body_pan {ih : Nat → Cd → Tm → St → Out} {k : Nat} (S : Snd P ih k) {f : Nat} {args : List AV} {s s' : St} {v : AV} (h : callBody P ih f args s = .pan v s') {cargs : List Value} (hR : Rel B μ (T.get s.hp) w) (hf : Fresh μ s.nx s'.nx) (hc : concL μ args = some cargs) : Calls P f cargs.toArray w (PanS B μ s w v s') := by
  obtain ⟨fn, c, e, tm, s1, h1, h2, h3, h4⟩ := body_inv h (fun h => by cases h)
  rcases h4 with ⟨he, vs, hvs, h4⟩ | ⟨u, rfl, h4⟩
  · cases h4
  · injection h4 with h5 h6; subst h5; subst h6
    refine calls_of_wp h1 h2 (S.code c _ _ _ _ _ _ h3 B μ w _ _ hR hf (tmR_args hc _) fun x a' w' hp => ?_)
    obtain ⟨μ', p1, p2, p3, p4⟩ := hp
    cases x with
    | panic ch =>
      obtain ⟨cv, q1, rfl⟩ := p2
      exact ⟨p3, μ', cv, p1, q1, rfl⟩
    | _ => exact p2.elim
/-! ### 'caught', calls that are known -/
def endO (wt : Nat) : Option Int → Ending
  | none => .returned (.tuple #[])
  | some c => .panicked [{ v := .iface wt (.agg #[.int .i64 c]), recovered := false }]
/-- What 'caught' comes to (et: the type of the cell that it makes). -/
structure CgS (P : Program) (g : Cg) : Prop where
  fn : ∃ fn, P.funcs[g.cg]? = some fn ∧ fn.body.isSome = true
  ok : ∃ et, ∀ (G : FuncId) (cap : Array Value) (o : Option Int) (R : World → Prop) (w : World), (∃ fn, P.funcs[G]? = some fn ∧ fn.body.isSome = true) →
    Calls P G cap (w.alloc (.cells #[.int .i64 0] et)) (fun e w' => e = endO g.wt o ∧ w'.heap[w.heap.size]? = some (.cells #[.int .i64 0] et (0, 0)) ∧ R w') →
    Calls P g.cg #[.func (.func G) #[] cap] w fun e w' => e = .returned (.int .i64 (o.getD 0)) ∧ ∃ w2, R w2 ∧ (∀ k, k < w2.heap.size → k ≠ w.heap.size → w'.heap[k]? = w2.heap[k]?) ∧ w2.heap.size ≤ w'.heap.size ∧ w'.os = w2.os ∧ w'.tape = w2.tape ∧ w'.output = w2.output
def MemoS (P : Program) (m : Memo) : Prop := m.nx.val ≤ m.nx'.val ∧ (∃ fn, P.funcs[m.f]? = some fn ∧ fn.body.isSome = true) ∧ ∀ B μ w cargs, Rel B μ (T.get (.e : T Bk)) w → Fresh μ m.nx m.nx' → concL μ m.args = some cargs →
  Calls P m.f cargs.toArray w (RetS B μ ⟨.e, m.nx⟩ w m.v ⟨addB m.bs .e, m.nx'⟩)
theorem addB_get : ∀ (bs : List (K × Bk)) (h : T Bk), T.get (addB bs h) = laid (T.get (addB bs .e)) (T.get (.e : T Bk)) (T.get h)
  | [], h => by
    funext k
    exact (laid_old (H1' := T.get (addB [] .e)) (T.get_e k) (T.get_e k)).symm
  | (i, b) :: bs, h => by
    funext k
    have e1 : T.get (addB ((i, b) :: bs) h) = T.get (addB bs (T.set h i b)) := rfl
    have e2 : T.get (addB ((i, b) :: bs) .e) = T.get (addB bs (T.set .e i b)) := rfl
    rw [e1, e2, addB_get bs (T.set h i b), addB_get bs (T.set .e i b)]
    cases hk : T.get (addB bs .e) k with
    | some c => rw [laid_new hk, laid_new (laid_new hk)]
    | none =>
      rw [laid_old hk (T.get_e k)]
      by_cases e : k = i
      · subst e
        rw [laid_new (b := b) (by rw [laid_old hk (T.get_e k), T.get_set, if_pos rfl]), T.get_set, if_pos rfl]
      · rw [laid_old (by rw [laid_old hk (T.get_e k), T.get_set, if_neg e, T.get_e]) (T.get_e k), T.get_set, if_neg e]
theorem memoFind_some {f : Nat} {args : List AV} {s : St} {r : CR} : ∀ (ms : List Memo), memoFind f args s ms = some r → ∃ m ∈ ms, memoHit m f args s = true ∧ r = .ret m.v ⟨addB m.bs s.hp, m.nx'⟩
  | [], h => by cases h
  | m :: ms, h => by
    have h : @Bool.rec (fun _ => Option CR) (memoFind f args s ms) (some (.ret m.v ⟨addB m.bs s.hp, m.nx'⟩)) (memoHit m f args s) = some r := h
    cases hm : memoHit m f args s with
    | true => rw [hm] at h; injection h with h; exact ⟨m, by simp, hm, h.symm⟩
    | false =>
      rw [hm] at h
      obtain ⟨m', h1, h2⟩ := memoFind_some ms h
      exact ⟨m', by simp [h1], h2⟩
theorem K.beq_refl : ∀ (k : K), K.beq k k = true
  | .z => rfl
  | .o k => K.beq_refl k
  | .i k => K.beq_refl k
theorem memoHit_inv {m : Memo} {f : Nat} {args : List AV} {s : St} (h : memoHit m f args s = true) : f = m.f ∧ args = m.args ∧ s.nx = m.nx := by
  unfold memoHit at h
  simp only [Bool.and_eq_true] at h
  exact ⟨Nat.beq_eq.mp h.1, sameL_eq _ _ h.2.1, K.beq_eq h.2.2⟩
theorem callB_caught {g : Cg} {ih : Nat → Cd → Tm → St → Out} {f : Nat} {args : List AV} {s s' : St} {v : AV} (hf : Nat.beq f g.cg = true) (h : callB P g ih f args s = .ret v s') : ∃ G caps, args = [.func G [] caps] ∧ ((callBody P ih G caps s = .ret (.tup []) s' ∧ v = .int .i64 0) ∨ ∃ c, callBody P ih G caps s = .pan (.iface g.wt (.agg [.int .i64 c])) s' ∧ v = .int .i64 c) := by
  unfold callB at h
  rw [hf] at h
  simp only at h
  split at h
  · rename_i G caps
    split at h
    · cases h
    · split at h
      · rename_i s1 hb
        injection h with h1 h2; subst h1; subst h2
        exact ⟨G, caps, rfl, .inl ⟨hb, rfl⟩⟩
      · rename_i t c s1 hb
        split at h
        · rename_i ht
          injection h with h1 h2; subst h1; subst h2
          rw [Nat.beq_eq.mp ht] at hb
          exact ⟨G, caps, rfl, .inr ⟨c, hb, rfl⟩⟩
        · cases h
      · cases h
  · cases h
theorem callB_caught_pan {g : Cg} {ih : Nat → Cd → Tm → St → Out} {f : Nat} {args : List AV} {s s' : St} {v : AV} (hf : Nat.beq f g.cg = true) (h : callB P g ih f args s = .pan v s') : False := by
  unfold callB at h
  rw [hf] at h
  simp only at h
  (repeat' split at h) <;> cases h
theorem callB_other {g : Cg} {ih : Nat → Cd → Tm → St → Out} {f : Nat} {args : List AV} {s : St} (hf : Nat.beq f g.cg = false) : callB P g ih f args s = callBody P ih f args s := by
  unfold callB
  rw [hf]
/-- A call through 'caught'. -/
theorem caught_ok {g : Cg} (hg : CgS P g) {ih : Nat → Cd → Tm → St → Out} {k : Nat} (S : Snd P ih k) {G : Nat} {caps : List AV} {s s' : St} {o : Option Int} {v : AV} (hv : v = .int .i64 (o.getD 0)) (h : (o = none ∧ callBody P ih G caps s = .ret (.tup []) s') ∨ ∃ c, o = some c ∧ callBody P ih G caps s = .pan (.iface g.wt (.agg [.int .i64 c])) s')
    {ccaps : List Value} (hR : Rel B μ (T.get s.hp) w) (hf : Fresh μ s.nx s'.nx) (hc : concL μ caps = some ccaps) : Calls P g.cg #[.func (.func G) #[] ccaps.toArray] w (RetS B μ s w v s') := by
  obtain ⟨et, hok⟩ := hg.ok
  have hfn : ∃ fn, P.funcs[G]? = some fn ∧ fn.body.isSome = true := by
    rcases h with ⟨-, h⟩ | ⟨c, -, h⟩ <;>
    · obtain ⟨fn, c, e, tm, s1, h1, h2, -⟩ := body_inv h (fun h => by cases h)
      exact ⟨fn, h1, by rw [h2]; rfl⟩
  have hR1 : Rel B μ (T.get s.hp) (w.alloc (.cells #[.int .i64 0] et)) := by
    refine ⟨fun i b hb => ?_, hR.own, hR.view, hR.inj, by rw [show (w.alloc (.cells #[.int .i64 0] et)).heap.size = w.heap.size + 1 from Array.size_push _]; have := hR.size; omega⟩
    obtain ⟨l, hl, hbr⟩ := hR.at_ i b hb
    exact ⟨l, hl, hbr.same (push_old rfl (hR.lt hb hl))⟩
  have hnew : (w.alloc (.cells #[.int .i64 0] et)).heap[w.heap.size]? = some (.cells #[.int .i64 0] et (0, 0)) := push_new rfl
  have hsz : (w.alloc (.cells #[.int .i64 0] et)).heap.size = w.heap.size + 1 := Array.size_push _
  have hkeep : ∀ {μ' : K → Option Loc} {w2 : World}, Step B μ (T.get s.hp) s.nx (w.alloc (.cells #[.int .i64 0] et)) μ' (T.get s'.hp) s'.nx w2 → w2.heap[w.heap.size]? = some (.cells #[.int .i64 0] et (0, 0)) := fun {μ' w2} hst => by
    rw [hst.frame w.heap.size (by omega) ?_, hnew]
    rintro ⟨i, b, l, hb, ho, hl, e⟩
    have := hR.lt hb hl; omega
  have hcall : Calls P G ccaps.toArray (w.alloc (.cells #[.int .i64 0] et)) (fun e w' => e = endO g.wt o ∧ w'.heap[w.heap.size]? = some (.cells #[.int .i64 0] et (0, 0)) ∧ ∃ μ', Step B μ (T.get s.hp) s.nx (w.alloc (.cells #[.int .i64 0] et)) μ' (T.get s'.hp) s'.nx w') := by
    rcases h with ⟨rfl, h⟩ | ⟨c, rfl, h⟩
    · refine (body_ret S h hR1 hf hc).mono fun e w2 hh => ?_
      obtain ⟨μ', cv, h1, h2, rfl⟩ := hh
      injection (show some undef = some cv from h2) with h2
      exact ⟨by rw [← h2]; rfl, hkeep h1, μ', h1⟩
    · refine (body_pan S h hR1 hf hc).mono fun e w2 hh => ?_
      obtain ⟨μ', cv, h1, h2, rfl⟩ := hh
      injection (show some (Value.iface g.wt (.agg #[.int .i64 c])) = some cv from h2) with h2
      exact ⟨by rw [← h2]; rfl, hkeep h1, μ', h1⟩
  refine (hok G ccaps.toArray o _ w hfn hcall).mono fun e w' hh => ?_
  obtain ⟨rfl, w2, ⟨μ', hst⟩, hfr, hle, ho, ht, hout⟩ := hh
  have hne : ∀ k, OwnBlk μ' (T.get s'.hp) k → k ≠ w.heap.size := fun k hk e => by
    rcases hst.owned k hk with ⟨i, b, l, hb, -, hl, e'⟩ | h
    · have := hR.lt hb hl; omega
    · omega
  have hR2 : Rel B μ' (T.get s'.hp) w' := by
    refine ⟨fun i b hb => ?_, hst.rel.own, hst.rel.view, hst.rel.inj, by have := hst.rel.size; omega⟩
    obtain ⟨l, hl, hbr⟩ := hst.rel.at_ i b hb
    refine ⟨l, hl, hbr.same (hfr _ (hst.rel.lt hb hl) fun e => ?_)⟩
    by_cases hob : OwnB b
    · exact hne _ ⟨i, b, l, hb, hob, hl, rfl⟩ e
    · cases b with
      | view cs =>
        have h1 := hst.rel.view i cs l hb hl
        have := hR.size; omega
      | cells _ _ _ _ => exact hob trivial
      | mp _ _ => exact hob trivial
  refine ⟨μ', .int .i64 (o.getD 0), ⟨hst.ext, hst.new, hR2, fun k hk => ?_, fun k hk hn => ?_, ?_, ho.trans hst.os, ht.trans hst.tape, hout.trans hst.output, hst.nxle⟩, by rw [hv]; rfl, rfl⟩
  · rcases hst.owned k hk with h | h
    · exact .inl h
    · exact .inr (by omega)
  · rw [hfr k (by have := hst.size; omega) (by omega), hst.frame k (by omega) hn]
    exact push_old rfl hk
  · have := hst.size; omega
theorem callB_mono {g : Cg} {ih : Nat → Cd → Tm → St → Out} {k : Nat} (S : Snd P ih k) {f : Nat} {args : List AV} {s s' : St} {v : AV} (h : callB P g ih f args s = .ret v s' ∨ callB P g ih f args s = .pan v s') : s.nx.val ≤ s'.nx.val := by
  cases hb : Nat.beq f g.cg with
  | false => rw [callB_other hb] at h; exact body_mono S h
  | true =>
    rcases h with h | h
    · obtain ⟨G, caps, -, ⟨h1, -⟩ | ⟨c, h1, -⟩⟩ := callB_caught hb h
      · exact body_mono S (.inl h1)
      · exact body_mono S (.inr h1)
    · exact (callB_caught_pan hb h).elim
theorem calls_ok {g : Cg} (hg : CgS P g) (hM : ∀ m ∈ g.ms, MemoS P m) {ih : Nat → Cd → Tm → St → Out} {k : Nat} (S : Snd P ih k) : CallS P (callA P g ih) := by
  have inv : ∀ {f args s r}, callA P g ih f args s = r → (memoFind f args s g.ms = some r) ∨ (memoFind f args s g.ms = none ∧ callB P g ih f args s = r) := fun {f args s r} h => by
    have h : @Option.rec CR (fun _ => CR) (callB P g ih f args s) (fun r => r) (memoFind f args s g.ms) = r := h
    cases hm : memoFind f args s g.ms with
    | none => rw [hm] at h; exact .inr ⟨rfl, h⟩
    | some r' => rw [hm] at h; exact .inl (by rw [show r' = r from h])
  refine ⟨fun f args s v s' h => ?_, fun f args s v s' h => ?_, fun f args s v s' h B μ w cargs hR hf hc => ?_, fun f args s v s' h B μ w cargs hR hf hc => ?_⟩
  · have hit : ∀ {r}, memoFind f args s g.ms = some r → ∀ v s', (r = .ret v s' ∨ r = .pan v s') → s.nx.val ≤ s'.nx.val := fun {r} h v s' hr => by
      obtain ⟨m, hm, hh, rfl⟩ := memoFind_some _ h
      obtain ⟨rfl, rfl, e⟩ := memoHit_inv hh
      rcases hr with hr | hr
      · injection hr with h1 h2; rw [← h2, e]; exact (hM m hm).1
      · cases hr
    rcases h with h | h
    · rcases inv h with h | ⟨-, h⟩
      · exact hit h v s' (.inl rfl)
      · exact callB_mono S (.inl h)
    · rcases inv h with h | ⟨-, h⟩
      · exact hit h v s' (.inr rfl)
      · exact callB_mono S (.inr h)
  · have hit : ∀ {r}, memoFind f args s g.ms = some r → ∃ fn, P.funcs[f]? = some fn ∧ fn.body.isSome = true := fun {r} h => by
      obtain ⟨m, hm, hh, rfl⟩ := memoFind_some _ h
      obtain ⟨rfl, rfl, e⟩ := memoHit_inv hh
      exact (hM m hm).2.1
    have body : ∀ {r}, callBody P ih f args s = r → r ≠ .no → ∃ fn, P.funcs[f]? = some fn ∧ fn.body.isSome = true := fun {r} h hr => by
      obtain ⟨fn, c, e, tm, s1, h1, h2, -⟩ := body_inv h hr
      exact ⟨fn, h1, by rw [h2]; rfl⟩
    cases hb : Nat.beq f g.cg with
    | true => rw [Nat.beq_eq.mp hb]; exact hg.fn
    | false =>
      rcases h with h | h <;>
      · rcases inv h with h | ⟨-, h⟩
        · exact hit h
        · rw [callB_other hb] at h; exact body h (fun h => by cases h)
  · rcases inv h with h | ⟨-, h⟩
    · obtain ⟨m, hm, hh, hr⟩ := memoFind_some _ h
      obtain ⟨rfl, rfl, e⟩ := memoHit_inv hh
      injection hr with h1 h2; subst h1; subst h2
      refine ((hM m hm).2.2 B μ w cargs (hR.sub fun i b h => by rw [T.get_e] at h; cases h) (by rw [← e]; exact hf) hc).mono fun x w' hx => ?_
      obtain ⟨μ', c, q1, q2, rfl⟩ := hx
      refine ⟨μ', c, ?_, q2, rfl⟩
      have := step_laid hR (fun k b h => by rw [T.get_e] at h; cases h) q1
      show Step B μ (T.get s.hp) s.nx w μ' (T.get (addB m.bs s.hp)) m.nx' w'
      rw [addB_get, e]
      exact this
    · cases hb : Nat.beq f g.cg with
      | false => rw [callB_other hb] at h; exact body_ret S h hR hf hc
      | true =>
        obtain ⟨G, caps, rfl, h9⟩ := callB_caught hb h
        rw [Nat.beq_eq.mp hb]
        simp only [concL, Option.bind_eq_some_iff, Option.map_eq_some_iff] at hc
        obtain ⟨cf, hcf, l, hl, rfl⟩ := hc
        injection hl with hl; subst hl
        obtain ⟨F, C, hF, hC, rfl⟩ := conc_func hcf
        injection (show some [] = some F from hF) with hF; subst hF
        rcases h9 with ⟨h9, rfl⟩ | ⟨c, h9, rfl⟩
        · exact caught_ok hg S (o := none) rfl (.inl ⟨rfl, h9⟩) hR hf hC
        · exact caught_ok hg S (o := some c) rfl (.inr ⟨c, rfl, h9⟩) hR hf hC
  · rcases inv h with h | ⟨-, h⟩
    · obtain ⟨m, hm, hh, hr⟩ := memoFind_some _ h
      cases hr
    · cases hb : Nat.beq f g.cg with
      | false => rw [callB_other hb] at h; exact body_pan S h hR hf hc
      | true => exact (callB_caught_pan hb h).elim
/-- What a run here comes to, the program comes to. -/
theorem snd (hN : NoNG P) (hmix : P.follows .mixedOrders = true) {g : Cg} (hg : CgS P g) (hM : ∀ m ∈ g.ms, MemoS P m) : ∀ k, Snd P (exec P g k) k
  | 0 => snd_zero g
  | k + 1 => snd_succ hN hmix (calls_ok hg hM (snd hN hmix hg hM k)) (snd hN hmix hg hM k)
theorem leftIn_get {h : T Bk} {nx nx' : K} : ∀ (bs : List (K × Bk)), leftIn h nx nx' bs = true → ∀ k b, T.get (addB bs .e) k = some b → T.get h k = some b
  | [], _, k, b, hk => by rw [show T.get (addB [] .e) k = none from T.get_e k] at hk; cases hk
  | (i, c) :: bs, hl, k, b, hk => by
    have hk : T.get (addB bs (T.set .e i c)) k = some b := hk
    simp only [leftIn] at hl
    split at hl
    · rename_i c' hc'
      simp only [Bool.and_eq_true] at hl
      rw [addB_get] at hk
      rcases laid_some hk with hk | ⟨-, -, hk⟩
      · exact leftIn_get bs hl.2 k b hk
      · rw [T.get_set] at hk
        split at hk
        · rename_i e
          injection hk with hk; subst hk; subst e
          rw [hc']
          have hs := hl.1.1.1
          unfold sameBk at hs
          split at hs
          · simp only [Bool.and_eq_true, beq_iff_eq] at hs
            rw [sameL_eq _ _ hs.1.1.1, Nat.beq_eq.mp hs.1.1.2, Nat.beq_eq.mp hs.1.2, hs.2]
          · cases hs
        · rw [T.get_e] at hk; cases hk
    · cases hl
theorem memo_of {g : Cg} {k : Nat} (hC : CallS P (callA P g (exec P g k))) {m : Memo} (h : memoOk P g k m = true) : MemoS P m := by
  unfold memoOk at h
  split at h
  · rename_i v s hv
    simp only [Bool.and_eq_true] at h
    have hv : callA P g (exec P g k) m.f m.args ⟨.e, m.nx⟩ = .ret v s := hv
    have e1 := sameA_eq _ _ h.1.1
    have e2 := K.beq_eq h.1.2
    subst e1
    refine ⟨?_, hC.fn _ _ _ _ _ (.inl hv), fun B μ w cargs hR hf hc => ?_⟩
    · have := hC.mono _ _ _ _ _ (.inl hv)
      rw [← e2]; exact this
    · refine (hC.ret _ _ _ _ _ hv B μ w cargs hR (by rw [e2]; exact hf) hc).mono fun e w' hh => ?_
      obtain ⟨μ', c, h1, h2, rfl⟩ := hh
      refine ⟨μ', c, ?_, h2, rfl⟩
      have := h1.sub (H'' := T.get (addB m.bs .e)) (leftIn_get m.bs h.2)
      rw [e2] at this
      exact this
  · cases h
/-- A call that the kernel has run: from no memory at all. -/
theorem closed_call {g : Cg} {k : Nat} (hC : CallS P (callA P g (exec P g k))) {f : Nat} {args : List AV} {s' : St} {v : AV} (h : acall P g k f args ⟨.e, .z⟩ = .ret v s') {cargs : List Value} (hc : ∀ μ, concL μ args = some cargs) {cv : Value} (hv : ∀ μ, conc μ v = some cv) (w : World) :
    Calls P f cargs.toArray w fun e w' => e = .returned cv ∧ Go.RowKit.Below w.heap.size w w' := by
  have hR : Rel w.heap.size (fun _ => none) (T.get (.e : T Bk)) w := ⟨fun i b h => by (rw [T.get_e] at h; cases h), fun i b l h => by (rw [T.get_e] at h; cases h), fun i cs l h => by (rw [T.get_e] at h; cases h), fun i j b c l m h => by (rw [T.get_e] at h; cases h), Nat.le_refl _⟩
  refine (hC.ret f args ⟨.e, .z⟩ v s' h w.heap.size (fun _ => none) w cargs hR (fun _ _ _ => rfl) (hc _)).mono fun e w' hh => ?_
  obtain ⟨μ', c, h1, h2, rfl⟩ := hh
  rw [hv] at h2
  injection h2 with h2; subst h2
  refine ⟨rfl, h1.os, h1.tape, h1.output, h1.size, fun k hk => h1.frame k hk ?_⟩
  rintro ⟨i, b, l, hb, -⟩
  rw [T.get_e] at hb; cases hb
end Go.Proofs.Ythkkphkeonnnfaa.Abs
