/- An abstract machine over the model's code: temporaries, one operation of a region, a region in the text's order. No condition but those that each theorem names. -/
import Derived.Test.YthkkphkeonnnfaaAbsN
namespace Go.Proofs.Ythkkphkeonnnfaa.Abs
open Go
variable {P : Program} {B : Nat} {μ μ' : K → Option Loc} {H H' : Hp} {w w1 : World}

/-- What the temporaries hold. -/
structure TmR (n : Nat) (μ : K → Option Loc) (tm : Tm) (a : Act) : Prop where
  size : a.tmps.size = n
  at_ : ∀ t v, T.get tm (K.of t) = some v → ∃ c, conc μ v = some c ∧ a.tmps[t]? = some c
theorem TmR.mono {n : Nat} {tm : Tm} {a : Act} (h : TmR n μ tm a) (hm : MLe μ μ') : TmR n μ' tm a :=
  ⟨h.size, fun t v e => let ⟨c, h1, h2⟩ := h.at_ t v e; ⟨c, conc_mono hm v c h1, h2⟩⟩
theorem TmR.ev {n : Nat} {tm : Tm} {a : Act} (h : TmR n μ tm a) (x : Operand) : EvR μ tm a.eval x := fun u hu => by
  cases x with
  | tmp t =>
    obtain ⟨c, h1, h2⟩ := h.at_ t u hu
    simp [Act.eval, Array.getD_eq_getD_getElem?, h2, h1]
  | const v => exact conc_ofV μ v u hu
  | global g => cases hu
  | func f =>
    injection (show some (AV.func f [] []) = some u from hu) with hu; subst hu
    rfl
theorem TmR.put {n : Nat} {tm tm' : Tm} {a : Act} (h : TmR n μ tm a) {d : Option Tmp} {v : AV} {c : Value} (hc : conc μ v = some c) (hp : putK none n tm v (fun tm => some tm) d = some tm') : TmR n μ tm' (a.put d c) := by
  cases d with
  | none =>
    injection (show some tm = some tm' from hp) with hp; subst hp
    exact h
  | some d =>
    have hp : @Bool.rec (fun _ => Option Tm) none (some (T.set tm (K.of d) v)) (Nat.ble (Nat.succ d) n) = some tm' := hp
    cases hb : Nat.ble (Nat.succ d) n with
    | false => rw [hb] at hp; cases hp
    | true =>
      rw [hb] at hp
      injection hp with hp; subst hp
      have hlt : d < n := Nat.le_of_ble_eq_true hb
      refine ⟨by simp [Act.put, h.size], fun t u hu => ?_⟩
      rw [T.get_set] at hu
      split at hu
      · rename_i e
        injection hu with hu; subst hu
        have := K.of_inj e; subst this
        exact ⟨c, hc, by simp [Act.put, h.size, hlt]⟩
      · rename_i e
        obtain ⟨x, h1, h2⟩ := h.at_ t u hu
        refine ⟨x, h1, ?_⟩
        have hne : ¬ d = t := fun e' => e (by rw [e'])
        simp [Act.put, hne, h2]
theorem put_defers (a : Act) (d : Option Tmp) (c : Value) : (a.put d c).defers = a.defers := by cases d <;> rfl
theorem conc_notBool {v : AV} {c : Value} (h : conc μ v = some c) (hv : ∀ b, v ≠ .bool b) (b : Bool) : c ≠ .bool b := by
  intro e; subst e
  cases v with
  | bool b' => exact hv b' rfl
  | int k n => have := conc_int h; cases this
  | str s => have := conc_str h; cases this
  | ptr a => cases a with
    | none => have := conc_ptr0 h; cases this
    | some p => obtain ⟨l, -, e⟩ := conc_ptr (i := p.1) (o := p.2) h; cases e
  | slice a n k => cases a with
    | none => obtain ⟨m, -, e⟩ := conc_slice0 h; cases e
    | some p => obtain ⟨l, -, -, e⟩ := conc_slice (i := p.1) (o := p.2) h; cases e
  | map r => cases r with
    | none => have := conc_map0 h; cases this
    | some i => obtain ⟨l, -, e⟩ := conc_map h; cases e
  | func f x y => obtain ⟨x, y, -, -, e⟩ := conc_func h; cases e
  | nilFunc => injection (show some Value.nilFunc = some _ from h) with h; cases h
  | iface t v => obtain ⟨x, -, e⟩ := conc_iface h; cases e
  | nilIface => injection (show some Value.nilIface = some _ from h) with h; cases h
  | agg l => obtain ⟨x, -, e⟩ := conc_agg h; cases e
  | tup l => obtain ⟨x, -, e⟩ := conc_tup h; cases e
theorem want_ok' {ops : Array Oper} {tm : Tm} {a : Act} {o : Oper} {b : Bool} (hT : ∀ j x p d, o.guard = some (j, x) → ops[j]? = some p → p.dst = some d → ∀ v, T.get tm (K.of d) = some v → ∃ c, conc μ v = some c ∧ a.tmps[d]? = some c) (h : wantA ops.toList tm o = some b) : Region.wanted o (yielded ops a.tmps) = b := by
  obtain ⟨dst, op, ty, pos, after, guard⟩ := o
  cases guard with
  | none => cases (show some true = some b from h); rfl
  | some g =>
    obtain ⟨j, x⟩ := g
    have h : guardA ops.toList tm x j = some b := h
    unfold guardA at h
    split at h
    · rename_i p hp
      rw [getL_eq, Array.getElem?_toList] at hp
      split at h
      · rename_i d hd
        split at h
        · rename_i c hc
          injection h with h; subst h
          obtain ⟨cv, h1, h2⟩ := hT j x p d rfl hp hd _ hc
          rw [conc_bool h1] at h2
          have hy : yielded ops a.tmps j = some c := by simp [yielded, hp, hd, h2]
          simp only [Region.wanted, hy]
          cases c <;> cases x <;> rfl
        · rename_i v hv hc
          injection h with h; subst h
          obtain ⟨cv, h1, h2⟩ := hT j x p d rfl hp hd _ hc
          have hnb := conc_notBool h1 (fun b e => hv b (by rw [e]))
          have hy : yielded ops a.tmps j = none := by
            simp only [yielded, hp, Option.bind_some, hd, h2]
            split
            · rename_i b e
              injection e with e
              exact absurd e (hnb b)
            · rfl
          simp only [Region.wanted, hy]
          rfl
        · cases h
      · cases h
    · cases h

theorem want_ok {ops : Array Oper} {tm : Tm} {n : Nat} {a : Act} (hT : TmR n μ tm a) {o : Oper} {b : Bool} (h : wantA ops.toList tm o = some b) : Region.wanted o (yielded ops a.tmps) = b :=
  want_ok' (fun _ _ _ d _ _ _ v hv => hT.at_ d v hv) h

/-! ### one operation -/
/-- Calls come to what they are said to come to. -/
structure CallS (P : Program) (call : Nat → List AV → St → CR) : Prop where
  mono : ∀ f args s v s', (call f args s = .ret v s' ∨ call f args s = .pan v s') → s.nx.val ≤ s'.nx.val
  fn : ∀ f args s v s', (call f args s = .ret v s' ∨ call f args s = .pan v s') → ∃ fn, P.funcs[f]? = some fn ∧ fn.body.isSome = true
  ret : ∀ f args s v s', call f args s = .ret v s' → ∀ B μ w cargs, Rel B μ (T.get s.hp) w → Fresh μ s.nx s'.nx → concL μ args = some cargs →
    Calls P f cargs.toArray w fun e w' => ∃ μ' c, Step B μ (T.get s.hp) s.nx w μ' (T.get s'.hp) s'.nx w' ∧ conc μ' v = some c ∧ e = .returned c
  pan : ∀ f args s v s', call f args s = .pan v s' → ∀ B μ w cargs, Rel B μ (T.get s.hp) w → Fresh μ s.nx s'.nx → concL μ args = some cargs →
    Calls P f cargs.toArray w fun e w' => ∃ μ' c, Step B μ (T.get s.hp) s.nx w μ' (T.get s'.hp) s'.nx w' ∧ conc μ' v = some c ∧ e = .panicked [{ v := c, recovered := false }]
/-- No function of the program is the run time's count of goroutines. -/
def NoNG (P : Program) : Prop := ∀ (f : FuncId) (fn : Func), P.funcs[f]? = some fn → fn.name ≠ "runtime.NumGoroutine"
theorem call_enter (hN : NoNG P) {ρ : Operand → Value} {dst : Option Tmp} {f : Operand} {args : Array Operand} {ts : Array TypeId} {ty : TypeId} {pos : String} {after : Array Edge} {guard : Option (Nat × Bool)} {g : FuncId} {F C : Array Value} (hf : ρ f = .func (.func g) F C) {fn : Func} (hfn : P.funcs[g]? = some fn) (hb : fn.body.isSome = true) (w : World) :
    (execOp ρ ⟨dst, .call ⟨.value f, args, ts⟩, ty, pos, after, guard⟩).run P w = .ok (.enter g (F ++ args.map ρ ++ C)) w := by
  have hn := hN g fn hfn
  obtain ⟨c, hc⟩ := Option.isSome_iff_exists.1 hb
  simp [execOp, resolve, Deferred.ofValue, hf, invoke, callFunc, hfn, hn, hc]
theorem concL_cat {l l' : List AV} {F C : List Value} (h : concL μ l = some F) (h' : concL μ l' = some C) : concL μ (l ++ l') = some (F ++ C) := concL_append _ _ _ _ h h'
theorem opCall_inv {call : Nat → List AV → St → CR} {f : Operand} {args : Array Operand} {ts : Array TypeId} {tm : Tm} {s : St} {r : CR} (h : opCall P call ⟨.value f, args, ts⟩ tm s = r) (hr : r ≠ .no) : ∃ g first caps as, ev tm f = some (.func g first caps) ∧ evs tm args.toList = some as ∧ call g (first ++ as ++ caps) s = r := by
  unfold opCall at h
  split at h
  · rename_i f' as hcal has
    have hcal : Callee.value f = Callee.value f' := hcal
    injection hcal with hcal; subst hcal
    split at h
    · rename_i g first caps hg
      exact ⟨g, first, caps, as, hg, has, h⟩
    · exact absurd h.symm hr
  · rename_i hcal _; cases hcal
  · exact absurd h.symm hr
theorem isCall_inv {op : Op} (h : isCall op = true) : ∃ f args ts, op = .call ⟨.value f, args, ts⟩ := by
  unfold isCall at h
  split at h
  · exact ⟨_, _, _, rfl⟩
  · cases h
/-- An operation whose run here yields a value. -/
theorem op_wp (hN : NoNG P) {call : Nat → List AV → St → CR} (hC : CallS P call) {s s' : St} (hR : Rel B μ (T.get s.hp) w) (hf : Fresh μ s.nx s'.nx) {tm : Tm} {a : Act} {o : Oper} {v : AV} (h : opA o.op P call tm s = .ret v s') (hr : OpsR μ tm a.eval o.op) {k : Act → World → Prop} {Q : Exit → Act → World → Prop}
    (hk : ∀ μ' c w', conc μ' v = some c → Step B μ (T.get s.hp) s.nx w μ' (T.get s'.hp) s'.nx w' → k (a.put o.dst c) w') : o.wp P a w k Q := by
  obtain ⟨dst, op, ty, pos, after, guard⟩ := o
  cases hic : isCall op with
  | false => exact (op_lands (P := P) call hR hf dst op ty pos after guard hic h hr).wp hk
  | true =>
    obtain ⟨f, args, ts, rfl⟩ := isCall_inv hic
    obtain ⟨g, first, caps, as, hg, has, hcall⟩ := opCall_inv (show opCall P call ⟨.value f, args, ts⟩ tm s = .ret v s' from h) (fun e => by cases e)
    obtain ⟨fn, hfn, hb⟩ := hC.fn _ _ _ _ _ (.inl hcall)
    have hfv := hr f (by simp [Op.operands, Call.operands]) _ hg
    obtain ⟨F, C, hF, hCc, hfe⟩ := conc_func hfv
    have hargs := evs_conc args.toList as (fun z hz => hr z (by simp [Op.operands, Call.operands]; exact .inr (by simpa using hz))) has
    have hcc := concL_cat (concL_cat hF hargs) hCc
    have he := call_enter hN (dst := dst) (args := args) (ts := ts) (ty := ty) (pos := pos) (after := after) (guard := guard) hfe hfn hb w
    unfold Oper.wp
    rw [he, Oper.upon_enter]
    have harr : (F ++ args.toList.map a.eval ++ C).toArray = F.toArray ++ args.map a.eval ++ C.toArray := by
      apply Array.toList_inj.mp; simp
    rw [← harr]
    refine (hC.ret _ _ _ _ _ hcall B μ w _ hR hf hcc).mono fun e w' hh => ?_
    obtain ⟨μ', c, h1, h2, rfl⟩ := hh
    exact hk μ' c w' h2 h1
theorem op_wp_pan (hN : NoNG P) {call : Nat → List AV → St → CR} (hC : CallS P call) {s s' : St} (hR : Rel B μ (T.get s.hp) w) (hf : Fresh μ s.nx s'.nx) {tm : Tm} {a : Act} {o : Oper} {v : AV} (h : opA o.op P call tm s = .pan v s') (hr : OpsR μ tm a.eval o.op) {k : Act → World → Prop} {Q : Exit → Act → World → Prop}
    (hk : ∀ μ' c w', conc μ' v = some c → Step B μ (T.get s.hp) s.nx w μ' (T.get s'.hp) s'.nx w' → Q (.panic [{ v := c, recovered := false }]) a w') : o.wp P a w k Q := by
  obtain ⟨dst, op, ty, pos, after, guard⟩ := o
  cases op with
  | panic x =>
    have h : opPanic (ev tm x) s = .pan v s' := h
    unfold opPanic at h
    split at h
    · rename_i t y hx
      injection h with h1 h2; subst h1; subst h2
      have hc := hr x (by simp [Op.operands]) _ hx
      obtain ⟨z, hz, he⟩ := conc_iface hc
      have := hk μ _ w hc (Step.refl hR _)
      unfold Oper.wp
      have hrun : (execOp a.eval ⟨dst, .panic x, ty, pos, after, guard⟩).run P w = .halt (.panic (a.eval x)) w := by
        simp [execOp, Instr.panic, he]
      rw [hrun]
      exact this
    · cases h
  | call c =>
    obtain ⟨callee, args, ts⟩ := c
    cases callee with
    | value f =>
      obtain ⟨g, first, caps, as, hg, has, hcall⟩ := opCall_inv (show opCall P call ⟨.value f, args, ts⟩ tm s = .pan v s' from h) (fun e => by cases e)
      obtain ⟨fn, hfn, hb⟩ := hC.fn _ _ _ _ _ (.inr hcall)
      have hfv := hr f (by simp [Op.operands, Call.operands]) _ hg
      obtain ⟨F, C, hF, hCc, hfe⟩ := conc_func hfv
      have hargs := evs_conc args.toList as (fun z hz => hr z (by simp [Op.operands, Call.operands]; exact .inr (by simpa using hz))) has
      have hcc := concL_cat (concL_cat hF hargs) hCc
      have he := call_enter hN (dst := dst) (args := args) (ts := ts) (ty := ty) (pos := pos) (after := after) (guard := guard) hfe hfn hb w
      unfold Oper.wp
      rw [he, Oper.upon_enter]
      have harr : (F ++ args.toList.map a.eval ++ C).toArray = F.toArray ++ args.map a.eval ++ C.toArray := by
        apply Array.toList_inj.mp; simp
      rw [← harr]
      refine (hC.pan _ _ _ _ _ hcall B μ w _ hR hf hcc).mono fun e w' hh => ?_
      obtain ⟨μ', c, h1, h2, rfl⟩ := hh
      exact hk μ' c w' h2 h1
    | invoke r n =>
      have h : opCall P call ⟨.invoke r n, args, ts⟩ tm s = .pan v s' := h
      unfold opCall at h
      split at h
      · rename_i hcal _; cases hcal
      · rename_i hcal _; cases hcal
      · cases h
    | builtin b =>
      have h : opCall P call ⟨.builtin b, args, ts⟩ tm s = .pan v s' := h
      unfold opCall at h
      split at h
      · rename_i hcal _; cases hcal
      · unfold opBuiltin at h
        split at h <;> first | exact (ofP_pan h).elim | exact (ofO_pan h).elim | exact (ofS_pan h).elim | cases h
      · cases h
  | makeMap t r => cases r <;> cases h
  | convert t u x =>
    have h : opConvS P t u (ev tm x) s = .pan v s' := h
    unfold opConvS at h
    split at h <;> first | exact (ofO_pan h).elim | exact (ofP_pan h).elim | cases h
  | _ => first | exact (ofO_pan h).elim | exact (ofP_pan h).elim | exact (ofS_pan h).elim | (cases h; done)
theorem stepK_eq {ρ : Type} (no : ρ) (pan : AV → St → ρ) (k : Tm → St → ρ) (call : Nat → List AV → St → CR) (ops : List Oper) (n : Nat) (o : Oper) (tm : Tm) (s : St) :
    stepK no pan k P call ops n o tm s = match stepO P call ops n o tm s with | .go tm s => k tm s | .pan v s => pan v s | .no => no := by
  have put : ∀ (v : AV) (s : St), putK no n tm v (fun tm => k tm s) o.dst = match putK SO.no n tm v (fun tm => SO.go tm s) o.dst with | .go tm s => k tm s | .pan v s => pan v s | .no => no := by
    intro v s
    cases o.dst with
    | none => rfl
    | some d =>
      show @Bool.rec (fun _ => ρ) no (k (T.set tm (K.of d) v) s) (Nat.ble (Nat.succ d) n) = match @Bool.rec (fun _ => SO) SO.no (SO.go (T.set tm (K.of d) v) s) (Nat.ble (Nat.succ d) n) with | .go tm s => k tm s | .pan v s => pan v s | .no => no
      cases Nat.ble (Nat.succ d) n <;> rfl
  unfold stepO stepK
  cases wantA ops tm o with
  | none => rfl
  | some b => cases b with
    | false => exact put _ _
    | true =>
      cases opA o.op P call tm s with
      | ret v s' => exact put _ _
      | pan v s' => rfl
      | no => rfl
theorem putK_go {n : Nat} {tm tm' : Tm} {v : AV} {s s' : St} {d : Option Tmp} (h : putK SO.no n tm v (fun tm => SO.go tm s) d = .go tm' s') : putK none n tm v (fun tm => some tm) d = some tm' ∧ s' = s := by
  cases d with
  | none => injection (show SO.go tm s = .go tm' s' from h) with h1 h2; subst h1; exact ⟨rfl, h2.symm⟩
  | some d =>
    have h : @Bool.rec (fun _ => SO) SO.no (SO.go (T.set tm (K.of d) v) s) (Nat.ble (Nat.succ d) n) = .go tm' s' := h
    show @Bool.rec (fun _ => Option Tm) none (some (T.set tm (K.of d) v)) (Nat.ble (Nat.succ d) n) = some tm' ∧ s' = s
    cases hb : Nat.ble (Nat.succ d) n with
    | false => rw [hb] at h; cases h
    | true => rw [hb] at h; injection h with h1 h2; exact ⟨by rw [← h1], h2.symm⟩
theorem putK_pan {n : Nat} {tm : Tm} {v u : AV} {s s' : St} {d : Option Tmp} (h : putK SO.no n tm v (fun tm => SO.go tm s) d = .pan u s') : False := by
  cases d with
  | none => cases h
  | some d =>
    have h : @Bool.rec (fun _ => SO) SO.no (SO.go (T.set tm (K.of d) v) s) (Nat.ble (Nat.succ d) n) = .pan u s' := h
    cases hb : Nat.ble (Nat.succ d) n <;> rw [hb] at h <;> cases h
/-- What a step is: skipped, or run. -/
theorem stepO_go {call : Nat → List AV → St → CR} {ops : List Oper} {n : Nat} {o : Oper} {tm tm' : Tm} {s s' : St} (h : stepO P call ops n o tm s = .go tm' s') :
    (wantA ops tm o = some false ∧ putK none n tm (.tup []) (fun tm => some tm) o.dst = some tm' ∧ s' = s) ∨ (wantA ops tm o = some true ∧ ∃ v, opA o.op P call tm s = .ret v s' ∧ putK none n tm v (fun tm => some tm) o.dst = some tm') := by
  unfold stepO stepK at h
  cases hw : wantA ops tm o with
  | none => rw [hw] at h; cases h
  | some b =>
    rw [hw] at h
    cases b with
    | false =>
      obtain ⟨h1, h2⟩ := putK_go (show putK SO.no n tm (.tup []) (fun tm => SO.go tm s) o.dst = .go tm' s' from h)
      exact .inl ⟨rfl, h1, h2⟩
    | true =>
      have h : @CR.rec (fun _ => SO) (fun v s => putK SO.no n tm v (fun tm => SO.go tm s) o.dst) SO.pan SO.no (opA o.op P call tm s) = .go tm' s' := h
      cases ho : opA o.op P call tm s with
      | ret v s2 =>
        rw [ho] at h
        obtain ⟨h1, h2⟩ := putK_go (show putK SO.no n tm v (fun tm => SO.go tm s2) o.dst = .go tm' s' from h)
        subst h2
        exact .inr ⟨rfl, v, rfl, h1⟩
      | pan v s2 => rw [ho] at h; cases h
      | no => rw [ho] at h; cases h
theorem stepO_pan {call : Nat → List AV → St → CR} {ops : List Oper} {n : Nat} {o : Oper} {tm : Tm} {s s' : St} {v : AV} (h : stepO P call ops n o tm s = .pan v s') :
    wantA ops tm o = some true ∧ opA o.op P call tm s = .pan v s' := by
  unfold stepO stepK at h
  cases hw : wantA ops tm o with
  | none => rw [hw] at h; cases h
  | some b =>
    rw [hw] at h
    cases b with
    | false => exact (putK_pan (show putK SO.no n tm (.tup []) (fun tm => SO.go tm s) o.dst = .pan v s' from h)).elim
    | true =>
      have h : @CR.rec (fun _ => SO) (fun v s => putK SO.no n tm v (fun tm => SO.go tm s) o.dst) SO.pan SO.no (opA o.op P call tm s) = .pan v s' := h
      cases ho : opA o.op P call tm s with
      | ret u s2 => rw [ho] at h; exact (putK_pan (show putK SO.no n tm u (fun tm => SO.go tm s2) o.dst = .pan v s' from h)).elim
      | pan u s2 => rw [ho] at h; injection h with h1 h2; subst h1; subst h2; exact ⟨rfl, rfl⟩
      | no => rw [ho] at h; cases h
/-- One operation of a region. -/
theorem step_wp (hN : NoNG P) {call : Nat → List AV → St → CR} (hC : CallS P call) {ops : Array Oper} {i n : Nat} {o : Oper} (ho : ops[i]? = some o) {s s' : St} (hR : Rel B μ (T.get s.hp) w) (hf : Fresh μ s.nx s'.nx) {tm tm' : Tm} {a : Act} (hT : TmR n μ tm a) (h : stepO P call ops.toList n o tm s = .go tm' s')
    {k : Act → World → Prop} {Q : Exit → Act → World → Prop} (hk : ∀ μ' a' w', a'.defers = a.defers → Step B μ (T.get s.hp) s.nx w μ' (T.get s'.hp) s'.nx w' → TmR n μ' tm' a' → k a' w') : wpOp P ops Q i k a w := by
  unfold wpOp
  rw [ho]
  simp only []
  rcases stepO_go h with ⟨hw, hp, rfl⟩ | ⟨hw, v, hv, hp⟩
  · rw [want_ok hT hw]
    simp only [Bool.false_eq_true, if_false]
    exact hk μ _ w (put_defers _ _ _) (Step.refl hR _) (hT.put conc_undef hp)
  · rw [want_ok hT hw]
    simp only [if_true]
    refine .inl (op_wp hN hC hR hf hv (fun x _ => hT.ev x) fun μ' c w' hc hst => ?_)
    exact hk μ' _ w' (put_defers _ _ _) hst ((hT.mono hst.ext).put hc hp)
theorem step_wp_pan (hN : NoNG P) {call : Nat → List AV → St → CR} (hC : CallS P call) {ops : Array Oper} {i n : Nat} {o : Oper} (ho : ops[i]? = some o) {s s' : St} (hR : Rel B μ (T.get s.hp) w) (hf : Fresh μ s.nx s'.nx) {tm : Tm} {a : Act} (hT : TmR n μ tm a) {v : AV} (h : stepO P call ops.toList n o tm s = .pan v s')
    {k : Act → World → Prop} {Q : Exit → Act → World → Prop} (hk : ∀ μ' c w', conc μ' v = some c → Step B μ (T.get s.hp) s.nx w μ' (T.get s'.hp) s'.nx w' → Q (.panic [{ v := c, recovered := false }]) a w') : wpOp P ops Q i k a w := by
  unfold wpOp
  rw [ho]
  simp only []
  obtain ⟨hw, hv⟩ := stepO_pan h
  rw [want_ok hT hw]
  simp only [if_true]
  exact .inl (op_wp_pan hN hC hR hf hv (fun x _ => hT.ev x) hk)

/-! ### a region in the text's order -/
def ExR (μ : K → Option Loc) (e : Ex) (x : Exit) : Prop := match e, x with
  | .nrm, .normal => True
  | .exit i, .exit j => i = j
  | .goto i, .goto j => i = j
  | .ret, .ret => True
  | .pan v, .panic ch => ∃ c, conc μ v = some c ∧ ch = [{ v := c, recovered := false }]
  | _, _ => False
def isPan : Ex → Bool
  | .pan _ => true
  | _ => false
/-- What a piece of code leaves. -/
def Post (B : Nat) (μ : K → Option Loc) (s : St) (w : World) (n : Nat) (ds : List Deferred) (e : Ex) (tm' : Tm) (s' : St) (x : Exit) (a' : Act) (w' : World) : Prop :=
  ∃ μ', Step B μ (T.get s.hp) s.nx w μ' (T.get s'.hp) s'.nx w' ∧ ExR μ' e x ∧ a'.defers = ds ∧ (isPan e = false → TmR n μ' tm' a')
theorem Post.trans {s s1 s2 : St} {n : Nat} {ds : List Deferred} {e : Ex} {tm : Tm} {x : Exit} {a : Act} {w2 : World} (h : Step B μ (T.get s.hp) s.nx w μ' (T.get s1.hp) s1.nx w1) (k : Post B μ' s1 w1 n ds e tm s2 x a w2) : Post B μ s w n ds e tm s2 x a w2 := by
  obtain ⟨μ'', h1, h2⟩ := k
  exact ⟨μ'', h.trans h1, h2⟩
theorem runOps_nil (call : Nat → List AV → St → CR) (ops : List Oper) (n : Nat) (tm : Tm) (s : St) : runOps P call ops n [] tm s = .ok .nrm tm s := rfl
theorem runOps_cons (call : Nat → List AV → St → CR) (ops : List Oper) (n : Nat) (o : Oper) (l : List Oper) (tm : Tm) (s : St) : runOps P call ops n (o :: l) tm s = match stepO P call ops n o tm s with | .go tm' s' => runOps P call ops n l tm' s' | .pan v s' => .ok (.pan v) tm s' | .no => .no := stepK_eq _ _ _ _ _ _ _ _ _
theorem nx_of {s s' : St} (h : s'.nx = s.nx ∨ s'.nx = K.succ s.nx) : s.nx.val ≤ s'.nx.val := by
  rcases h with h | h <;> rw [h]
  · exact Nat.le_refl _
  · rw [K.val_succ]; omega
theorem opStore_nx {t : TypeId} {a x : Option AV} {s s' : St} (h : opStore P t a x s = some s') : s'.nx = s.nx ∨ s'.nx = K.succ s.nx := by
  unfold opStore at h
  (repeat' split at h) <;> first | (cases h; done) | (cases h; exact .inl rfl)
theorem opAlloc_nx {t : TypeId} {s s' : St} {v : AV} (h : opAlloc P t s = some (v, s')) : s'.nx = s.nx ∨ s'.nx = K.succ s.nx := by
  unfold opAlloc at h
  (repeat' split at h) <;> first | (cases h; done) | (cases h; exact .inr rfl)
theorem opBox_nx {t : TypeId} {x : Option AV} {s s' : St} {v : AV} (h : opBox t x s = some (v, s')) : s'.nx = s.nx ∨ s'.nx = K.succ s.nx := by
  unfold opBox at h
  (repeat' split at h) <;> first | (cases h; done) | (cases h; exact .inr rfl)
theorem opBuildSlice_nx {t : TypeId} {n : Nat} {ps : Option (List (Nat × AV))} {s s' : St} {v : AV} (h : opBuildSlice P t n ps s = some (v, s')) : s'.nx = s.nx ∨ s'.nx = K.succ s.nx := by
  unfold opBuildSlice at h
  (repeat' split at h) <;> first | (cases h; done) | (cases h; exact .inr rfl)
theorem opMakeSlice_nx {t : TypeId} {l c : Option AV} {s s' : St} {v : AV} (h : opMakeSlice P t l c s = some (v, s')) : s'.nx = s.nx ∨ s'.nx = K.succ s.nx := by
  unfold opMakeSlice at h
  (repeat' split at h) <;> first | (cases h; done) | (cases h; exact .inr rfl)
theorem opAppend_nx {ts : List TypeId} {a x : AV} {s s' : St} {v : AV} (h : opAppend P ts a x s = some (v, s')) : s'.nx = s.nx ∨ s'.nx = K.succ s.nx := by
  unfold opAppend at h
  (repeat' split at h) <;> first | (cases h; done) | (cases h; exact .inl rfl) | (cases h; exact .inr rfl)
theorem opCopy_nx {ts : List TypeId} {a x : AV} {s s' : St} {v : AV} (h : opCopy P ts a x s = some (v, s')) : s'.nx = s.nx ∨ s'.nx = K.succ s.nx := by
  unfold opCopy at h
  (repeat' split at h) <;> first | (cases h; done) | (cases h; exact .inl rfl)
theorem opBytes_nx {e : TypeId} {x : Option AV} {s s' : St} {v : AV} (h : opBytes P e x s = some (v, s')) : s'.nx = s.nx ∨ s'.nx = K.succ s.nx := by
  unfold opBytes at h
  (repeat' split at h) <;> first | (cases h; done) | (cases h; exact .inr rfl)
theorem opMapUpdate_nx {t : TypeId} {m k x : Option AV} {s s' : St} (h : opMapUpdate P t m k x s = some s') : s'.nx = s.nx ∨ s'.nx = K.succ s.nx := by
  unfold opMapUpdate at h
  (repeat' split at h) <;> first | (cases h; done) | (cases h; exact .inl rfl)
theorem opDelete_nx {ts : List TypeId} {m k : AV} {s s' : St} (h : opDelete P ts m k s = some s') : s'.nx = s.nx ∨ s'.nx = K.succ s.nx := by
  unfold opDelete at h
  (repeat' split at h) <;> first | (cases h; done) | (cases h; exact .inl rfl)
theorem opClear_nx {ts : List TypeId} {m : AV} {s s' : St} (h : opClear P ts m s = some s') : s'.nx = s.nx ∨ s'.nx = K.succ s.nx := by
  unfold opClear at h
  (repeat' split at h) <;> first | (cases h; done) | (cases h; exact .inl rfl)
theorem opA_mono {call : Nat → List AV → St → CR} (hC : CallS P call) {op : Op} {tm : Tm} {s s' : St} {v : AV} (h : opA op P call tm s = .ret v s' ∨ opA op P call tm s = .pan v s') : s.nx.val ≤ s'.nx.val := by
  have keep : ∀ {x : Option AV}, (ofO x s = .ret v s' ∨ ofO x s = .pan v s') → s.nx.val ≤ s'.nx.val := fun h => by
    rcases h with h | h
    · rw [(ofO_ret h).2]; exact Nat.le_refl _
    · exact (ofO_pan h).elim
  have pair : ∀ {x : Option (AV × St)}, (∀ v s', x = some (v, s') → s'.nx = s.nx ∨ s'.nx = K.succ s.nx) → (ofP x = .ret v s' ∨ ofP x = .pan v s') → s.nx.val ≤ s'.nx.val := fun hx h => by
    rcases h with h | h
    · exact nx_of (hx _ _ (ofP_ret h))
    · exact (ofP_pan h).elim
  have unit : ∀ {x : Option St}, (∀ s', x = some s' → s'.nx = s.nx ∨ s'.nx = K.succ s.nx) → (ofS x = .ret v s' ∨ ofS x = .pan v s') → s.nx.val ≤ s'.nx.val := fun hx h => by
    rcases h with h | h
    · exact nx_of (hx _ (ofS_ret h).1)
    · exact (ofS_pan h).elim
  cases op with
  | alloc t => exact pair (fun _ _ => opAlloc_nx) h
  | box t x => exact pair (fun _ _ => opBox_nx) h
  | buildSlice t n ps => exact pair (fun _ _ => opBuildSlice_nx) h
  | makeSlice t l c => exact pair (fun _ _ => opMakeSlice_nx) h
  | store t a x => exact unit (fun _ => opStore_nx) h
  | mapUpdate t m k x => exact unit (fun _ => opMapUpdate_nx) h
  | makeMap t r =>
    cases r with
    | none =>
      rcases h with h | h
      · injection (show CR.ret _ _ = CR.ret v s' from h) with h1 h2; rw [← h2]; show s.nx.val ≤ (K.succ s.nx).val; rw [K.val_succ]; omega
      · cases h
    | some r => rcases h with h | h <;> cases h
  | panic x =>
    have h : opPanic (ev tm x) s = .ret v s' ∨ opPanic (ev tm x) s = .pan v s' := h
    unfold opPanic at h
    split at h
    · rcases h with h | h
      · cases h
      · injection h with h1 h2; rw [h2]; exact Nat.le_refl _
    · rcases h with h | h <;> cases h
  | convert t u x =>
    have h : opConvS P t u (ev tm x) s = .ret v s' ∨ opConvS P t u (ev tm x) s = .pan v s' := h
    unfold opConvS at h
    split at h
    · exact keep h
    · exact pair (fun _ _ => opBytes_nx) h
    · rcases h with h | h <;> cases h
    · rcases h with h | h <;> cases h
    · exact keep h
  | call c =>
    have h : opCall P call c tm s = .ret v s' ∨ opCall P call c tm s = .pan v s' := h
    unfold opCall at h
    split at h
    · split at h
      · exact hC.mono _ _ _ _ _ h
      · rcases h with h | h <;> cases h
    · unfold opBuiltin at h
      split at h
      · exact pair (fun _ _ => opAppend_nx) h
      · exact pair (fun _ _ => opCopy_nx) h
      · exact keep h
      · exact keep h
      · exact keep h
      · exact keep h
      · exact unit (fun _ => opDelete_nx) h
      · exact unit (fun _ => opClear_nx) h
      · rcases h with h | h <;> cases h
    · rcases h with h | h <;> cases h
  | _ => first | exact keep h | (rcases h with h | h <;> cases h)
theorem stepO_mono {call : Nat → List AV → St → CR} (hC : CallS P call) {ops : List Oper} {n : Nat} {o : Oper} {tm tm' : Tm} {s s' : St} {v : AV} (h : stepO P call ops n o tm s = .go tm' s' ∨ stepO P call ops n o tm s = .pan v s') : s.nx.val ≤ s'.nx.val := by
  rcases h with h | h
  · rcases stepO_go h with ⟨-, -, rfl⟩ | ⟨-, u, hu, -⟩
    · exact Nat.le_refl _
    · exact opA_mono hC (.inl hu)
  · exact opA_mono hC (.inr (stepO_pan h).2)
theorem runOps_mono {call : Nat → List AV → St → CR} (hC : CallS P call) {ops : List Oper} {n : Nat} : ∀ (l : List Oper) (s s' : St) (tm tm' : Tm) (e : Ex), runOps P call ops n l tm s = .ok e tm' s' → s.nx.val ≤ s'.nx.val
  | [], s, s', tm, tm', e, h => by
    rw [runOps_nil] at h
    injection h with h1 h2 h3; rw [h3]; exact Nat.le_refl _
  | o :: l, s, s', tm, tm', e, h => by
    rw [runOps_cons] at h
    cases hst : stepO P call ops n o tm s with
    | go tm1 s1 =>
      rw [hst] at h
      exact Nat.le_trans (stepO_mono (v := .nilFunc) hC (.inl hst)) (runOps_mono hC l s1 s' tm1 tm' e h)
    | pan v s1 =>
      rw [hst] at h
      injection h with h1 h2 h3; rw [← h3]
      exact stepO_mono (tm' := tm) hC (.inr hst)
    | no => rw [hst] at h; cases h
theorem runOps_wp (hN : NoNG P) {call : Nat → List AV → St → CR} (hC : CallS P call) {ops : Array Oper} {n : Nat} {Q : Exit → Act → World → Prop} : ∀ (l : List Oper) (i : Nat) (s s' : St) (tm tm' : Tm) (e : Ex) (a : Act) (w : World) (μ : K → Option Loc), ops.toList.drop i = l → runOps P call ops.toList n l tm s = .ok e tm' s' →
    Rel B μ (T.get s.hp) w → Fresh μ s.nx s'.nx → TmR n μ tm a → (∀ x a' w', Post B μ s w n a.defers e tm' s' x a' w' → Q x a' w') → wpOps P ops Q (List.range' i l.length) a w
  | [], i, s, s', tm, tm', e, a, w, μ, hl, h, hR, hf, hT, hQ => by
    rw [runOps_nil] at h
    injection h with h1 h2 h3; subst h1; subst h2; subst h3
    exact hQ _ _ _ ⟨μ, Step.refl hR _, trivial, rfl, fun _ => hT⟩
  | o :: l, i, s, s', tm, tm', e, a, w, μ, hl, h, hR, hf, hT, hQ => by
    have ho : ops[i]? = some o := by
      have : (ops.toList.drop i)[0]? = some o := by rw [hl]; rfl
      rw [List.getElem?_drop] at this
      simpa using this
    have hl' : ops.toList.drop (i + 1) = l := by rw [← List.drop_drop, hl]; rfl
    rw [runOps_cons] at h
    rw [List.length_cons, List.range'_succ, wpOps_cons]
    cases hst : stepO P call ops.toList n o tm s with
    | go tm1 s1 =>
      rw [hst] at h
      have hm := runOps_mono hC l s1 s' tm1 tm' e h
      refine step_wp hN hC ho hR (hf.left hm) hT hst fun μ' a' w' hd hstep hT' => ?_
      refine runOps_wp hN hC l (i + 1) s1 s' tm1 tm' e a' w' μ' hl' h hstep.rel (hf.right hstep) hT' fun x a2 w2 hp => ?_
      rw [hd] at hp
      exact hQ x a2 w2 (hp.trans hstep)
    | pan v s1 =>
      rw [hst] at h
      injection h with h1 h2 h3; subst h1; subst h2; subst h3
      exact step_wp_pan hN hC ho hR hf hT hst fun μ' c w' hc hstep => hQ _ _ _ ⟨μ', hstep, ⟨c, hc, rfl⟩, rfl, fun h => by cases h⟩
    | no => rw [hst] at h; cases h
end Go.Proofs.Ythkkphkeonnnfaa.Abs
