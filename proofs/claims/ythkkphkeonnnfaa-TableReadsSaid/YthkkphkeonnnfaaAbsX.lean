/- An abstract machine over the model's code: code. No condition but those that each theorem names. -/
import Derived.Test.YthkkphkeonnnfaaAbsW
import Derived.LoopN
namespace Go.Proofs.Ythkkphkeonnnfaa.Abs
open Go
variable {P : Program} {B : Nat} {μ μ' : K → Option Loc} {H H' : Hp} {w w1 w' : World} {nx nx' : K}

/-- A piece of code comes to so much. -/
def Runs (P : Program) (ex : Nat → Cd → Tm → St → Out) (c : Code) : Prop := ∀ n tm s e tm' s', ex n (.code c) tm s = .ok e tm' s' → ∀ B μ w a (Q : Exit → Act → World → Prop), Rel B μ (T.get s.hp) w → Fresh μ s.nx s'.nx → TmR n μ tm a →
  (∀ x a' w', Post B μ s w n a.defers e tm' s' x a' w' → Q x a' w') → c.wp P Q a w
def Mono (ex : Nat → Cd → Tm → St → Out) : Prop := ∀ n d tm s e tm' s', ex n d tm s = .ok e tm' s' → s.nx.val ≤ s'.nx.val
def Rounds (P : Program) (ex : Nat → Cd → Tm → St → Out) (k : Nat) (c : Code) : Prop := ∀ n tm s e tm' s', ex n (.code (.loop c)) tm s = .ok e tm' s' → ∀ B μ w a (Q : Exit → Act → World → Prop), Rel B μ (T.get s.hp) w → Fresh μ s.nx s'.nx → TmR n μ tm a →
  (∀ x a' w', Post B μ s w n a.defers e tm' s' x a' w' → Q x a' w') → Code.rounds P c Q k a w
def Unders (P : Program) (ex : Nat → Cd → Tm → St → Out) (body c : Code) : Prop := ∀ n tm s e tm' s', ex n (.under body c) tm s = .ok e tm' s' → ∀ B μ w a (Q : Exit → Act → World → Prop), Rel B μ (T.get s.hp) w → Fresh μ s.nx s'.nx → TmR n μ tm a →
  (∀ x a' w', Post B μ s w n a.defers e tm' s' x a' w' → Q x a' w') → ∀ (b : Frame) (k : List Item) (cs : List Frame), ∃ e a' w', Q e a' w' ∧ Arrives P (lone (b.at a (.code c :: .inScope body :: k)) cs w) b k cs e a' w'
/-- All that a run of so much fuel comes to. -/
structure Snd (P : Program) (ex : Nat → Cd → Tm → St → Out) (k : Nat) : Prop where
  mono : Mono ex
  code : ∀ c, Runs P ex c
  loop : ∀ c, Rounds P ex k c
  under : ∀ body c, Unders P ex body c
theorem exR_normal {e : Ex} {x : Exit} (h : ExR μ e x) : (e = .nrm ∧ x = .normal) ∨ (e ≠ .nrm ∧ x ≠ .normal) := by
  cases e <;> cases x <;> first | exact h.elim | exact .inl ⟨rfl, rfl⟩ | exact .inr ⟨fun h => (by cases h), fun h => (by cases h)⟩
theorem thenO_ok {r : Out} {k : Tm → St → Out} {e : Ex} {tm : Tm} {s : St} (h : thenO r k = .ok e tm s) : (∃ tm1 s1, r = .ok .nrm tm1 s1 ∧ k tm1 s1 = .ok e tm s) ∨ (e ≠ .nrm ∧ r = .ok e tm s) := by
  cases r with
  | no => cases h
  | ok e1 tm1 s1 =>
    cases e1 with
    | nrm => exact .inl ⟨tm1, s1, rfl, h⟩
    | _ =>
      injection (show Out.ok _ tm1 s1 = .ok e tm s from h) with h1 h2 h3
      subst h1; subst h2; subst h3
      exact .inr ⟨fun h => (by cases h), rfl⟩
theorem blockO_ok {id : Nat} {r : Out} {e : Ex} {tm : Tm} {s : St} (h : blockO id r = .ok e tm s) : (e = .nrm ∧ r = .ok (.exit id) tm s) ∨ (r = .ok e tm s ∧ e ≠ .exit id) := by
  unfold blockO at h
  split at h
  · rename_i i tm1 s1
    split at h
    · rename_i hb
      injection h with h1 h2 h3; subst h1; subst h2; subst h3
      rw [Nat.beq_eq.mp hb]
      exact .inl ⟨rfl, rfl⟩
    · rename_i hb
      injection h with h1 h2 h3; subst h1; subst h2; subst h3
      refine .inr ⟨rfl, fun e => ?_⟩
      injection e with e
      rw [e, Nat.beq_refl] at hb; cases hb
  · rename_i hne
    refine .inr ⟨h, fun e' => ?_⟩
    subst e'
    exact hne _ _ _ h
theorem condO_ok {x : Option AV} {a b : Out} {e : Ex} {tm : Tm} {s : St} (h : condO x a b = .ok e tm s) : ∃ c, x = some (.bool c) ∧ (if c then a else b) = .ok e tm s := by
  have h : @Option.rec Bool (fun _ => Out) .no (fun c => @Bool.rec (fun _ => Out) b a c) (optK asBool x) = .ok e tm s := h
  cases hx : optK asBool x with
  | none => rw [hx] at h; cases h
  | some c =>
    rw [hx] at h
    obtain ⟨u, hu, hc⟩ := optK_some hx
    refine ⟨c, by rw [hu, asBool_some hc], ?_⟩
    cases c <;> exact h
theorem underO_ok {body : Code} {ih : Cd → Tm → St → Out} {r : Out} {e : Ex} {tm : Tm} {s : St} (h : underO body ih r = .ok e tm s) : (∃ l tm1 s1 rest, r = .ok (.goto l) tm1 s1 ∧ findLabel body l = some rest ∧ ih (.under body rest) tm1 s1 = .ok e tm s) ∨ (r = .ok e tm s ∧ ∀ l, e ≠ .goto l) := by
  unfold underO at h
  split at h
  · rename_i l tm1 s1
    split at h
    · rename_i rest hr
      exact .inl ⟨l, tm1, s1, rest, rfl, hr, h⟩
    · cases h
  · rename_i hne
    refine .inr ⟨h, fun l e' => ?_⟩
    subst e'
    exact hne _ _ _ h
theorem region_mono {call : Nat → List AV → St → CR} (hC : CallS P call) {ops : List Oper} {n : Nat} {tm tm' : Tm} {s s' : St} {e : Ex} {d : Bool} (h : @Bool.rec (fun _ => Out) (runOps P call ops n ops tm s) (drawOps P call ops n tm s) d = .ok e tm' s') : s.nx.val ≤ s'.nx.val := by
  cases d with
  | false => exact runOps_mono hC _ _ _ _ _ _ h
  | true => exact drawOps_mono hC h
theorem region_wp (hN : NoNG P) (hmix : P.follows .mixedOrders = true) {call : Nat → List AV → St → CR} (hC : CallS P call) {ops : Array Oper} {n id : Nat} {tm tm' : Tm} {s s' : St} {e : Ex} {d : Bool} (h : @Bool.rec (fun _ => Out) (runOps P call ops.toList n ops.toList tm s) (drawOps P call ops.toList n tm s) d = .ok e tm' s') {a : Act} (hR : Rel B μ (T.get s.hp) w) (hf : Fresh μ s.nx s'.nx) (hT : TmR n μ tm a)
    {Q : Exit → Act → World → Prop} (hQ : ∀ x a' w', Post B μ s w n a.defers e tm' s' x a' w' → Q x a' w') : (Code.region id ops d).wp P Q a w := by
  cases d with
  | false =>
    refine wp_region ?_
    have := runOps_wp hN hC ops.toList 0 s s' tm tm' e a w μ rfl h hR hf hT hQ
    rw [List.range_eq_range']
    simpa using this
  | true => exact draw_wp hN hmix hC h hR hf hT hQ
theorem then_wp {ex : Nat → Cd → Tm → St → Out} {x : Code} (hx : Runs P ex x) {n : Nat} {tm tm' : Tm} {s s' : St} {e : Ex} {k : Tm → St → Out} (hk : ∀ tm s e tm' s', k tm s = .ok e tm' s' → s.nx.val ≤ s'.nx.val) (h : thenO (ex n (.code x) tm s) k = .ok e tm' s') {a : Act} (hR : Rel B μ (T.get s.hp) w) (hf : Fresh μ s.nx s'.nx) (hT : TmR n μ tm a)
    {Q : Exit → Act → World → Prop} (hQ : ∀ x a' w', Post B μ s w n a.defers e tm' s' x a' w' → Q x a' w') {K : Act → World → Prop}
    (hK : ∀ tm1 s1 μ1 a1 w1, k tm1 s1 = .ok e tm' s' → Rel B μ1 (T.get s1.hp) w1 → Fresh μ1 s1.nx s'.nx → TmR n μ1 tm1 a1 → (∀ x a' w', Post B μ1 s1 w1 n a1.defers e tm' s' x a' w' → Q x a' w') → K a1 w1) : x.wp P (Exit.then K Q) a w := by
  rcases thenO_ok h with ⟨tm1, s1, h1, h2⟩ | ⟨hne, h1⟩
  · have m2 := hk _ _ _ _ _ h2
    refine hx n tm s .nrm tm1 s1 h1 B μ w a _ hR (hf.left m2) hT fun x a1 w1 hp => ?_
    obtain ⟨μ1, p1, p2, p3, p4⟩ := hp
    rcases exR_normal p2 with ⟨-, rfl⟩ | ⟨h, -⟩
    · refine hK tm1 s1 μ1 a1 w1 h2 p1.rel (hf.right p1) (p4 rfl) fun x a2 w2 hp => hQ x a2 w2 ?_
      rw [p3] at hp
      exact hp.trans p1
    · exact absurd rfl h
  · refine hx n tm s e tm' s' h1 B μ w a _ hR hf hT fun x a1 w1 hp => ?_
    have := hQ x a1 w1 hp
    obtain ⟨μ1, p1, p2, -⟩ := hp
    rcases exR_normal p2 with ⟨h, -⟩ | ⟨-, h⟩
    · exact absurd h hne
    · cases x <;> first | exact absurd rfl h | exact this
theorem snd_zero (g : Cg) : Snd P (exec P g 0) 0 :=
  ⟨fun _ _ _ _ _ _ _ h => (by cases h), fun _ _ _ _ _ _ _ h => (by cases h), fun _ _ _ _ _ _ _ h => (by cases h), fun _ _ _ _ _ _ _ _ h => (by cases h)⟩
theorem snd_succ (hN : NoNG P) (hmix : P.follows .mixedOrders = true) {g : Cg} {k : Nat} (hC : CallS P (callA P g (exec P g k))) (S : Snd P (exec P g k) k) : Snd P (exec P g (k + 1)) (k + 1) := by
  have hcm : ∀ n c tm s e tm' s', codeStep c P g (exec P g k) n tm s = .ok e tm' s' → s.nx.val ≤ s'.nx.val := by
    intro n c tm s e tm' s' h
    have same : ∀ {e1 : Ex}, Out.ok e1 tm s = .ok e tm' s' → s.nx.val ≤ s'.nx.val := fun h => by injection h with h1 h2 h3; rw [h3]; exact Nat.le_refl _
    cases c with
    | skip => exact same h
    | label l => exact same h
    | exit id => exact same h
    | goto l => exact same h
    | ret => exact same h
    | region id ops d => exact region_mono hC h
    | seq x y =>
      rcases thenO_ok h with ⟨tm1, s1, h1, h2⟩ | ⟨-, h1⟩
      · exact Nat.le_trans (S.mono _ _ _ _ _ _ _ h1) (S.mono _ _ _ _ _ _ _ h2)
      · exact S.mono _ _ _ _ _ _ _ h1
    | loop x =>
      rcases thenO_ok h with ⟨tm1, s1, h1, h2⟩ | ⟨-, h1⟩
      · exact Nat.le_trans (S.mono _ _ _ _ _ _ _ h1) (S.mono _ _ _ _ _ _ _ h2)
      · exact S.mono _ _ _ _ _ _ _ h1
    | cond x y z =>
      obtain ⟨c, -, h⟩ := condO_ok h
      cases c <;> exact S.mono _ _ _ _ _ _ _ h
    | block id x =>
      rcases blockO_ok h with ⟨-, h⟩ | ⟨h, -⟩ <;> exact S.mono _ _ _ _ _ _ _ h
    | scope x => exact S.mono _ _ _ _ _ _ _ h
    | _ => cases h
  have hm : Mono (exec P g (k + 1)) := by
    intro n d tm s e tm' s' h
    cases d with
    | code c => exact hcm n c tm s e tm' s' h
    | under body c =>
      rcases underO_ok (show underO body (exec P g k n) (exec P g k n (.code c) tm s) = .ok e tm' s' from h) with ⟨l, tm1, s1, rest, h1, -, h2⟩ | ⟨h1, -⟩
      · exact Nat.le_trans (S.mono _ _ _ _ _ _ _ h1) (S.mono _ _ _ _ _ _ _ h2)
      · exact S.mono _ _ _ _ _ _ _ h1
  have hloop : ∀ c, Rounds P (exec P g (k + 1)) (k + 1) c := by
    intro c n tm s e tm' s' h B μ w a Q hR hf hT hQ
    rw [rounds_succ]
    refine then_wp (S.code c) (fun tm s e tm' s' h => S.mono _ _ _ _ _ _ _ h) (show thenO (exec P g k n (.code c) tm s) (exec P g k n (.code (.loop c))) = .ok e tm' s' from h) hR hf hT hQ fun tm1 s1 μ1 a1 w1 h2 hR1 hf1 hT1 hQ1 => ?_
    exact S.loop c n tm1 s1 e tm' s' h2 B μ1 w1 a1 Q hR1 hf1 hT1 hQ1
  have here : ∀ {n tm s a w} {B : Nat} {μ : K → Option Loc}, Rel B μ (T.get s.hp) w → TmR n μ tm a → ∀ {e x}, ExR μ e x → Post B μ s w n a.defers e tm s x a w := fun hR hT _ _ hx => ⟨_, Step.refl hR _, hx, rfl, fun _ => hT⟩
  refine ⟨hm, fun c => ?_, hloop, fun body c => ?_⟩
  · intro n tm s e tm' s' h B μ w a Q hR hf hT hQ
    cases c with
    | skip =>
      injection (show Out.ok .nrm tm s = .ok e tm' s' from h) with h1 h2 h3; subst h1; subst h2; subst h3
      exact wp_skip (hQ _ _ _ (here hR hT trivial))
    | label l =>
      injection (show Out.ok .nrm tm s = .ok e tm' s' from h) with h1 h2 h3; subst h1; subst h2; subst h3
      exact wp_label (hQ _ _ _ (here hR hT trivial))
    | exit id =>
      injection (show Out.ok (.exit id) tm s = .ok e tm' s' from h) with h1 h2 h3; subst h1; subst h2; subst h3
      exact wp_exit (hQ _ _ _ (here hR hT rfl))
    | goto l =>
      injection (show Out.ok (.goto l) tm s = .ok e tm' s' from h) with h1 h2 h3; subst h1; subst h2; subst h3
      exact wp_goto (hQ _ _ _ (here hR hT rfl))
    | ret =>
      injection (show Out.ok .ret tm s = .ok e tm' s' from h) with h1 h2 h3; subst h1; subst h2; subst h3
      exact wp_ret (hQ _ _ _ (here hR hT trivial))
    | region id ops d => exact region_wp hN hmix hC h hR hf hT hQ
    | seq x y =>
      refine wp_seq ?_
      refine then_wp (S.code x) (fun tm s e tm' s' h => S.mono _ _ _ _ _ _ _ h) (show thenO (exec P g k n (.code x) tm s) (exec P g k n (.code y)) = .ok e tm' s' from h) hR hf hT hQ fun tm1 s1 μ1 a1 w1 h2 hR1 hf1 hT1 hQ1 => ?_
      exact S.code y n tm1 s1 e tm' s' h2 B μ1 w1 a1 Q hR1 hf1 hT1 hQ1
    | loop x => exact wp_loop_rounds (k + 1) (hloop x n tm s e tm' s' h B μ w a Q hR hf hT hQ)
    | cond x y z =>
      obtain ⟨c, hc, h⟩ := condO_ok (show condO (ev tm x) (exec P g k n (.code y) tm s) (exec P g k n (.code z) tm s) = .ok e tm' s' from h)
      refine wp_cond (t := c) (conc_bool (hT.ev x _ hc)) ?_
      cases c with
      | true => exact S.code y n tm s e tm' s' h B μ w a Q hR hf hT hQ
      | false => exact S.code z n tm s e tm' s' h B μ w a Q hR hf hT hQ
    | block id x =>
      refine wp_block ?_
      rcases blockO_ok (show blockO id (exec P g k n (.code x) tm s) = .ok e tm' s' from h) with ⟨rfl, hb⟩ | ⟨hb, hne⟩
      · refine S.code x n tm s _ tm' s' hb B μ w a _ hR hf hT fun x a1 w1 hp => ?_
        obtain ⟨μ1, p1, p2, p3, p4⟩ := hp
        cases x with
        | exit j =>
          have p2 : id = j := p2
          subst p2
          simp only [Exit.inBlock, if_true]
          exact hQ _ _ _ ⟨μ1, p1, trivial, p3, fun _ => p4 rfl⟩
        | _ => exact p2.elim
      · refine S.code x n tm s _ tm' s' hb B μ w a _ hR hf hT fun x a1 w1 hp => ?_
        have hq := hQ x a1 w1 hp
        obtain ⟨μ1, p1, p2, p3, p4⟩ := hp
        cases x with
        | exit j =>
          cases e with
          | exit i =>
            have p2 : i = j := p2
            subst p2
            have : i ≠ id := fun e => hne (by rw [e])
            simp only [Exit.inBlock, if_neg this]
            exact hq
          | _ => exact p2.elim
        | _ => exact hq
    | scope x =>
      intro b k' cs
      obtain ⟨e1, a1, w1, q1, q2⟩ := S.under x x n tm s e tm' s' h B μ w a Q hR hf hT hQ b k' cs
      exact ⟨e1, a1, w1, q1, .of_steps (.one step_scope) q2⟩
    | _ => cases h
  · intro n tm s e tm' s' h B μ w a Q hR hf hT hQ b k' cs
    rcases underO_ok (show underO body (exec P g k n) (exec P g k n (.code c) tm s) = .ok e tm' s' from h) with ⟨l, tm1, s1, rest, h1, hl, h2⟩ | ⟨h1, hne⟩
    · have m2 := S.mono _ _ _ _ _ _ _ h2
      obtain ⟨x, a1, w1, ⟨μ1, p1, p2, p3, p4⟩, harr⟩ := S.code c n tm s _ tm1 s1 h1 B μ w a (fun x a' w' => Post B μ s w n a.defers (.goto l) tm1 s1 x a' w') hR (hf.left m2) hT (fun _ _ _ h => h) b (.inScope body :: k') cs
      cases x with
      | goto j =>
        have p2 : l = j := p2
        subst p2
        obtain ⟨e2, a2, w2, q1, q2⟩ := S.under body rest n tm1 s1 e tm' s' h2 B μ1 w1 a1 Q p1.rel (hf.right p1) (p4 rfl) (fun x a2 w2 hp => hQ x a2 w2 (by rw [p3] at hp; exact hp.trans p1)) b k' cs
        exact ⟨e2, a2, w2, q1, .of_steps (harr _ (by simp [gotoIn, hl])) q2⟩
      | _ => exact p2.elim
    · obtain ⟨x, a1, w1, hp, harr⟩ := S.code c n tm s e tm' s' h1 B μ w a (fun x a' w' => Post B μ s w n a.defers e tm' s' x a' w') hR hf hT (fun _ _ _ h => h) b (.inScope body :: k') cs
      have hq := hQ x a1 w1 hp
      obtain ⟨μ1, p1, p2, p3, p4⟩ := hp
      cases x with
      | normal => exact ⟨.normal, a1, w1, hq, Steps.trans harr (.one step_inScope)⟩
      | exit id => exact ⟨.exit id, a1, w1, hq, fun k2 hk => harr k2 (by simp [exitTo, hk])⟩
      | goto l =>
        cases e with
        | goto i => exact absurd rfl (hne i)
        | _ => exact p2.elim
      | ret => exact ⟨_, a1, w1, hq, harr⟩
      | panic ch => exact ⟨_, a1, w1, hq, harr⟩
      | outgrown => exact ⟨_, a1, w1, hq, harr⟩
end Go.Proofs.Ythkkphkeonnnfaa.Abs
