/- An abstract machine over the model's code: each operation comes to what the model's comes to. No condition but those that each theorem names. -/
import Derived.Test.YthkkphkeonnnfaaAbsM
namespace Go.Proofs.Ythkkphkeonnnfaa.Abs
open Go
variable {P : Program} {B : Nat} {μ μ' : K → Option Loc} {H H' : Hp} {w w1 : World}

/-- An operand is what it is said to be. -/
def EvR (μ : K → Option Loc) (tm : Tm) (ρ : Operand → Value) (x : Operand) : Prop := ∀ u, ev tm x = some u → conc μ u = some (ρ x)
def OpsR (μ : K → Option Loc) (tm : Tm) (ρ : Operand → Value) (o : Op) : Prop := ∀ x ∈ o.operands.toList, EvR μ tm ρ x
theorem evs_conc {tm : Tm} {ρ : Operand → Value} : ∀ (l : List Operand) (vs : List AV), (∀ x ∈ l, EvR μ tm ρ x) → evs tm l = some vs → concL μ vs = some (l.map ρ)
  | [], vs, _, h => by injection (show some [] = some vs from h) with h; subst h; rfl
  | x :: xs, vs, hr, h => by
    obtain ⟨v, l, h1, h2, rfl⟩ := cons2_some (show cons2 (ev tm x) (evs tm xs) = some vs from h)
    simp only [concL, hr x (by simp) v h1, evs_conc xs l (fun y hy => hr y (by simp [hy])) h2, Option.bind_some, Option.map_some, List.map_cons]
theorem evParts_conc {tm : Tm} {ρ : Operand → Value} : ∀ (l : List (Nat × Operand)) (ps : List (Nat × AV)), (∀ p ∈ l, EvR μ tm ρ p.2) → evParts tm l = some ps → PartsR μ ps (l.map fun p => (p.1, ρ p.2))
  | [], ps, _, h => by injection (show some [] = some ps from h) with h; subst h; trivial
  | x :: xs, ps, hr, h => by
    obtain ⟨p, l, h1, h2, rfl⟩ := cons2_some (show cons2 (evPart tm x) (evParts tm xs) = some ps from h)
    have h1 : @Option.rec AV (fun _ => Option (Nat × AV)) none (fun v => some (x.1, v)) (ev tm x.2) = some p := h1
    cases hx : ev tm x.2 with
    | none => rw [hx] at h1; cases h1
    | some v =>
      rw [hx] at h1
      injection h1 with h1; subst h1
      exact ⟨rfl, hr x (by simp) v hx, evParts_conc xs l (fun y hy => hr y (by simp [hy])) h2⟩
theorem evO_conc {tm : Tm} {ρ : Operand → Value} {x : Option Operand} {v : Option AV} (hr : ∀ y, x = some y → EvR μ tm ρ y) (h : evO tm x = some v) : ConcO μ v (x.map ρ) := by
  cases x with
  | none => injection (show some none = some v from h) with h; subst h; rfl
  | some y =>
    simp only [evO] at h
    split at h
    · rename_i u hu
      injection h with h; subst h
      exact ⟨ρ y, rfl, hr y rfl u hu⟩
    · cases h
theorem ofO_ret {x : Option AV} {s s' : St} {v : AV} (h : ofO x s = .ret v s') : x = some v ∧ s' = s := by
  cases x with
  | none => cases h
  | some u => injection (show CR.ret u s = CR.ret v s' from h) with h1 h2; exact ⟨by rw [h1], h2.symm⟩
theorem ofP_ret {x : Option (AV × St)} {s' : St} {v : AV} (h : ofP x = .ret v s') : x = some (v, s') := by
  cases x with
  | none => cases h
  | some u => injection (show CR.ret u.1 u.2 = CR.ret v s' from h) with h1 h2; rw [← h1, ← h2]
theorem ofS_ret {x : Option St} {s' : St} {v : AV} (h : ofS x = .ret v s') : x = some s' ∧ v = .tup [] := by
  cases x with
  | none => cases h
  | some u => injection (show CR.ret (.tup []) u = CR.ret v s' from h) with h1 h2; exact ⟨by rw [h2], h1.symm⟩
theorem ofO_pan {x : Option AV} {s s' : St} {v : AV} (h : ofO x s = .pan v s') : False := by cases x <;> cases h
theorem ofP_pan {x : Option (AV × St)} {s' : St} {v : AV} (h : ofP x = .pan v s') : False := by cases x <;> cases h
theorem ofS_pan {x : Option St} {s' : St} {v : AV} (h : ofS x = .pan v s') : False := by cases x <;> cases h
/-- An operation that yields a value in every world. -/
def Yld (P : Program) (ρ : Operand → Value) (o : Oper) (c : Value) : Prop := ∀ w, (execOp ρ o).run P w = .ok (.value c) w
theorem vrun {m : Sem Value} {c : Value} {w w' : World} (h : m.run P w = .ok c w') : (do pure (Next.value (← m)) : Sem Next).run P w = .ok (.value c) w' := by simp [h]
theorem urun {m : Sem Unit} {w w' : World} (h : m.run P w = .ok () w') : (do m; pure Next.skip : Sem Next).run P w = .ok .skip w' := by simp [h]
theorem convS_pure {P : Program} {a b : TypeId} {x : Option AV} {s : St} {r : CR} (hm : cvM P a b = false) (h : opConvS P a b x s = r) : ofO (opConv P a b x) s = r := by
  unfold cvM at hm
  split at hm
  · cases hm
  · cases hm
  · rename_i h1 h2
    unfold opConvS at h
    split at h
    · rename_i e ha _; exact absurd ha (h1 e)
    · rename_i e _ hb; exact absurd hb (h2 e)
    · rename_i e ha _; exact absurd ha (h1 e)
    · rename_i e hb _ _; exact absurd hb (h2 e)
    · exact h
/-- What reads no memory. -/
theorem pure_ok (call : Nat → List AV → St → CR) {tm : Tm} {ρ : Operand → Value} (dst : Option Tmp) (op : Op) (ty : TypeId) (pos : String) (after : Array Edge) (guard : Option (Nat × Bool)) (hc : cls P op = .p) {s s' : St} {v : AV} (h : opA op P call tm s = .ret v s') (hr : OpsR μ tm ρ op) :
    s' = s ∧ ∃ c, conc μ v = some c ∧ Yld P ρ ⟨dst, op, ty, pos, after, guard⟩ c := by
  have mem : ∀ {x : Operand}, x ∈ op.operands.toList → EvR μ tm ρ x := fun hx => hr _ hx
  cases op with
  | move x =>
    obtain ⟨h1, h2⟩ := ofO_ret h
    exact ⟨h2, _, mem (x := x) (by simp [Op.operands]) v h1, fun w => rfl⟩
  | assign x =>
    obtain ⟨h1, h2⟩ := ofO_ret h
    exact ⟨h2, _, mem (x := x) (by simp [Op.operands]) v h1, fun w => rfl⟩
  | pick c a b =>
    obtain ⟨h1, h2⟩ := ofO_ret h
    obtain ⟨g, hg, h1⟩ := opPick_run h1
    have ec := conc_bool (mem (x := c) (by simp [Op.operands]) _ hg)
    refine ⟨h2, if g then ρ a else ρ b, ?_, fun w => by simp [execOp, ec, Go.asBool]⟩
    cases g
    · exact mem (x := b) (by simp [Op.operands]) v h1
    · exact mem (x := a) (by simp [Op.operands]) v h1
  | build t ps =>
    obtain ⟨h1, h2⟩ := ofO_ret h
    obtain ⟨qs, hq, h1⟩ := opBuild_run h1
    have hp := evParts_conc ps.toList qs (fun p hp => mem (x := p.2) (by simp [Op.operands]; exact ⟨p.1, by simpa using hp⟩)) hq
    obtain ⟨d, hd, hrun⟩ := h1 μ (ps.map fun p => (p.1, ρ p.2)) (by simpa using hp)
    exact ⟨h2, d, hd, fun w => vrun (hrun w)⟩
  | nilCheck x =>
    obtain ⟨h1, h2⟩ := ofO_ret h
    obtain ⟨h1, h3⟩ := opNil_run h1
    have hx := mem (x := x) (by simp [Op.operands]) v h1
    refine ⟨h2, _, hx, fun w => ?_⟩
    rcases h3 μ _ hx with ⟨a, e⟩ | ⟨t, y, e⟩ | ⟨f, a, b, e⟩ <;> simp [execOp, e]
  | binOp op t x y u =>
    obtain ⟨h1, h2⟩ := ofO_ret h
    obtain ⟨a, b, ha, hb, h1⟩ := opBin_run h1
    obtain ⟨c, hc, hrun⟩ := h1 μ _ _ (mem (x := x) (by simp [Op.operands]) a ha) (mem (x := y) (by simp [Op.operands]) b hb)
    exact ⟨h2, c, hc, fun w => vrun (hrun w x y)⟩
  | unOp op t x =>
    obtain ⟨h1, h2⟩ := ofO_ret h
    obtain ⟨a, ha, h1⟩ := opUn_run (μ := μ) (P := P) h1
    obtain ⟨c, hc, hrun⟩ := h1 _ (mem (x := x) (by simp [Op.operands]) a ha)
    exact ⟨h2, c, hc, fun w => vrun (hrun w)⟩
  | convert t u x =>
    have hcm : cvM P t u = false := by
      simp only [cls] at hc
      cases hm : cvM P t u with
      | false => rfl
      | true => rw [hm] at hc; cases hc
    obtain ⟨h1, h2⟩ := ofO_ret (convS_pure hcm h)
    obtain ⟨a, ha, h1⟩ := opConv_run (μ := μ) h1
    obtain ⟨c, hc, hrun⟩ := h1 _ (mem (x := x) (by simp [Op.operands]) a ha)
    exact ⟨h2, c, hc, fun w => vrun (hrun w)⟩
  | makeInterface t x =>
    obtain ⟨h1, h2⟩ := ofO_ret h
    obtain ⟨a, ha, h1⟩ := opMkIface_run h1
    obtain ⟨c, hc, hrun⟩ := h1 μ _ (mem (x := x) (by simp [Op.operands]) a ha)
    exact ⟨h2, c, hc, fun w => vrun (hrun w)⟩
  | makeFunc fn a b =>
    obtain ⟨h1, h2⟩ := ofO_ret h
    unfold opMkFunc at h1
    split at h1
    · rename_i f x y hx hy
      injection h1 with h1; subst h1
      have e1 := evs_conc a.toList _ (fun z hz => mem (x := z) (by simp [Op.operands]; exact .inl (by simpa using hz))) hx
      have e2 := evs_conc b.toList _ (fun z hz => mem (x := z) (by simp [Op.operands]; exact .inr (by simpa using hz))) hy
      refine ⟨h2, .func (.func f) (a.map ρ) (b.map ρ), ?_, fun w => vrun rfl⟩
      simp only [conc, e1, e2, Option.bind_some, Option.map_some]
      congr 2 <;> (apply Array.toList_inj.mp; simp)
    · cases h1
  | slice t x lo hi mx =>
    obtain ⟨h1, h2⟩ := ofO_ret h
    obtain ⟨u, lo', hi', mx', hu, hlo, hhi, hmx, h1⟩ := opSlice_run h1
    obtain ⟨d, hd, hrun⟩ := h1 μ _ _ _ _ (mem (x := x) (by simp [Op.operands]) u hu) (evO_conc (fun y hy => mem (x := y) (by simp [Op.operands, hy])) hlo) (evO_conc (fun y hy => mem (x := y) (by simp [Op.operands, hy])) hhi) (evO_conc (fun y hy => mem (x := y) (by simp [Op.operands, hy])) hmx)
    exact ⟨h2, d, hd, fun w => vrun (hrun w)⟩
  | fieldAddr t x f =>
    obtain ⟨h1, h2⟩ := ofO_ret h
    obtain ⟨a, ha, h1⟩ := opFieldAddr_run h1
    obtain ⟨c, hc, hrun⟩ := h1 μ _ (mem (x := x) (by simp [Op.operands]) a ha)
    exact ⟨h2, c, hc, fun w => vrun (hrun w)⟩
  | field t x f =>
    obtain ⟨h1, h2⟩ := ofO_ret h
    obtain ⟨a, ha, h1⟩ := opField_run h1
    obtain ⟨c, hc, hrun⟩ := h1 μ _ (mem (x := x) (by simp [Op.operands]) a ha)
    exact ⟨h2, c, hc, fun w => vrun (hrun w)⟩
  | indexAddr t x i =>
    obtain ⟨h1, h2⟩ := ofO_ret h
    obtain ⟨a, b, ha, hb, h1⟩ := opIndexAddr_run h1
    obtain ⟨c, hc, hrun⟩ := h1 μ _ _ (mem (x := x) (by simp [Op.operands]) a ha) (mem (x := i) (by simp [Op.operands]) b hb)
    exact ⟨h2, c, hc, fun w => vrun (hrun w)⟩
  | index t x i =>
    obtain ⟨h1, h2⟩ := ofO_ret h
    obtain ⟨a, b, ha, hb, h1⟩ := opIndex_run h1
    obtain ⟨c, hc, hrun⟩ := h1 μ _ _ (mem (x := x) (by simp [Op.operands]) a ha) (mem (x := i) (by simp [Op.operands]) b hb)
    exact ⟨h2, c, hc, fun w => vrun (hrun w)⟩
  | extract x i =>
    obtain ⟨h1, h2⟩ := ofO_ret h
    obtain ⟨a, ha, h1⟩ := opExtract_run h1
    obtain ⟨c, hc, hrun⟩ := h1 μ _ (mem (x := x) (by simp [Op.operands]) a ha)
    exact ⟨h2, c, hc, fun w => vrun (hrun w)⟩
  | call c =>
    obtain ⟨callee, args, ts⟩ := c
    cases callee with
    | value f => cases hc
    | invoke r n => cases hc
    | builtin b =>
      have h : opCall P call ⟨.builtin b, args, ts⟩ tm s = .ret v s' := h
      unfold opCall at h
      split at h
      · rename_i hcal _; cases hcal
      · rename_i b' as hcal has
        have hcal : Callee.builtin b = Callee.builtin b' := hcal
        injection hcal with hcal; subst hcal
        have hargs := evs_conc args.toList as (fun z hz => mem (x := z) (by simp [Op.operands, Call.operands]; simpa using hz)) has
        have hex : ∀ (m : Sem Value) (d : Value), (∀ w, m.run P w = .ok d w) → (∀ w, (execOp ρ ⟨dst, .call ⟨.builtin b, args, ts⟩, ty, pos, after, guard⟩).run P w = (do pure (Next.value (← m)) : Sem Next).run P w) → Yld P ρ ⟨dst, .call ⟨.builtin b, args, ts⟩, ty, pos, after, guard⟩ d := fun m d hm he w => (he w).trans (vrun (hm w))
        unfold opBuiltin at h
        split at h
        · cases hc
        · cases hc
        · rename_i x
          obtain ⟨h1, h2⟩ := ofO_ret h
          have hnm : notMap P ts.toList = true := by
            simp only [cls] at hc
            split at hc
            · assumption
            · cases hc
          simp only [concL, Option.bind_eq_some_iff, Option.map_eq_some_iff] at hargs
          obtain ⟨cx, hcx, l0, hl0, hl⟩ := hargs
          injection hl0 with hl0; subst hl0
          have hmap : args.map ρ = #[cx] := by apply Array.toList_inj.mp; rw [Array.toList_map, ← hl]
          refine ⟨h2, ?_⟩
          have key : ∃ d, conc μ v = some d ∧ ∀ w, (Builtin.len_ ts ty #[cx]).run P w = .ok d w := by
            unfold opLen at h1
            split at h1
            case h_2 => cases h1
            rename_i t tl hts
            have e0 : ts = (t :: tl).toArray := by rw [← hts]
            subst e0
            split at h1
            · rename_i s'' hu
              injection h1 with h1; subst h1
              rw [conc_str hcx]
              exact ⟨_, rfl, fun w => by simp [Builtin.len_, run_underlying hu, bytesV_size, goInt]⟩
            · rename_i e a n k hu
              injection h1 with h1; subst h1
              cases a with
              | none => obtain ⟨m, rfl, rfl⟩ := conc_slice0 hcx; exact ⟨_, rfl, fun w => by simp [Builtin.len_, run_underlying hu, goInt]⟩
              | some p => obtain ⟨l, -, -, rfl⟩ := conc_slice (i := p.1) (o := p.2) hcx; exact ⟨_, rfl, fun w => by simp [Builtin.len_, run_underlying hu, goInt]⟩
            · rename_i n e hu
              injection h1 with h1; subst h1
              exact ⟨_, rfl, fun w => by simp [Builtin.len_, run_underlying hu, goInt]⟩
            · rename_i k e hu
              simp [notMap, hu] at hnm
            · rename_i k e i hu
              simp [notMap, hu] at hnm
            · rename_i a hu
              split at h1
              · rename_i n e ha
                injection h1 with h1; subst h1
                exact ⟨_, rfl, fun w => by simp [Builtin.len_, run_underlying hu, run_underlying ha, goInt]⟩
              · cases h1
            · cases h1
          obtain ⟨d, hd, hrun⟩ := key
          exact ⟨d, hd, hex _ d hrun (fun w => by simp [execOp, resolve, invoke, builtin, hmap])⟩
        · rename_i x
          obtain ⟨h1, h2⟩ := ofO_ret h
          simp only [concL, Option.bind_eq_some_iff, Option.map_eq_some_iff] at hargs
          obtain ⟨cx, hcx, l0, hl0, hl⟩ := hargs
          injection hl0 with hl0; subst hl0
          have hmap : args.map ρ = #[cx] := by apply Array.toList_inj.mp; rw [Array.toList_map, ← hl]
          obtain ⟨d, hd, hrun⟩ := opCap_run (ty := ty) h1 hcx
          exact ⟨h2, d, hd, hex _ d hrun (fun w => by simp [execOp, resolve, invoke, builtin, hmap])⟩
        · obtain ⟨h1, h2⟩ := ofO_ret h
          unfold opMM at h1
          split at h1
          · rename_i x r
            simp only [concL, Option.bind_eq_some_iff, Option.map_eq_some_iff] at hargs
            obtain ⟨cx, hcx, l0, hl0, hl⟩ := hargs
            have hmap : args.map ρ = (cx :: l0).toArray := by apply Array.toList_inj.mp; rw [Array.toList_map, ← hl]
            obtain ⟨d, hd, hrun⟩ := foldMM_run (P := P) r x v h1 μ cx l0 hcx hl0
            have hm : ∀ w, (Builtin.min_ ts ty (cx :: l0).toArray).run P w = .ok d w := fun w => by simpa [Builtin.min_] using hrun w
            exact ⟨h2, d, hd, hex _ d hm (fun w => by simp [execOp, resolve, invoke, builtin, hmap])⟩
          · cases h1
        · obtain ⟨h1, h2⟩ := ofO_ret h
          unfold opMM at h1
          split at h1
          · rename_i x r
            simp only [concL, Option.bind_eq_some_iff, Option.map_eq_some_iff] at hargs
            obtain ⟨cx, hcx, l0, hl0, hl⟩ := hargs
            have hmap : args.map ρ = (cx :: l0).toArray := by apply Array.toList_inj.mp; rw [Array.toList_map, ← hl]
            obtain ⟨d, hd, hrun⟩ := foldMM_run (P := P) r x v h1 μ cx l0 hcx hl0
            have hm : ∀ w, (Builtin.max_ ts ty (cx :: l0).toArray).run P w = .ok d w := fun w => by simpa [Builtin.max_] using hrun w
            exact ⟨h2, d, hd, hex _ d hm (fun w => by simp [execOp, resolve, invoke, builtin, hmap])⟩
          · cases h1
        · cases hc
        · cases hc
        · cases h
      · cases h
  | makeMap t r => cases r <;> first | (cases hc; done) | (cases h; done)
  | _ => first | (cases hc; done) | (cases h; done)
/-- What an operation lands at: a value, or nothing (a store). -/
def Lands (P : Program) (B : Nat) (μ : K → Option Loc) (s : St) (w : World) (ρ : Operand → Value) (o : Oper) (v : AV) (s' : St) : Prop :=
  ∃ μ' c w', conc μ' v = some c ∧ Step B μ (T.get s.hp) s.nx w μ' (T.get s'.hp) s'.nx w' ∧ ((execOp ρ o).run P w = .ok (.value c) w' ∨ (c = undef ∧ (execOp ρ o).run P w = .ok .skip w'))
theorem Lands.wp {s s' : St} {o : Oper} {a : Act} {v : AV} {k : Act → World → Prop} {Q : Exit → Act → World → Prop} (h : Lands P B μ s w a.eval o v s') (hk : ∀ μ' c w', conc μ' v = some c → Step B μ (T.get s.hp) s.nx w μ' (T.get s'.hp) s'.nx w' → k (a.put o.dst c) w') : o.wp P a w k Q := by
  obtain ⟨μ', c, w', h1, h2, h3⟩ := h
  have := hk μ' c w' h1 h2
  unfold Oper.wp
  rcases h3 with h3 | ⟨rfl, h3⟩
  · rw [h3]; exact this
  · rw [h3]; exact this
theorem Goes.lands {s s' : St} {ρ : Operand → Value} {o : Oper} {v : AV} {m : Sem Value} (h : Goes P B μ s w m v s') (he : ∀ w, (execOp ρ o).run P w = (do pure (Next.value (← m)) : Sem Next).run P w) : Lands P B μ s w ρ o v s' := by
  obtain ⟨μ', c, w', h1, h2, h3⟩ := h
  exact ⟨μ', c, w', h2, h3, .inl ((he w).trans (vrun h1))⟩
/-- Is an operation a call of a function? -/
def isCall : Op → Bool
  | .call { callee := .value _, .. } => true
  | _ => false
theorem load_lands {s : St} (hR : Rel B μ (T.get s.hp) w) {tm : Tm} {ρ : Operand → Value} {t : TypeId} {a : Operand} (hr : EvR μ tm ρ a) {v : AV} (h : opLoad P t (ev tm a) s = some v) : ∃ c, conc μ v = some c ∧ (Instr.loadAt t (ρ a)).run P w = .ok c w := by
  obtain ⟨p, hp, h⟩ := optK_some h
  obtain ⟨u, hu, hp⟩ := optK_some hp
  have := asPtr_some hp
  subst this
  obtain ⟨cs, hcs, h⟩ := optK_some h
  obtain ⟨b, hb, hbl⟩ := optK_some hcs
  exact loadAt_run hR hb hbl h (hr _ hu)
set_option maxHeartbeats 4000000 in
theorem op_lands (call : Nat → List AV → St → CR) {s s' : St} (hR : Rel B μ (T.get s.hp) w) (hf : Fresh μ s.nx s'.nx) {tm : Tm} {ρ : Operand → Value} (dst : Option Tmp) (op : Op) (ty : TypeId) (pos : String) (after : Array Edge) (guard : Option (Nat × Bool)) (hic : isCall op = false) {v : AV} (h : opA op P call tm s = .ret v s') (hr : OpsR μ tm ρ op) :
    Lands P B μ s w ρ ⟨dst, op, ty, pos, after, guard⟩ v s' := by
  have mem : ∀ {x : Operand}, x ∈ op.operands.toList → EvR μ tm ρ x := fun hx => hr _ hx
  have hf0 : K.succ s.nx = s'.nx → μ s.nx = none := fun e => hf _ (Nat.le_refl _) (by rw [← e, K.val_succ]; omega)
  have pure_ : cls P op = .p → Lands P B μ s w ρ ⟨dst, op, ty, pos, after, guard⟩ v s' := fun hc => by
    obtain ⟨rfl, c, h1, h2⟩ := pure_ok (P := P) call dst op ty pos after guard hc h hr
    exact ⟨μ, c, w, h1, Step.refl hR _, .inl (h2 w)⟩
  cases op with
  | alloc t => exact (opAlloc_goes hR hf0 (ofP_ret h)).lands fun w => rfl
  | box t x =>
    obtain ⟨u, hu, h1⟩ := opBox_goes (P := P) hR hf0 (ofP_ret h)
    exact (h1 _ (mem (x := x) (by simp [Op.operands]) u hu)).lands fun w => rfl
  | buildSlice t n ps =>
    obtain ⟨qs, hq, h1⟩ := opBuildSlice_goes hR hf0 (ofP_ret h)
    have hp := evParts_conc ps.toList qs (fun p hp => mem (x := p.2) (by simp [Op.operands]; exact ⟨p.1, by simpa using hp⟩)) hq
    have hp : PartsR μ qs ((ps.map fun (i, x) => (i, ρ x)).toList) := by rw [Array.toList_map]; exact hp
    have h1 := h1 (ps.map fun (i, x) => (i, ρ x)) hp
    clear hp hq hR hr mem pure_ h
    exact h1.lands fun w => rfl
  | convert t u x =>
    cases hm : cvM P t u with
    | false => exact pure_ (by simp only [cls, hm])
    | true =>
      have h : opConvS P t u (ev tm x) s = .ret v s' := h
      unfold opConvS at h
      split at h
      · rename_i e ha hb
        obtain ⟨h1, rfl⟩ := ofO_ret h
        obtain ⟨y, hy, h1⟩ := opText_run hR ha hb h1
        obtain ⟨d, hd, hrun⟩ := h1 _ (mem (x := x) (by simp [Op.operands]) y hy)
        exact ⟨μ, d, w, hd, Step.refl hR _, .inl (vrun hrun)⟩
      · rename_i e ha hb
        obtain ⟨y, hy, h1⟩ := opBytes_goes (P := P) hR hf0 ha hb (ofP_ret h)
        exact (h1 _ (mem (x := x) (by simp [Op.operands]) y hy)).lands fun w => rfl
      · cases h
      · cases h
      · rename_i h1 h2 h3 h4
        exfalso
        unfold cvM at hm
        split at hm
        · rename_i e ha; first | exact h1 e ha | exact h2 e ha
        · rename_i e hb _; first | exact h1 e hb | exact h2 e hb
        · cases hm
  | load t a =>
    obtain ⟨h1, rfl⟩ := ofO_ret h
    obtain ⟨c, hc, hrun⟩ := load_lands hR (mem (x := a) (by simp [Op.operands])) h1
    exact ⟨μ, c, w, hc, Step.refl hR _, .inl (vrun hrun)⟩
  | store t a x =>
    obtain ⟨h1, rfl⟩ := ofS_ret h
    obtain ⟨p, u, hp, hu, h1⟩ := opStore_goes hR h1
    obtain ⟨w', hrun, hst⟩ := h1 _ _ (mem (x := a) (by simp [Op.operands]) p hp) (mem (x := x) (by simp [Op.operands]) u hu)
    exact ⟨μ, undef, w', rfl, hst, .inr ⟨rfl, urun hrun⟩⟩
  | makeMap t r =>
    obtain ⟨rfl, h1⟩ := opMkMap_goes (P := P) (t := t) hR hf0 h
    exact h1.lands fun w => rfl
  | makeSlice t l c =>
    obtain ⟨u, i, hu, hi, h1⟩ := opMakeSlice_goes hR hf0 (ofP_ret h)
    exact (h1 _ _ (mem (x := l) (by simp [Op.operands]) u hu) (mem (x := c) (by simp [Op.operands]) i hi)).lands fun w => rfl
  | lookup t m k ok =>
    obtain ⟨h1, rfl⟩ := ofO_ret h
    obtain ⟨m', k', hm, hk, h1⟩ := opLookup_run hR h1
    obtain ⟨r, hr', hrun⟩ := h1 _ _ (mem (x := m) (by simp [Op.operands]) m' hm) (mem (x := k) (by simp [Op.operands]) k' hk)
    exact ⟨μ, r, w, hr', Step.refl hR _, .inl (vrun hrun)⟩
  | mapUpdate t m k x =>
    obtain ⟨h1, rfl⟩ := ofS_ret h
    obtain ⟨m', k', x', hm, hk, hx, h1⟩ := opMapUpdate_goes hR h1
    obtain ⟨w', hrun, hst⟩ := h1 _ _ _ (mem (x := m) (by simp [Op.operands]) m' hm) (mem (x := k) (by simp [Op.operands]) k' hk) (mem (x := x) (by simp [Op.operands]) x' hx)
    exact ⟨μ, undef, w', rfl, hst, .inr ⟨rfl, urun hrun⟩⟩
  | call c =>
    obtain ⟨callee, args, ts⟩ := c
    cases callee with
    | value f => cases hic
    | invoke r n =>
      have h : opCall P call ⟨.invoke r n, args, ts⟩ tm s = .ret v s' := h
      unfold opCall at h
      split at h
      · rename_i hcal _; cases hcal
      · rename_i hcal _; cases hcal
      · cases h
    | builtin b =>
      by_cases hcp : cls P (.call ⟨.builtin b, args, ts⟩) = .p
      · exact pure_ hcp
      have h : opCall P call ⟨.builtin b, args, ts⟩ tm s = .ret v s' := h
      unfold opCall at h
      split at h
      · rename_i hcal _; cases hcal
      · rename_i b' as hcal has
        have hcal : Callee.builtin b = Callee.builtin b' := hcal
        injection hcal with hcal; subst hcal
        have hargs := evs_conc args.toList as (fun z hz => mem (x := z) (by simp [Op.operands, Call.operands]; simpa using hz)) has
        have one : ∀ {x : AV}, concL μ [x] = some (args.toList.map ρ) → ∃ cx, conc μ x = some cx ∧ args.map ρ = #[cx] := by
          intro x hargs
          simp only [concL, Option.bind_eq_some_iff, Option.map_eq_some_iff] at hargs
          obtain ⟨cx, hcx, l0, hl0, hl⟩ := hargs
          injection hl0 with hl0; subst hl0
          exact ⟨cx, hcx, by apply Array.toList_inj.mp; rw [Array.toList_map, ← hl]⟩
        have two : ∀ {x y : AV}, concL μ [x, y] = some (args.toList.map ρ) → ∃ cx cy, conc μ x = some cx ∧ conc μ y = some cy ∧ args.map ρ = #[cx, cy] := by
          intro x y hargs
          simp only [concL, Option.bind_eq_some_iff, Option.map_eq_some_iff] at hargs
          obtain ⟨cx, hcx, l0, ⟨cy, hcy, l1, hl1, hl0⟩, hl⟩ := hargs
          injection hl1 with hl1; subst hl1; subst hl0
          exact ⟨cx, cy, hcx, hcy, by apply Array.toList_inj.mp; rw [Array.toList_map, ← hl]⟩
        unfold opBuiltin at h
        split at h
        · rename_i x y
          obtain ⟨cx, cy, hcx, hcy, hmap⟩ := two hargs
          have := opAppend_goes (ty := ty) hR hf0 (ofP_ret h) hcx hcy
          exact this.lands fun w => by simp [execOp, resolve, invoke, builtin, hmap]
        · rename_i x y
          obtain ⟨cx, cy, hcx, hcy, hmap⟩ := two hargs
          have := opCopy_goes (ty := ty) hR (ofP_ret h) hcx hcy
          exact this.lands fun w => by simp [execOp, resolve, invoke, builtin, hmap]
        · rename_i x
          obtain ⟨h1, rfl⟩ := ofO_ret h
          obtain ⟨cx, hcx, hmap⟩ := one hargs
          obtain ⟨d, hd, hrun⟩ := opLen_run (ty := ty) hR h1 hcx
          have hrun : (Builtin.len_ ts ty #[cx]).run P w = .ok d w := by simpa using hrun
          exact ⟨μ, d, w, hd, Step.refl hR _, .inl (by simp [execOp, resolve, invoke, builtin, hmap, hrun])⟩
        · exact absurd rfl hcp
        · exact absurd rfl hcp
        · exact absurd rfl hcp
        · rename_i m k
          obtain ⟨h1, rfl⟩ := ofS_ret h
          obtain ⟨cx, cy, hcx, hcy, hmap⟩ := two hargs
          obtain ⟨w', hrun, hst⟩ := opDelete_goes (ty := ty) hR h1 hcx hcy
          have hrun : (Builtin.delete_ ts ty #[cx, cy]).run P w = .ok (.tuple #[]) w' := by simpa using hrun
          exact ⟨μ, undef, w', rfl, hst, .inl (by simp [execOp, resolve, invoke, builtin, hmap, hrun, undef])⟩
        · rename_i m
          obtain ⟨h1, rfl⟩ := ofS_ret h
          obtain ⟨cx, hcx, hmap⟩ := one hargs
          obtain ⟨w', hrun, hst⟩ := opClear_goes (ty := ty) hR h1 hcx
          have hrun : (Builtin.clear_ ts ty #[cx]).run P w = .ok (.tuple #[]) w' := by simpa using hrun
          exact ⟨μ, undef, w', rfl, hst, .inl (by simp [execOp, resolve, invoke, builtin, hmap, hrun, undef])⟩
        · cases h
      · cases h
  | panic x =>
    have h : opPanic (ev tm x) s = .ret v s' := h
    unfold opPanic at h
    split at h <;> cases h
  | _ => first | exact pure_ rfl | (cases h; done)
end Go.Proofs.Ythkkphkeonnnfaa.Abs
