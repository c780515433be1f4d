/- An abstract machine over the model's code: its operations that write no memory, second part. No condition but those that each theorem names. -/
import Derived.Test.YthkkphkeonnnfaaAbsE
namespace Go.Proofs.Ythkkphkeonnnfaa.Abs
open Go
variable {P : Program} {B : Nat} {μ : K → Option Loc} {H : Hp} {w : World}

/-! ### '==' -/
theorem equal_run {t : TypeId} {d : TypeDesc} (_hu : P.underlying t = some d) {x y : Value} {b : Bool} (h : ∀ n w, (Op.equalIn (n + 1) t x y).run P w = .ok b w) (w : World) : (Op.equal t x y).run P w = .ok b w := h 9999 w
theorem mono0 {v : AV} {c : Value} (h : conc none0 v = some c) : conc μ v = some c := conc_mono (fun _ _ e => by cases e) v c h
theorem eqDeep_run {t : TypeId} {xs ys : List AV} {b : Bool} (h : eqDeep P t (.agg xs) (.agg ys) = some b) {X Y : Value} (hX : conc μ (.agg xs) = some X) (hY : conc μ (.agg ys) = some Y) :
    (∀ w xo yo, (eqGuard .eql t xo yo X Y).run P w = .ok () w) ∧ (∀ w xo yo, (eqGuard .neq t xo yo X Y).run P w = .ok () w) ∧ ∀ w, (Op.equal t X Y).run P w = .ok b w := by
  unfold eqDeep at h
  split at h
  · rename_i X' Y' h1 h2
    have e1 := mono0 (μ := μ) h1
    have e2 := mono0 (μ := μ) h2
    rw [hX] at e1; rw [hY] at e2
    injection e1 with e1; injection e2 with e2
    subst e1; subst e2
    obtain ⟨x, -, rfl⟩ := conc_agg hX
    obtain ⟨y, -, rfl⟩ := conc_agg hY
    split at h
    · rename_i g hg
      have hg := pureRun_run _ _ hg
      exact ⟨fun w _ _ => hg w, fun w _ _ => hg w, pureRun_run _ _ h⟩
    · cases h
  · cases h
theorem eqA_run {t : TypeId} {x y : AV} {b : Bool} (h : eqA P t x y = some b) {X Y : Value} (hX : conc μ x = some X) (hY : conc μ y = some Y) :
    (∀ w xo yo, (do eqGuard .eql t xo yo X Y; binOp .eql t X Y : Sem Value).run P w = .ok (.bool b) w ∧ (do eqGuard .neq t xo yo X Y; binOp .neq t X Y : Sem Value).run P w = .ok (.bool (!b)) w) := by
  intro w xo yo
  unfold eqA at h
  split at h
  case h_1 a c hu =>
    injection h with h; subst h
    rw [conc_bool hX, conc_bool hY]
    have e : (Op.equal t (.bool a) (.bool c)).run P w = .ok (a == c) w := equal_run hu (fun n w => by rw [Op.equalIn]; simp [run_underlying hu]) w
    exact ⟨by simp [eqGuard, binOp, e], by simp [eqGuard, binOp, e]⟩
  case h_2 e c hu =>
    injection h with h; subst h
    rw [conc_ptr0 hX]
    cases c with
    | none =>
      rw [conc_ptr0 hY]
      have e : (Op.equal t (.pointer none) (.pointer none)).run P w = .ok true w := equal_run hu (fun n w => by rw [Op.equalIn]; simp [run_underlying hu]) w
      exact ⟨by simp [eqGuard, binOp, e], by simp [eqGuard, binOp, e]⟩
    | some p =>
      obtain ⟨l, -, rfl⟩ := conc_ptr (i := p.1) (o := p.2) hY
      have e : (Op.equal t (.pointer none) (.pointer (some (ptrV l p.2)))).run P w = .ok false w := equal_run hu (fun n w => by rw [Op.equalIn]; simp [run_underlying hu]) w
      exact ⟨by simp [eqGuard, binOp, e], by simp [eqGuard, binOp, e]⟩
  case h_3 e p hu =>
    injection h with h; subst h
    obtain ⟨l, -, rfl⟩ := conc_ptr (i := p.1) (o := p.2) hX
    rw [conc_ptr0 hY]
    have e : (Op.equal t (.pointer (some (ptrV l p.2))) (.pointer none)).run P w = .ok false w := equal_run hu (fun n w => by rw [Op.equalIn]; simp [run_underlying hu]) w
    exact ⟨by simp [eqGuard, binOp, e], by simp [eqGuard, binOp, e]⟩
  case h_4 e n k c n' k' hu =>
    injection h with h; subst h
    obtain ⟨m, rfl, rfl⟩ := conc_slice0 hX
    cases c with
    | none =>
      obtain ⟨m', rfl, rfl⟩ := conc_slice0 hY
      have e : (Op.equal t (.slice none n m) (.slice none n' m')).run P w = .ok true w := equal_run hu (fun n w => by rw [Op.equalIn]; simp [run_underlying hu]) w
      exact ⟨by simp [eqGuard, binOp, e], by simp [eqGuard, binOp, e]⟩
    | some p =>
      obtain ⟨l, -, -, rfl⟩ := conc_slice (i := p.1) (o := p.2) hY
      have e : (Op.equal t (.slice none n m) (.slice (some (ptrV l p.2)) n' (capV l k'))).run P w = .ok false w := equal_run hu (fun n w => by rw [Op.equalIn]; simp [run_underlying hu]) w
      exact ⟨by simp [eqGuard, binOp, e], by simp [eqGuard, binOp, e]⟩
  case h_5 e p n k n' k' hu =>
    injection h with h; subst h
    obtain ⟨l, -, -, rfl⟩ := conc_slice (i := p.1) (o := p.2) hX
    obtain ⟨m, rfl, rfl⟩ := conc_slice0 hY
    have e : (Op.equal t (.slice (some (ptrV l p.2)) n (capV l k)) (.slice none n' m)).run P w = .ok false w := equal_run hu (fun n w => by rw [Op.equalIn]; simp [run_underlying hu]) w
    exact ⟨by simp [eqGuard, binOp, e], by simp [eqGuard, binOp, e]⟩
  case h_6 kt et c hu =>
    injection h with h; subst h
    rw [conc_map0 hX]
    cases c with
    | none =>
      rw [conc_map0 hY]
      have e : (Op.equal t (.map none) (.map none)).run P w = .ok true w := equal_run hu (fun n w => by rw [Op.equalIn]; simp [run_underlying hu]) w
      exact ⟨by simp [eqGuard, binOp, e], by simp [eqGuard, binOp, e]⟩
    | some p =>
      obtain ⟨l, -, rfl⟩ := conc_map hY
      have e : (Op.equal t (.map none) (.map (some l.blk))).run P w = .ok false w := equal_run hu (fun n w => by rw [Op.equalIn]; simp [run_underlying hu]) w
      exact ⟨by simp [eqGuard, binOp, e], by simp [eqGuard, binOp, e]⟩
  case h_7 kt et p hu =>
    injection h with h; subst h
    obtain ⟨l, -, rfl⟩ := conc_map hX
    rw [conc_map0 hY]
    have e : (Op.equal t (.map (some l.blk)) (.map none)).run P w = .ok false w := equal_run hu (fun n w => by rw [Op.equalIn]; simp [run_underlying hu]) w
    exact ⟨by simp [eqGuard, binOp, e], by simp [eqGuard, binOp, e]⟩
  case h_8 fs xs ys hu =>
    obtain ⟨g1, g2, e⟩ := eqDeep_run h hX hY
    obtain ⟨x, -, rfl⟩ := conc_agg hX
    obtain ⟨y, -, rfl⟩ := conc_agg hY
    exact ⟨by simp [g1, binOp, e], by simp [g2, binOp, e]⟩
  case h_9 n et xs ys hu =>
    obtain ⟨g1, g2, e⟩ := eqDeep_run h hX hY
    obtain ⟨x, -, rfl⟩ := conc_agg hX
    obtain ⟨y, -, rfl⟩ := conc_agg hY
    exact ⟨by simp [g1, binOp, e], by simp [g2, binOp, e]⟩
  case h_10 => cases h
theorem opBin_run {op : BinOp} {t : TypeId} {x y : Option AV} {v : AV} (h : opBin P op t x y = some v) : ∃ a b, x = some a ∧ y = some b ∧ ∀ μ X Y, conc μ a = some X → conc μ b = some Y → ∃ c, conc μ v = some c ∧ ∀ w xo yo, (do eqGuard op t xo yo X Y; binOp op t X Y : Sem Value).run P w = .ok c w := by
  unfold opBin at h
  cases hx : optK asInt x with
  | some p =>
    rw [hx] at h
    obtain ⟨a, ha, ha2⟩ := optK_some hx
    obtain ⟨q, hq, hr⟩ := optK_some h
    obtain ⟨b, hb, hb2⟩ := optK_some hq
    refine ⟨a, b, ha, hb, fun μ X Y hX hY => ?_⟩
    rw [asInt_some ha2] at hX
    rw [asInt_some hb2] at hY
    rw [conc_int hX, conc_int hY]
    obtain ⟨c, hc, -⟩ := intBin_run (P := P) hr t default
    refine ⟨c, hc μ, fun w xo yo => ?_⟩
    obtain ⟨c', hc', hrun⟩ := intBin_run (P := P) hr t w
    have : c' = c := by have := (hc' μ).symm.trans (hc μ); injection this
    subst this
    have hg : (eqGuard op t xo yo (.int p.1 p.2) (.int q.1 q.2)).run P w = .ok () w := by cases op <;> simp [eqGuard]
    simp [hg, hrun]
  | none =>
    rw [hx] at h
    have h : opBin2 P op t x y = some v := h
    clear hx
    unfold opBin2 at h
    split at h
    · rename_i a b _
      refine ⟨_, _, rfl, rfl, fun μ X Y hX hY => ?_⟩
      rw [conc_str hX, conc_str hY]
      obtain ⟨c, hc, -⟩ := strBin_run (P := P) h t default
      refine ⟨c, hc μ, fun w xo yo => ?_⟩
      obtain ⟨c', hc', hrun⟩ := strBin_run (P := P) h t w
      have : c' = c := by have := (hc' μ).symm.trans (hc μ); injection this
      subst this
      have hg : (eqGuard op t xo yo (.string (bytesV a)) (.string (bytesV b))).run P w = .ok () w := by cases op <;> simp [eqGuard]
      simp [hg, hrun]
    · rename_i a b _
      refine ⟨_, _, rfl, rfl, fun μ X Y hX hY => ?_⟩
      unfold binOther at h
      split at h
      · split at h
        · rename_i e he
          injection h with h; subst h
          exact ⟨_, rfl, fun w xo yo => (eqA_run he hX hY w xo yo).1⟩
        · cases h
      · split at h
        · rename_i e he
          injection h with h; subst h
          exact ⟨_, rfl, fun w xo yo => (eqA_run he hX hY w xo yo).2⟩
        · cases h
      · cases h
    · cases h
end Go.Proofs.Ythkkphkeonnnfaa.Abs
