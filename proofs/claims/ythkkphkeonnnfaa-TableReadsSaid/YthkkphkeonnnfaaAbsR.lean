/- An abstract machine over the model's code: a region that draws its order, helpers. No condition but those that each theorem names. -/
import Derived.Test.YthkkphkeonnnfaaAbsQ
namespace Go.Proofs.Ythkkphkeonnnfaa.Abs
open Go
variable {P : Program} {B : Nat} {μ μ' μ0 : K → Option Loc} {H H' H1 H1' H0 : Hp} {w w1 w0 w' : World} {nx nx' N0 N9 na nb : K}

/-- A step of a part of the memory is a step of the whole. -/
def laid (H1' H1 H : Hp) : Hp := fun k => match H1' k with
  | some b => some b
  | none => match H1 k with
    | some _ => none
    | none => H k
theorem laid_some {k : K} {b : Bk} (h : laid H1' H1 H k = some b) : H1' k = some b ∨ (H1' k = none ∧ H1 k = none ∧ H k = some b) := by
  unfold laid at h
  split at h
  · rename_i b' hb'
    injection h with h; subst h; exact .inl hb'
  · rename_i hn
    split at h
    · cases h
    · rename_i hn2
      exact .inr ⟨hn, hn2, h⟩
theorem laid_new {k : K} {b : Bk} (h : H1' k = some b) : laid H1' H1 H k = some b := by unfold laid; rw [h]
theorem laid_old {k : K} (h : H1' k = none) (h2 : H1 k = none) : laid H1' H1 H k = H k := by unfold laid; rw [h, h2]
theorem step_laid (hR : Rel B μ H w) (hs : ∀ k b, H1 k = some b → H k = some b) (hst : Step B μ H1 nx w μ' H1' nx' w') : Step B μ H nx w μ' (laid H1' H1 H) nx' w' := by
  have hloc : ∀ {k b l}, H k = some b → μ' k = some l → μ k = some l := fun {k b l} hb hl => by
    obtain ⟨l0, h0, -⟩ := hR.at_ k b hb
    rw [hst.ext k l0 h0] at hl
    rw [h0]; exact hl
  have hfar : ∀ {k b l}, H k = some b → H1 k = none → μ k = some l → ¬ OwnBlk μ H1 l.blk := fun {k b l} hb hn hl => by
    rintro ⟨i, b', l', hi, ho, hli, e⟩
    by_cases hob : OwnB b
    · have := hR.inj i k b' b l' l (hs i b' hi) hb ho hob hli hl e
      subst this
      rw [hn] at hi; cases hi
    · cases b with
      | view cs =>
        have h1 := hR.view k cs l hb hl
        have h2 := hR.own i b' l' (hs i b' hi) ho hli
        omega
      | cells _ _ _ _ => exact hob trivial
      | mp _ _ => exact hob trivial
  have hsame : ∀ {k b l}, H k = some b → H1 k = none → μ k = some l → w'.heap[l.blk]? = w.heap[l.blk]? := fun hb hn hl => hst.frame _ (hR.lt hb hl) (hfar hb hn hl)
  have hmix : ∀ {i j b c l m}, H1' i = some b → OwnB b → μ' i = some l → H j = some c → H1 j = none → μ' j = some m → l.blk = m.blk → False := fun {i j b c l m} hb ho hl hc hn hm e => by
    have hm := hloc hc hm
    rcases hst.owned l.blk ⟨i, b, l, hb, ho, hl, rfl⟩ with h | h
    · exact hfar hc hn hm (e ▸ h)
    · have := hR.lt hc hm; omega
  refine ⟨hst.ext, hst.new, ⟨fun k b h => ?_, fun k b l h ho hl => ?_, fun k cs l h hl => ?_, fun i j b c l m hb hc ob oc hl hm e => ?_, hst.rel.size⟩, ?_, ?_, hst.size, hst.os, hst.tape, hst.output, hst.nxle⟩
  · rcases laid_some h with h | ⟨-, hn, h⟩
    · exact hst.rel.at_ k b h
    · obtain ⟨l, hl, hb⟩ := hR.at_ k b h
      exact ⟨l, hst.ext k l hl, (hb.mono hst.ext).same (hsame h hn hl)⟩
  · rcases laid_some h with h | ⟨-, hn, h⟩
    · exact hst.rel.own k b l h ho hl
    · exact hR.own k b l h ho (hloc h hl)
  · rcases laid_some h with h | ⟨-, hn, h⟩
    · exact hst.rel.view k cs l h hl
    · exact hR.view k cs l h (hloc h hl)
  · rcases laid_some hb with hb | ⟨-, hbn, hb⟩ <;> rcases laid_some hc with hc | ⟨-, hcn, hc⟩
    · exact hst.rel.inj i j b c l m hb hc ob oc hl hm e
    · exact (hmix hb ob hl hc hcn hm e).elim
    · exact (hmix hc oc hm hb hbn hl e.symm).elim
    · exact hR.inj i j b c l m hb hc ob oc (hloc hb hl) (hloc hc hm) e
  · rintro k ⟨i, b, l, hb, ho, hl, e⟩
    rcases laid_some hb with hb | ⟨-, hbn, hb⟩
    · rcases hst.owned k ⟨i, b, l, hb, ho, hl, e⟩ with ⟨i', b', l', h1, h2, h3, h4⟩ | h
      · exact .inl ⟨i', b', l', hs i' b' h1, h2, h3, h4⟩
      · exact .inr h
    · exact .inl ⟨i, b, l, hb, ho, hloc hb hl, e⟩
  · intro k hk hn
    refine hst.frame k hk fun h => hn ?_
    obtain ⟨i', b', l', h1, h2, h3, h4⟩ := h
    exact ⟨i', b', l', hs i' b' h1, h2, h3, h4⟩
theorem Step.then_ (h : Step B μ0 H0 N0 w0 μ H N9 w) (k : Step B μ H na w μ' H' nb w') (h1 : N0.val ≤ na.val) (h2 : nb.val ≤ N9.val) : Step B μ0 H0 N0 w0 μ' H' N9 w' where
  ext := h.ext.trans k.ext
  new i l e := by
    rcases k.new i l e with e1 | e1
    · exact h.new i l e1
    · exact .inr ⟨Nat.le_trans h1 e1.1, Nat.lt_of_lt_of_le e1.2 h2⟩
  rel := k.rel
  owned j e := by
    rcases k.owned j e with e1 | e1
    · exact h.owned j e1
    · exact .inr (Nat.le_trans h.size e1)
  frame j hj hn := by
    refine (k.frame j (Nat.lt_of_lt_of_le hj h.size) ?_).trans (h.frame j hj hn)
    intro ho
    rcases h.owned j ho with e | e
    · exact hn e
    · omega
  size := Nat.le_trans h.size k.size
  os := k.os.trans h.os
  tape := k.tape.trans h.tape
  output := k.output.trans h.output
  nxle := h.nxle
/-- What one waits for stands ahead of it. -/
theorem waitsFor_binds (rows : List (List Bool)) (j : Nat) : ∀ (es : List Edge) (r : List Bool), waitsFor rows j es = some r → ∀ e ∈ es, Region.binds .any e = true → e.on < j
  | [], r, _, e, he, _ => by cases he
  | x :: es, r, h, e, he, hb => by
    simp only [waitsFor] at h
    split at h
    · rename_i l hl
      rcases List.mem_cons.1 he with rfl | he
      · rw [hb] at h
        simp only at h
        split at h
        · assumption
        · cases h
      · exact waitsFor_binds rows j es l hl e he hb
    · cases h
theorem edges_lt {ops : Array Oper} {rows : List (List Bool)} (hrows : rowsOf [] 0 ops.toList = some rows) {j : Nat} {o : Oper} (ho : ops[j]? = some o) : ∀ e ∈ o.after, Region.binds .any e = true → e.on < j := by
  obtain ⟨-, h2⟩ := rowsOf_get ops.toList [] 0 rows hrows rfl
  obtain ⟨r', hr', hwf⟩ := h2 j o (by rw [Array.getElem?_toList]; exact ho)
  rw [Nat.zero_add] at hwf
  exact fun e he hb => waitsFor_binds rows j _ _ hwf e (by simpa using he) hb
theorem rowsOf_length : ∀ (os : List Oper) (rows : List (List Bool)) (i : Nat) (out : List (List Bool)), rowsOf rows i os = some out → out.length = rows.length + os.length
  | [], rows, i, out, h => by
    injection (show some rows = some out from h) with h; subst h; simp
  | o :: os, rows, i, out, h => by
    simp only [rowsOf] at h
    split at h
    · rw [rowsOf_length os _ _ out h]; simp; omega
    · cases h
theorem waits_lt {ops : Array Oper} {rows : List (List Bool)} (hrows : rowsOf [] 0 ops.toList = some rows) : ∀ (j i : Nat), waits rows j i = true → i < j := by
  intro j
  induction j using Nat.strongRecOn with
  | _ j ih =>
    intro i hw
    obtain ⟨r, hr, hri⟩ := waits_rows hw
    have hlen := rowsOf_length _ _ _ _ hrows
    have hj : j < ops.size := by
      have := (List.getElem?_eq_some_iff.1 hr).1
      simpa [hlen] using this
    obtain ⟨-, h2⟩ := rowsOf_get ops.toList [] 0 rows hrows rfl
    obtain ⟨r', hr', hwf⟩ := h2 j ops[j] (by simp [hj])
    rw [Nat.zero_add] at hr' hwf
    rw [hr] at hr'; injection hr' with hr'; subst hr'
    obtain ⟨e, hmem, hb, hlt, h⟩ := waitsFor_get rows j _ r i hwf hri
    rcases h with rfl | ⟨r2, hr2, hi2⟩
    · exact hlt
    · refine Nat.lt_trans (ih e.on hlt i ?_) hlt
      unfold waits
      rw [getL_eq, hr2]
      simp only [getL_eq, hi2]
/-! ### one operation and the temporaries -/
theorem putK_get {n : Nat} {tm tm' : Tm} {v : AV} {d : Option Tmp} (h : putK none n tm v (fun tm => some tm) d = some tm') : ∀ t, (d ≠ some t → T.get tm' (K.of t) = T.get tm (K.of t)) ∧ (d = some t → T.get tm' (K.of t) = some v ∧ t < n) := by
  intro t
  cases d with
  | none =>
    injection (show some tm = some tm' from h) with h; subst h
    exact ⟨fun _ => rfl, fun e => by cases e⟩
  | some d =>
    have h : @Bool.rec (fun _ => Option Tm) none (some (T.set tm (K.of d) v)) (Nat.ble (Nat.succ d) n) = some tm' := h
    cases hb : Nat.ble (Nat.succ d) n with
    | false => rw [hb] at h; cases h
    | true =>
      rw [hb] at h
      injection h with h; subst h
      refine ⟨fun hne => ?_, fun e => ?_⟩
      · rw [T.get_set, if_neg (fun e => hne (by rw [K.of_inj e]))]
      · injection e with e; subst e
        exact ⟨by rw [T.get_set, if_pos rfl], Nat.le_of_ble_eq_true hb⟩
/-- A block that is made whatever is in memory. -/
theorem flt_inv {call : Nat → List AV → St → CR} {op : Op} (hc : cls P op = .f) {tm : Tm} {s s' : St} {v : AV} (h : opA op P call tm s = .ret v s') : ∃ b, s' = newB s b ∧ opA op P call tm ⟨.e, s.nx⟩ = .ret v (newB ⟨.e, s.nx⟩ b) := by
  cases op with
  | alloc t =>
    have h := ofP_ret (show ofP (opAlloc P t s) = .ret v s' from h)
    have hg : opA (.alloc t) P call tm ⟨.e, s.nx⟩ = ofP (opAlloc P t ⟨.e, s.nx⟩) := rfl
    rw [hg]
    unfold opAlloc at h ⊢
    split at h
    · injection h with h; injection h with h1 h2
      subst h1; subst h2
      exact ⟨_, rfl, rfl⟩
    · cases h
  | makeMap t r =>
    cases r with
    | none =>
      injection (show CR.ret _ _ = CR.ret v s' from h) with h1 h2
      subst h1; subst h2
      exact ⟨_, rfl, rfl⟩
    | some r => cases h
  | call c =>
    obtain ⟨callee, args, ts⟩ := c
    cases callee with
    | builtin b =>
      cases b <;> simp only [cls] at hc <;> first | (cases hc; done) | (split at hc <;> cases hc)
    | _ => cases hc
  | convert t u x =>
    cases hm : cvM P t u <;> simp only [cls, hm] at hc <;> cases hc
  | _ => cases hc
/-- What reads no memory, and a load, leave the memory. -/
theorem still {call : Nat → List AV → St → CR} {op : Op} (hc : cls P op = .p ∨ cls P op = .r) {tm : Tm} {s s' : St} {v : AV} (h : opA op P call tm s = .ret v s') : s' = s := by
  cases op with
  | call c =>
    obtain ⟨callee, args, ts⟩ := c
    cases callee with
    | builtin b =>
      have h : opCall P call ⟨.builtin b, args, ts⟩ tm s = .ret v s' := h
      unfold opCall at h
      split at h
      · rename_i hcal _; cases hcal
      · rename_i hcal _
        have hcal : Callee.builtin b = Callee.builtin _ := hcal
        injection hcal with hcal; subst hcal
        unfold opBuiltin at h
        split at h <;> first | exact (ofO_ret h).2 | (rcases hc with hc | hc <;> simp only [cls] at hc <;> first | (cases hc; done) | (split at hc <;> cases hc)) | cases h
      · cases h
    | _ => rcases hc with hc | hc <;> cases hc
  | makeMap t r => cases r <;> rcases hc with hc | hc <;> cases hc
  | convert t u x =>
    cases hm : cvM P t u with
    | true => rcases hc with hc | hc <;> simp only [cls, hm] at hc <;> cases hc
    | false => exact (ofO_ret (convS_pure hm h)).2
  | _ => first | exact (ofO_ret h).2 | (rcases hc with hc | hc <;> (cases hc; done)) | (cases h; done)
end Go.Proofs.Ythkkphkeonnnfaa.Abs
