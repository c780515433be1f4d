/- An abstract machine over the model's code: a region. No condition but those that each theorem names. -/
import Derived.Test.YthkkphkeonnnfaaAbsV
namespace Go.Proofs.Ythkkphkeonnnfaa.Abs
open Go
variable {P : Program} {B : Nat} {μ μ' : K → Option Loc} {H H' : Hp} {w w1 w' : World} {nx nx' : K}

theorem Rel.drawn (h : Rel B μ H w) (he : w1.heap = w.heap) : Rel B μ H w1 :=
  ⟨fun i b hb => let ⟨l, h1, h2⟩ := h.at_ i b hb; ⟨l, h1, h2.same (by rw [he])⟩, h.own, h.view, h.inj, by rw [he]; exact h.size⟩
theorem Step.drawn (h : Step B μ H nx w1 μ' H' nx' w') (he : w1.heap = w.heap) (h1 : w1.os = w.os) (h2 : w1.tape = w.tape) (h3 : w1.output = w.output) : Step B μ H nx w μ' H' nx' w' :=
  ⟨h.ext, h.new, h.rel, fun k hk => by rw [← he]; exact h.owned k hk, fun k hk hn => by rw [← he]; exact h.frame k (by rw [he]; exact hk) hn, by rw [← he]; exact h.size, h.os.trans h1, h.tape.trans h2, h.output.trans h3, h.nxle⟩
theorem stT_get {tr : List (Tm × St)} {z x : Tm × St} {i : Nat} (h : tr[i]? = some x) : stT tr z i = x := by unfold stT; rw [h]; rfl
theorem stT_end (tr : List (Tm × St)) (z : Tm × St) : stT tr z tr.length = z := by unfold stT; rw [List.getElem?_eq_none (Nat.le_refl _)]; rfl
/-- The line that the checks give. -/
theorem line_of {call : Nat → List AV → St → CR} (hC : CallS P call) {ops : Array Oper} {n : Nat} {rows : List (List Bool)} {tr : List (Tm × St)} {tm9 : Tm} {s9 : St} {q : Nat} (hq : q ≤ ops.size) (hqt : q ≤ tr.length) (hrows : rowsOf [] 0 ops.toList = some rows)
    (hgo : ∀ i o, ops[i]? = some o → i < q → stepO P call ops.toList n o (stT tr (tm9, s9) i).1 (stT tr (tm9, s9) i).2 = .go (stT tr (tm9, s9) (i + 1)).1 (stT tr (tm9, s9) (i + 1)).2)
    (h1 : pairs1 P ops.toList rows 0 ops.toList = true) (h2 : heldAll P ops.toList rows tr s9 0 ops.toList tr = true) (h3 : fltOk P [] ops.toList tr = true) : Line P call ops n rows q (stT tr (tm9, s9)) where
  hC := hC
  le := hq
  rows_ := hrows
  go := hgo
  pairs i j oi oj hij hi hj := by
    have := pairs1_get ops.toList 0 h1 i j oi oj hij (by rw [Array.getElem?_toList]; exact hi) (by rw [Array.getElem?_toList]; exact hj)
    simpa using this
  held r o ho hr hc hw := by
    obtain ⟨t, p, v, e1, e2, e3⟩ := heldAll_get (tm9 := tm9) ops.toList tr 0 h2 r o (by rw [Array.getElem?_toList]; exact ho) (by omega) hc hw
    refine ⟨t, p, v, e1, e2, fun m om hom hm hM w1 w2 => ?_⟩
    rw [Nat.zero_add] at e3
    exact heldBy_get (tm9 := tm9) ops.toList tr 0 e3 m om (by rw [Array.getElem?_toList]; exact hom) (by omega) hM (by rw [Nat.zero_add]; exact w1) (by rw [Nat.zero_add]; exact w2)
  flt f o ho hf hc j hj := by
    have hft : f < tr.length := by omega
    have hjt : j < tr.length := by omega
    obtain ⟨-, e⟩ := fltOk_get ops.toList tr [] h3 f o tr[f] (by rw [Array.getElem?_toList]; exact ho) (List.getElem?_eq_getElem hft) hc
    rw [stT_get (List.getElem?_eq_getElem hft), stT_get (List.getElem?_eq_getElem hjt)]
    exact e j _ hj (List.getElem?_eq_getElem hjt)
theorem inv_first {call : Nat → List AV → St → CR} {ops : Array Oper} {n : Nat} {rows : List (List Bool)} {q : Nat} {st : Nat → Tm × St} (L : Line P call ops n rows q st) {s : St} {tm : Tm} (h0 : st 0 = (tm, s)) (hR : Rel B μ (T.get s.hp) w) {N9 : K} (h9 : s.nx.val ≤ N9.val) {a : Act} (hT : TmR n μ tm a) :
    Inv P B μ s w N9 a.defers ops n q st (Array.replicate ops.size false) 0 (T.get s.hp) μ a w := by
  have hM : ∀ j, (Array.replicate ops.size false).getD j false = false := fun j => by simp only [Array.getD_eq_getD_getElem?, Array.getElem?_replicate]; split <;> rfl
  refine ⟨by simp, fun j o ho hj => ?_, fun j hj => ?_, Nat.zero_le _, fun j o ho hj hm => ?_, fun j o ho hj => by omega, fun i b => ?_, ?_, fun i l hl => .inl hl, rfl, hT.size, fun i hi t ht v hv => ?_⟩
  · rw [hM] at hj; cases hj
  · rw [hM] at hj; cases hj
  · rw [hM]; exact ⟨fun h => by (cases h), fun h => by omega⟩
  · rw [h0]
    refine ⟨.inl, fun h => h.elim id ?_⟩
    rintro ⟨f, -, -, -, h, -⟩
    rw [hM] at h; cases h
  · have := Step.refl hR s.nx
    exact ⟨this.ext, fun i l h => .inl h, hR, this.owned, this.frame, this.size, rfl, rfl, rfl, h9⟩
  · rw [L.tm_between (Nat.zero_le i) hi (fun k o _ hk ho hd => by have := (ht k o ho hd).2 hk; rw [hM] at this; cases this), h0] at hv
    exact hT.at_ t v hv
theorem drawOps_mono {call : Nat → List AV → St → CR} (hC : CallS P call) {ops : List Oper} {n : Nat} {tm tm' : Tm} {s s' : St} {e : Ex} (h : drawOps P call ops n tm s = .ok e tm' s') : s.nx.val ≤ s'.nx.val := by
  have tr_mono : ∀ (l : List Oper) (tm : Tm) (s : St) (tr : List (Tm × St)) (v : Option AV) (tm9 : Tm) (s9 : St), traceA P call ops n l tm s = .ok tr v tm9 s9 → s.nx.val ≤ s9.nx.val := by
    intro l
    induction l with
    | nil =>
      intro tm s tr v tm9 s9 h
      injection (show TR.ok [] none tm s = .ok tr v tm9 s9 from h) with h1 h2 h3 h4; rw [h4]; exact Nat.le_refl _
    | cons o l ih =>
      intro tm s tr v tm9 s9 h
      simp only [traceA] at h
      split at h
      · rename_i tm' s' hst
        split at h
        · rename_i tr' v' tm2 s2 htr
          injection h with h1 h2 h3 h4; subst h4
          exact Nat.le_trans (stepO_mono (v := .nilFunc) hC (.inl hst)) (ih _ _ _ _ _ _ htr)
        · cases h
      · rename_i u s' hst
        injection h with h1 h2 h3 h4; subst h4
        exact stepO_mono (tm' := tm) hC (.inr hst)
      · cases h
  unfold drawOps at h
  split at h
  · rename_i tr v tm9 s9 htr
    have := tr_mono _ _ _ _ _ _ _ htr
    split at h
    · split at h
      · split at h
        · injection h with h1 h2 h3; rw [← h3]; exact this
        · split at h
          · injection h with h1 h2 h3; rw [← h3]; exact this
          · cases h
      · cases h
    · cases h
  · cases h
theorem draw_wp (hN : NoNG P) (hmix : P.follows .mixedOrders = true) {call : Nat → List AV → St → CR} (hC : CallS P call) {ops : Array Oper} {n : Nat} {id : Nat} {tm tm' : Tm} {s s' : St} {e : Ex} {a : Act} (h : drawOps P call ops.toList n tm s = .ok e tm' s') (hR : Rel B μ (T.get s.hp) w) (hf : Fresh μ s.nx s'.nx) (hT : TmR n μ tm a)
    {Q : Exit → Act → World → Prop} (hQ : ∀ x a' w', Post B μ s w n a.defers e tm' s' x a' w' → Q x a' w') : (Code.region id ops true).wp P Q a w := by
  have hmono := drawOps_mono hC h
  refine wp_region_any hmix ?_
  have hR' : Rel B μ (T.get s.hp) { w with drawn := w.drawn + 1 } := hR.drawn rfl
  have hQ' : ∀ x a' w', Post B μ s { w with drawn := w.drawn + 1 } n a.defers e tm' s' x a' w' → Q x a' w' := fun x a' w' ⟨μ', h1, h2⟩ => hQ x a' w' ⟨μ', h1.drawn rfl rfl rfl rfl, h2⟩
  generalize { w with drawn := w.drawn + 1 } = w1 at hR' hQ'
  unfold drawOps at h
  split at h
  case h_2 => cases h
  rename_i tr v tm9 s9 htr
  split at h
  case h_2 => cases h
  rename_i rows hrows
  split at h
  case h_2 => cases h
  rename_i hb
  simp only [Bool.and_eq_true] at hb
  obtain ⟨⟨b1, b2⟩, b3⟩ := hb
  obtain ⟨t1, t2, t3, t4⟩ := trace_get ops.toList tm s tr v tm9 s9 htr
  have hcnt : (Array.replicate ops.size false).toList.count false ≤ ops.size := by simp
  split at h
  · injection h with h1 h2 h3; subst h1; subst h2; subst h3
    have hlen : tr.length = ops.size := by rw [t2 rfl]; simp
    have L : Line P call ops n rows ops.size (stT tr (tm9, s9)) := line_of hC (Nat.le_refl _) (by omega) hrows (fun i o ho hi => t4 i o (by rw [Array.getElem?_toList]; exact ho) (.inr ⟨by omega, rfl⟩)) b1 b2 b3
    have hend : stT tr (tm9, s9) ops.size = (tm9, s9) := by rw [← hlen]; exact stT_end _ _
    have h0 : ∀ j, j ≤ ops.size → s.nx.val ≤ (stT tr (tm9, s9) j).2.nx.val := fun j hj => by
      have := L.nx_le (Nat.zero_le j) hj
      rw [t1] at this; exact this
    refine drawn_ok hN L rfl hf h0 (by rw [hend]) (ds := a.defers) (B := B) (w0 := w1) (fun a' w' hp => hQ' _ _ _ ?_) ops.size _ 0 _ _ a w1 hcnt (inv_first L t1 hR' hmono hT)
    rw [hend] at hp
    exact hp
  · rename_i u
    split at h
    case h_2 => cases h
    rename_i hl
    injection h with h1 h2 h3; subst h1; subst h2; subst h3
    simp only [Bool.and_eq_true] at hl
    obtain ⟨hl1, hl2⟩ := hl
    obtain ⟨p, o, r1, r2, r3⟩ := t3 u rfl
    have hp1 : tr.length - 1 = p := by omega
    rw [hp1] at hl1 hl2
    have ho : ops[p]? = some o := by rw [← Array.getElem?_toList]; exact r2
    rw [getL_eq, r2] at hl2
    have hps : p < ops.size := (Array.getElem?_eq_some_iff.1 ho).1
    have L : Line P call ops n rows p (stT tr (tm9, s9)) := line_of hC (by omega) (by omega) hrows (fun i o ho hi => t4 i o (by rw [Array.getElem?_toList]; exact ho) (.inl (by omega))) b1 b2 b3
    have h0 : ∀ j, j ≤ p → s.nx.val ≤ (stT tr (tm9, s9) j).2.nx.val := fun j hj => by
      have := L.nx_le (Nat.zero_le j) hj
      rw [t1] at this; exact this
    refine drawn_pan hN L ho r3 hl2 (fun j oj hj => ?_) hf h0 (ds := a.defers) (B := B) (w0 := w1) (tm9 := tm9) hQ' ops.size _ 0 _ _ a w1 hcnt (inv_first L t1 hR' hmono hT)
    have := lastAt_get ops.toList 0 hl1 j oj (by rw [Array.getElem?_toList]; exact hj)
    simpa using this
end Go.Proofs.Ythkkphkeonnnfaa.Abs
