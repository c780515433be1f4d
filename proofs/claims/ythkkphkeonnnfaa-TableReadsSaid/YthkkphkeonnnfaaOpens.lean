/- What the data of a claim is, read as the kinds of the print. No condition but those that each theorem names. -/
import Derived.Test.YthkkphkeonnnfaaWWords
import Derived.ChangeArms
import Derived.DataReads
import Derived.DataElems
namespace Go.Proofs.Ythkkphkeonnnfaa.Opens
open Go Go.RowKit Go.Proofs.YthkkphkeonnnfaaW.PrintWords
variable {H : Type} {enc : TypeId × Value → H} {P : Program} {w : World} {base : Nat} {sp : Nat → Bool} {held : Bool}

/-- Data of type t is of kind d, and such. -/
def Opn (enc : TypeId × Value → H) (P : Program) (w : World) (base : Nat) (sp : Nat → Bool) (held : Bool) {α : Type} (d : Kd α) (t : TypeId) (G : α → Prop) : Prop := ∀ fuel cs x, DataW.trod enc P w base sp held fuel t cs = some x → ∃ v, d.K w v cs ∧ G v
theorem opn_int {t : TypeId} {k : IntKind} (ht : P.underlying t = some (.int k)) : Opn enc P w base sp held (Kd.int k) t (fun n => (Lit.int k n).wf = true) := fun fuel cs x h => by
  obtain ⟨n, rfl, -, hn⟩ := DataW.trod_int ht h
  exact ⟨n, rfl, hn⟩
theorem opn_string {t : TypeId} (ht : P.underlying t = some .string) : Opn enc P w base sp held Kd.string t (fun s => s.size ≤ maxLen) := fun fuel cs x h => by
  obtain ⟨s, rfl, -, hs⟩ := DataW.trod_string ht h
  exact ⟨s, rfl, hs⟩
theorem choose_list {α : Type} {Q : Nat → α → Prop} : ∀ (n : Nat), (∀ i, i < n → ∃ v, Q i v) → ∃ l : List α, l.length = n ∧ ∀ i v, l[i]? = some v → Q i v
  | 0, _ => ⟨[], rfl, fun i v h => by simp at h⟩
  | n + 1, h => by
    obtain ⟨l, h1, h2⟩ := choose_list n (fun i hi => h i (by omega))
    obtain ⟨v, hv⟩ := h n (by omega)
    refine ⟨l ++ [v], by simp [h1], fun i u hu => ?_⟩
    by_cases e : i < n
    · rw [List.getElem?_append_left (by omega)] at hu
      exact h2 i u hu
    · have : i = n := by
        have := (List.getElem?_eq_some_iff.1 hu).1
        simp at this; omega
      subst this
      rw [List.getElem?_append_right (by omega), h1] at hu
      simp at hu
      rw [← hu]; exact hv
theorem cells_get {a : Addr} {n : Nat} {cs : List Value} (h : w.cells? base a n = some cs) : cs.length = n ∧ ∀ i u, cs[i]? = some u → w.cell? (a.add i) = some u := by
  obtain ⟨-, h1, h2⟩ := World.cells?_some h
  exact ⟨h1, fun i u hu => (h2 i (by have := (List.getElem?_eq_some_iff.1 hu).1; omega)).trans hu⟩
theorem opn_slice {α : Type} {d : Kd α} {t e : TypeId} {G : α → Prop} (ht : P.underlying t = some (.slice e)) (hc : P.cellsOf e = d.sz) (hd : Opn enc P w base sp held d e G) : Opn enc P w base sp held (Kd.slice e d) t (fun l => l.length ≤ maxLen ∧ ∀ v ∈ l, G v) := fun fuel cs x h => by
  rcases DataW.trod_slice ht h with ⟨rfl, -⟩ | ⟨a, len, cap, elems, rest, n, -, rfl, -, hb, hl, hm, hel, hat, -⟩
  · exact ⟨[], ⟨none, 0, rfl, Nat.le_refl _, rfl, by simp, fun h => absurd h (by simp)⟩, by simp, fun v hv => by cases hv⟩
  · have hex : ∀ i, i < len → ∃ v, (∃ c, c.length = d.sz ∧ d.K w v c ∧ ∀ j u, c[j]? = some u → w.cell? (a.add (i * d.sz + j)) = some u) ∧ G v := fun i hi => by
      have h1 := hat i hi
      rw [List.getElem?_eq_getElem (by omega)] at h1
      obtain ⟨c, h2, h3⟩ := Option.bind_eq_some_iff.1 h1
      obtain ⟨v, h4, h5⟩ := hd n c _ h3
      obtain ⟨h6, h7⟩ := cells_get h2
      rw [hc] at h6 h7
      refine ⟨v, ⟨c, h6, h4, fun j u hu => ?_⟩, h5⟩
      have := h7 j u hu
      rw [Addr.add_add] at this
      exact this
    obtain ⟨l, hlen, hl2⟩ := choose_list len hex
    subst hlen
    refine ⟨l, ⟨some a, cap, rfl, hl, rfl, by simp only [maxLen] at hm; omega, fun _ => ⟨a, rfl, fun j p hp => (hl2 j p hp).1⟩⟩, by omega, fun v hv => ?_⟩
    obtain ⟨i, hi⟩ := List.getElem?_of_mem hv
    exact (hl2 i v hi).2
theorem opn_iso {α β : Type} {d : Kd α} {t : TypeId} {G : α → Prop} {f : β → α} (g : α → β) (hg : ∀ x, f (g x) = x) (hd : Opn enc P w base sp held d t G) : Opn enc P w base sp held (Kd.iso d f) t (fun y => G (f y)) := fun fuel cs x h => by
  obtain ⟨v, h1, h2⟩ := hd fuel cs x h
  exact ⟨g v, by show d.K w (f (g v)) cs; rw [hg]; exact h1, by show G (f (g v)); rw [hg]; exact h2⟩
/-- Fields one behind another, from place o on. -/
def OpnF (enc : TypeId × Value → H) (P : Program) (w : World) (base : Nat) (sp : Nat → Bool) (held : Bool) {α : Type} (d : Kd α) (fs : List Field) (o : Nat) (G : α → Prop) : Prop := ∀ (n : Nat) (cs : List Value), (∀ f ∈ fs, ∃ x, DataW.trod enc P w base sp held n f.type ((cs.drop f.offset).take (P.cellsOf f.type)) = some x) → ∃ v, d.K w v ((cs.drop o).take d.sz) ∧ G v
theorem opnF_one {α : Type} {d : Kd α} {f : Field} {G : α → Prop} (hd : Opn enc P w base sp held d f.type G) (hs : P.cellsOf f.type = d.sz) : OpnF enc P w base sp held d [f] f.offset G := fun n cs h => by
  obtain ⟨x, hx⟩ := h f (by simp)
  rw [hs] at hx
  exact hd _ _ _ hx
theorem opnF_cons {α β : Type} {d : Kd α} {d' : Kd β} {f : Field} {fs : List Field} {G : α → Prop} {G' : β → Prop} (hd : Opn enc P w base sp held d f.type G) (hs : P.cellsOf f.type = d.sz) {o : Nat} (ho : o = f.offset + d.sz) (h' : OpnF enc P w base sp held d' fs o G') : OpnF enc P w base sp held (Kd.pair d d') (f :: fs) f.offset (fun v => G v.1 ∧ G' v.2) := fun n cs h => by
  obtain ⟨x, hx⟩ := h f (by simp)
  rw [hs] at hx
  obtain ⟨v, h1, h2⟩ := hd _ _ _ hx
  obtain ⟨u, h3, h4⟩ := h' n cs (fun g hg => h g (by simp [hg]))
  refine ⟨(v, u), ⟨_, _, ?_, h1, h3⟩, h2, h4⟩
  show (cs.drop f.offset).take (d.sz + d'.sz) = _
  rw [List.take_add, List.drop_drop, ho]
theorem opn_struct {α : Type} {d : Kd α} {t : TypeId} {fs : Array Field} {G : α → Prop} (ht : P.underlying t = some (.struct fs)) (hs : P.cellsOf t = d.sz) (hd : OpnF enc P w base sp held d fs.toList 0 G) : Opn enc P w base sp held d t G := fun fuel cs x h => by
  obtain ⟨xs, n, -, -, hl, hxl, hf⟩ := DataW.trod_struct ht h
  obtain ⟨v, h1, h2⟩ := hd n cs (fun f hf' => by
    obtain ⟨i, hi⟩ := List.getElem?_of_mem hf'
    have hi' : fs[i]? = some f := by rw [← Array.getElem?_toList]; exact hi
    have hlt : i < xs.length := by have := (Array.getElem?_eq_some_iff.1 hi').1; omega
    exact ⟨xs[i], (hf i f hi').trans (List.getElem?_eq_getElem hlt)⟩)
  refine ⟨v, ?_, h2⟩
  rw [List.drop_zero, List.take_of_length_le (by omega)] at h1
  exact h1
end Go.Proofs.Ythkkphkeonnnfaa.Opens
