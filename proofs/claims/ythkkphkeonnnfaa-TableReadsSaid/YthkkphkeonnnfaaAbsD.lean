/- An abstract machine over the model's code: what its memory says of the model's. No condition but those that each theorem names. -/
import Derived.Test.YthkkphkeonnnfaaAbsC
namespace Go.Proofs.Ythkkphkeonnnfaa.Abs
open Go

def OwnB : Bk → Prop
  | .view _ => False
  | _ => True
/-- A map's entries. -/
def concE (μ : K → Option Loc) (e : AV × AV × Nat) : Option MapEntry := (conc μ e.1).bind fun k => (conc μ e.2.1).map fun v => { key := k, val := v, born := e.2.2 }
def concEs (μ : K → Option Loc) : List (AV × AV × Nat) → Option (List MapEntry)
  | [] => some []
  | e :: es => (concE μ e).bind fun x => (concEs μ es).map fun xs => x :: xs
/-- No cell that is there is frozen. (Behind them one may be: so the model marks what was made of a string.) -/
def FrOk (n : Nat) (fr : Nat × Nat) : Prop := ∀ k, k < n → ¬ (fr.1 ≤ k ∧ k < fr.2)
theorem FrOk.zero (n : Nat) : FrOk n (0, 0) := fun k _ h => by have := h.2; simp at this
theorem FrOk.behind (n m : Nat) : FrOk n (n, m) := fun k h h1 => by have := h1.1; simp at this; omega
theorem FrOk.frozen {w : World} {b k : Nat} {arr : Array Value} {e : TypeId} {fr : Nat × Nat} (hf : FrOk arr.size fr) (h : w.heap[b]? = some (.cells arr e fr)) (hk : k < arr.size) : w.frozen? ⟨b, k, none⟩ = false := by
  have := hf k hk
  obtain ⟨lo, hi⟩ := fr
  simp only [World.frozen?, h]
  simpa using this
/-- What a block here says of one there. -/
def BR (μ : K → Option Loc) (b : Bk) (l : Loc) (w : World) : Prop := match b with
  | .cells cs e z f => l.base = 0 ∧ ∃ (arr : Array Value) (vs spare : List Value), (∃ fr, w.heap[l.blk]? = some (.cells arr e fr) ∧ FrOk arr.size fr) ∧ concL μ cs = some vs ∧ arr.toList = vs ++ spare ∧ (f = true → spare = []) ∧ arr.size = l.cap * z
  | .view cs => ∃ vs, concL μ cs = some vs ∧ ∀ j v, vs[j]? = some v → w.cell? ⟨l.blk, l.base + j, none⟩ = some v
  | .mp es c => ∃ arr : Array MapEntry, w.heap[l.blk]? = some (.map arr c) ∧ concEs μ es = some arr.toList
abbrev Hp := K → Option Bk
structure Rel (B : Nat) (μ : K → Option Loc) (H : Hp) (w : World) : Prop where
  at_ : ∀ i b, H i = some b → ∃ l, μ i = some l ∧ BR μ b l w
  own : ∀ i b l, H i = some b → OwnB b → μ i = some l → B ≤ l.blk
  view : ∀ i cs l, H i = some (.view cs) → μ i = some l → l.blk < B
  inj : ∀ i j b c l m, H i = some b → H j = some c → OwnB b → OwnB c → μ i = some l → μ j = some m → l.blk = m.blk → i = j
  size : B ≤ w.heap.size
def OwnBlk (μ : K → Option Loc) (H : Hp) (k : Nat) : Prop := ∃ i b l, H i = some b ∧ OwnB b ∧ μ i = some l ∧ l.blk = k
/-- From one state to a later one. -/
structure Step (B : Nat) (μ : K → Option Loc) (H : Hp) (nx : K) (w : World) (μ' : K → Option Loc) (H' : Hp) (nx' : K) (w' : World) : Prop where
  ext : MLe μ μ'
  new : ∀ i l, μ' i = some l → μ i = some l ∨ (nx.val ≤ i.val ∧ i.val < nx'.val)
  rel : Rel B μ' H' w'
  owned : ∀ k, OwnBlk μ' H' k → OwnBlk μ H k ∨ w.heap.size ≤ k
  frame : ∀ k, k < w.heap.size → ¬ OwnBlk μ H k → w'.heap[k]? = w.heap[k]?
  size : w.heap.size ≤ w'.heap.size
  os : w'.os = w.os
  tape : w'.tape = w.tape
  output : w'.output = w.output
  nxle : nx.val ≤ nx'.val
/-- No name from nx on, up to nx', is used. -/
def Fresh (μ : K → Option Loc) (nx nx' : K) : Prop := ∀ i : K, nx.val ≤ i.val → i.val < nx'.val → μ i = none
variable {P : Program} {B : Nat} {μ μ' μ'' : K → Option Loc} {H H' H'' : Hp} {nx nx' nx'' : K} {w w' w'' : World}
theorem MLe.refl (μ : K → Option Loc) : MLe μ μ := fun _ _ h => h
theorem MLe.trans (h : MLe μ μ') (k : MLe μ' μ'') : MLe μ μ'' := fun i l e => k i l (h i l e)
theorem Step.refl (h : Rel B μ H w) (nx : K) : Step B μ H nx w μ H nx w :=
  ⟨MLe.refl μ, fun _ _ h => .inl h, h, fun _ h => .inl h, fun _ _ _ => rfl, Nat.le_refl _, rfl, rfl, rfl, Nat.le_refl _⟩
theorem Step.trans (h : Step B μ H nx w μ' H' nx' w') (k : Step B μ' H' nx' w' μ'' H'' nx'' w'') : Step B μ H nx w μ'' H'' nx'' w'' where
  ext := h.ext.trans k.ext
  new i l e := by
    rcases k.new i l e with e1 | e1
    · rcases h.new i l e1 with e2 | e2
      · exact .inl e2
      · exact .inr ⟨e2.1, Nat.lt_of_lt_of_le e2.2 k.nxle⟩
    · exact .inr ⟨Nat.le_trans h.nxle e1.1, e1.2⟩
  rel := k.rel
  owned j e := by
    rcases k.owned j e with e1 | e1
    · exact h.owned j e1
    · exact .inr (Nat.le_trans h.size e1)
  frame j hj hn := by
    refine (k.frame j (Nat.lt_of_lt_of_le hj h.size) ?_).trans (h.frame j hj hn)
    intro ho
    rcases h.owned j ho with e | e
    · exact hn e
    · omega
  size := Nat.le_trans h.size k.size
  os := k.os.trans h.os
  tape := k.tape.trans h.tape
  output := k.output.trans h.output
  nxle := Nat.le_trans h.nxle k.nxle
theorem Fresh.left (h : Fresh μ nx nx'') (k : nx'.val ≤ nx''.val) : Fresh μ nx nx' := fun i h1 h2 => h i h1 (Nat.lt_of_lt_of_le h2 k)
theorem Fresh.right (h : Fresh μ nx nx'') (s : Step B μ H nx w μ' H' nx' w') : Fresh μ' nx' nx'' := fun i h1 h2 => by
  cases e : μ' i with
  | none => rfl
  | some l =>
    rcases s.new i l e with e1 | e1
    · rw [h i (Nat.le_trans s.nxle h1) h2] at e1; cases e1
    · omega
theorem concEs_mono (h : MLe μ μ') : ∀ (es : List (AV × AV × Nat)) (l : List MapEntry), concEs μ es = some l → concEs μ' es = some l
  | [], _, e => e
  | x :: xs, l, e => by
    simp only [concEs, concE, Option.bind_eq_some_iff, Option.map_eq_some_iff] at e ⊢
    obtain ⟨a, ⟨k, hk, v, hv, e1⟩, as, h2, e2⟩ := e
    exact ⟨a, ⟨k, conc_mono h _ _ hk, v, conc_mono h _ _ hv, e1⟩, as, concEs_mono h xs as h2, e2⟩
theorem BR.mono (h : MLe μ μ') {b : Bk} {l : Loc} (k : BR μ b l w) : BR μ' b l w := by
  cases b with
  | cells cs e z f =>
    obtain ⟨h0, arr, vs, spare, h1, h2, h3⟩ := k
    exact ⟨h0, arr, vs, spare, h1, concL_mono h _ _ h2, h3⟩
  | view cs =>
    obtain ⟨vs, h1, h2⟩ := k
    exact ⟨vs, concL_mono h _ _ h1, h2⟩
  | mp es c =>
    obtain ⟨arr, h1, h2⟩ := k
    exact ⟨arr, h1, concEs_mono h _ _ h2⟩
/-- A block stays where its row stays. -/
theorem BR.same {b : Bk} {l : Loc} (h : w'.heap[l.blk]? = w.heap[l.blk]?) (k : BR μ b l w) : BR μ b l w' := by
  cases b with
  | cells cs e z f =>
    obtain ⟨h0, arr, vs, spare, ⟨fr, h1, hfr⟩, h2⟩ := k
    exact ⟨h0, arr, vs, spare, ⟨fr, h.trans h1, hfr⟩, h2⟩
  | view cs =>
    obtain ⟨vs, h1, h2⟩ := k
    refine ⟨vs, h1, fun j v hv => ?_⟩
    have := h2 j v hv
    unfold World.cell? at this ⊢
    rw [h]
    exact this
  | mp es c =>
    obtain ⟨arr, h1, h2⟩ := k
    exact ⟨arr, h.trans h1, h2⟩
theorem heap_cell {a : Addr} {arr : Array Value} {e : TypeId} {fr : Nat × Nat} (h : w.heap[a.block]? = some (.cells arr e fr)) (hs : a.spot = none) : w.cell? a = arr[a.off]? := by
  unfold World.cell?
  rw [h]
  simp [hs]
/-- The cells of a block that is read. -/
theorem Rel.cells (hR : Rel B μ H w) {i : K} {b : Bk} {cs : List AV} (hb : H i = some b) (hl : rdl b = some cs) :
    ∃ l vs, μ i = some l ∧ concL μ cs = some vs ∧ ∀ j v, vs[j]? = some v → w.cell? ⟨l.blk, l.base + j, none⟩ = some v := by
  obtain ⟨l, hμ, hB⟩ := hR.at_ i b hb
  cases b with
  | cells cs' e z f =>
    injection (show some cs' = some cs from hl) with hl; subst hl
    obtain ⟨h0, arr, vs, spare, ⟨fr, h1, -⟩, h2, h3, -⟩ := hB
    refine ⟨l, vs, hμ, h2, fun j v hj => ?_⟩
    rw [heap_cell (a := ⟨l.blk, l.base + j, none⟩) h1 rfl, h0, ← Array.getElem?_toList, h3, Nat.zero_add, List.getElem?_append_left (by have := (List.getElem?_eq_some_iff.1 hj).1; exact this)]
    exact hj
  | view cs' =>
    injection (show some cs' = some cs from hl) with hl; subst hl
    obtain ⟨vs, h1, h2⟩ := hB
    exact ⟨l, vs, hμ, h1, h2⟩
  | mp es c => cases hl

/-! ### types -/
theorem tsize_run {t : TypeId} {n : Nat} (h : tsize P t = some n) (w : World) : (sizeOf t).run P w = .ok n w := by
  unfold tsize at h
  cases hi : P.info? t with
  | none => rw [hi] at h; cases h
  | some i =>
    rw [hi] at h
    injection h with h
    simp [sizeOf, typeInfo, hi, h]
theorem tagg_agg {t : TypeId} {n : Nat} (h : tagg P t = some (true, n)) (w : World) : (isAgg t).run P w = .ok true w ∧ (sizeOf t).run P w = .ok n w := by
  unfold tagg at h
  cases hu : P.underlying t with
  | none => rw [hu] at h; cases h
  | some d =>
    rw [hu] at h
    cases d <;> try (simp at h; done)
    all_goals
      cases hi : P.info? t with
      | none => simp [hi] at h
      | some i =>
        simp only [hi, Option.some.injEq, Prod.mk.injEq, true_and] at h
        simp [isAgg, underlying, hu, sizeOf, typeInfo, hi, h]
theorem tagg_one {t : TypeId} {n : Nat} (h : tagg P t = some (false, n)) (w : World) : (isAgg t).run P w = .ok false w := by
  unfold tagg at h
  cases hu : P.underlying t with
  | none => rw [hu] at h; cases h
  | some d =>
    rw [hu] at h
    cases d <;> first
      | (simp [isAgg, underlying, hu]; done)
      | (cases hi : P.info? t <;> simp [hi] at h)
theorem pureRun_run {α : Type} : ∀ (m : Sem α) (a : α), pureRun P m = some a → ∀ w, m.run P w = .ok a w
  | .pure a, b, h, w => by
    have h : some a = some b := h
    injection h with h; subst h; rfl
  | .program k, b, h, w => pureRun_run (k P) b h w
  | .load .., _, h, _ => by cases h
  | .store .., _, h, _ => by cases h
  | .new .., _, h, _ => by cases h
  | .shape .., _, h, _ => by cases h
  | .freeze .., _, h, _ => by cases h
  | .frozen .., _, h, _ => by cases h
  | .getObj .., _, h, _ => by cases h
  | .setObj .., _, h, _ => by cases h
  | .choose .., _, h, _ => by cases h
  | .sys .., _, h, _ => by cases h
  | .mark .., _, h, _ => by cases h
  | .halt _, _, h, _ => by cases h
/-! ### what a value is there -/
theorem conc_bool {b : Bool} {c : Value} (h : conc μ (.bool b) = some c) : c = .bool b := by injection (show some (Value.bool b) = some c from h) with h; exact h.symm
theorem conc_int {k : IntKind} {n : Int} {c : Value} (h : conc μ (.int k n) = some c) : c = .int k n := by injection (show some (Value.int k n) = some c from h) with h; exact h.symm
theorem conc_str {s : List Nat} {c : Value} (h : conc μ (.str s) = some c) : c = .string (bytesV s) := by injection (show some (Value.string (bytesV s)) = some c from h) with h; exact h.symm
theorem conc_ptr0 {c : Value} (h : conc μ (.ptr none) = some c) : c = .pointer none := by injection (show some (Value.pointer none) = some c from h) with h; exact h.symm
theorem conc_ptr {i : K} {o : Nat} {c : Value} (h : conc μ (.ptr (some (i, o))) = some c) : ∃ l, μ i = some l ∧ c = .pointer (some (ptrV l o)) := by
  obtain ⟨l, h1, h2⟩ := Option.map_eq_some_iff.1 (show (μ i).map (fun l => Value.pointer (some (ptrV l o))) = some c from h)
  exact ⟨l, h1, h2.symm⟩
theorem conc_slice0 {n : Nat} {k : Cp} {c : Value} (h : conc μ (.slice none n k) = some c) : ∃ m, k = .ex m ∧ c = .slice none n m := by
  cases k with
  | ex m => injection (show some (Value.slice none n m) = some c from h) with h; exact ⟨m, rfl, h.symm⟩
  | own s => cases (show (none : Option Value) = some c from h)
theorem conc_slice {i : K} {o n : Nat} {k : Cp} {c : Value} (h : conc μ (.slice (some (i, o)) n k) = some c) : ∃ l, μ i = some l ∧ n ≤ capV l k ∧ c = .slice (some (ptrV l o)) n (capV l k) := by
  obtain ⟨l, h1, h2⟩ := Option.bind_eq_some_iff.1 (show (μ i).bind (fun l => if n ≤ capV l k then some (Value.slice (some (ptrV l o)) n (capV l k)) else none) = some c from h)
  split at h2
  · rename_i hn
    injection h2 with h2
    exact ⟨l, h1, hn, h2.symm⟩
  · cases h2
theorem conc_slice_mk {i : K} {o n : Nat} {k : Cp} {l : Loc} (h : μ i = some l) (hn : n ≤ capV l k) : conc μ (.slice (some (i, o)) n k) = some (.slice (some (ptrV l o)) n (capV l k)) := by
  simp only [conc, h, Option.bind_some, if_pos hn]
theorem conc_map0 {c : Value} (h : conc μ (.map none) = some c) : c = .map none := by injection (show some (Value.map none) = some c from h) with h; exact h.symm
theorem conc_map {i : K} {c : Value} (h : conc μ (.map (some i)) = some c) : ∃ l, μ i = some l ∧ c = .map (some l.blk) := by
  obtain ⟨l, h1, h2⟩ := Option.map_eq_some_iff.1 (show (μ i).map (fun l => Value.map (some l.blk)) = some c from h)
  exact ⟨l, h1, h2.symm⟩
theorem conc_func {f : Nat} {a b : List AV} {c : Value} (h : conc μ (.func f a b) = some c) : ∃ x y, concL μ a = some x ∧ concL μ b = some y ∧ c = .func (.func f) x.toArray y.toArray := by
  simp only [conc, Option.bind_eq_some_iff, Option.map_eq_some_iff] at h
  obtain ⟨x, h1, y, h2, h3⟩ := h
  exact ⟨x, y, h1, h2, h3.symm⟩
theorem conc_iface {t : Nat} {v : AV} {c : Value} (h : conc μ (.iface t v) = some c) : ∃ x, conc μ v = some x ∧ c = .iface t x := by
  simp only [conc, Option.map_eq_some_iff] at h
  obtain ⟨x, h1, h2⟩ := h
  exact ⟨x, h1, h2.symm⟩
theorem conc_agg {a : List AV} {c : Value} (h : conc μ (.agg a) = some c) : ∃ x, concL μ a = some x ∧ c = .agg x.toArray := by
  simp only [conc, Option.map_eq_some_iff] at h
  obtain ⟨x, h1, h2⟩ := h
  exact ⟨x, h1, h2.symm⟩
theorem conc_agg_mk {a : List AV} {x : List Value} (h : concL μ a = some x) : conc μ (.agg a) = some (.agg x.toArray) := by simp only [conc, h, Option.map_some]
theorem conc_tup {a : List AV} {c : Value} (h : conc μ (.tup a) = some c) : ∃ x, concL μ a = some x ∧ c = .tuple x.toArray := by
  simp only [conc, Option.map_eq_some_iff] at h
  obtain ⟨x, h1, h2⟩ := h
  exact ⟨x, h1, h2.symm⟩
theorem conc_undef : conc μ (.tup []) = some undef := rfl
theorem conc_leaf {v : AV} {c : Value} (h : conc μ v = some c) (hl : v.leaf = true) : c.oneCell' = true := by
  cases v with
  | bool b => rw [conc_bool h]; rfl
  | int k n => rw [conc_int h]; rfl
  | str s => rw [conc_str h]; rfl
  | ptr a => cases a with
    | none => rw [conc_ptr0 h]; rfl
    | some p => obtain ⟨l, -, rfl⟩ := conc_ptr (i := p.1) (o := p.2) h; rfl
  | slice a n k => cases a with
    | none => obtain ⟨m, -, rfl⟩ := conc_slice0 h; rfl
    | some p => obtain ⟨l, -, -, rfl⟩ := conc_slice (i := p.1) (o := p.2) h; rfl
  | map r => cases r with
    | none => rw [conc_map0 h]; rfl
    | some i => obtain ⟨l, -, rfl⟩ := conc_map h; rfl
  | func f a b => obtain ⟨x, y, -, -, rfl⟩ := conc_func h; rfl
  | nilFunc => injection (show some Value.nilFunc = some c from h) with h; rw [← h]; rfl
  | iface t v => obtain ⟨x, -, rfl⟩ := conc_iface h; rfl
  | nilIface => injection (show some Value.nilIface = some c from h) with h; rw [← h]; rfl
  | agg l => cases hl
  | tup l => cases hl
theorem cells_one {c : Value} (h : c.oneCell' = true) : c.cells = #[c] := by
  cases c <;> first | rfl | cases h
theorem parts_conc {v : AV} {c : Value} (h : conc μ v = some c) : concL μ v.parts = some c.cells.toList := by
  by_cases hl : v.leaf = true
  · rw [cells_one (conc_leaf h hl)]
    have : v.parts = [v] := by cases v <;> first | rfl | cases hl
    rw [this]
    simp only [concL, h, Option.bind_some, Option.map_some]
  · cases v with
    | agg l => obtain ⟨x, h1, rfl⟩ := conc_agg h; exact h1
    | tup l => obtain ⟨x, h1, rfl⟩ := conc_tup h; simp only [AV.parts, concL, h, Option.bind_some, Option.map_some]; rfl
    | _ => exact absurd rfl hl
theorem allLeaf_conc : ∀ (l : List AV) (vs : List Value), allLeaf l = true → concL μ l = some vs → ∀ v ∈ vs, v.oneCell' = true
  | [], vs, _, h, v, hv => by
    injection (show some [] = some vs from h) with h; subst h; cases hv
  | x :: xs, vs, hl, h, v, hv => by
    have hl : @Bool.rec (fun _ => Bool) false (allLeaf xs) x.leaf = true := hl
    cases hx : x.leaf with
    | false => rw [hx] at hl; cases hl
    | true =>
      rw [hx] at hl
      simp only [concL, Option.bind_eq_some_iff, Option.map_eq_some_iff] at h
      obtain ⟨c, h1, ds, h2, rfl⟩ := h
      rcases List.mem_cons.1 hv with rfl | hv
      · exact conc_leaf h1 hx
      · exact allLeaf_conc xs ds hl h2 v hv
end Go.Proofs.Ythkkphkeonnnfaa.Abs
