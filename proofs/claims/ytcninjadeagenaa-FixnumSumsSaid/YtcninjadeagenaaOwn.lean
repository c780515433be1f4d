/- A row of bytes whose block may bear a conversion's mark: what '[]byte(s)' hands back, what append makes of it, what 'string(b)' reads of it. No condition. -/
import Derived.Test.YtcninjadeagenaaWMore
import Derived.ArgAppend
import Derived.Lib.ConvBytes
namespace Go.Proofs.Ytcninjadeagenaa.Own
open Go.RowKit Go.Proofs.YtcninjadeagenaaW.PrintWords
set_option linter.unusedVariables false

/-- Bytes of the call's own, in a row of type e from block 'base' on; the row's mark lies behind its last cell. -/
def BRow (e : TypeId) (w : World) (base : Nat) (ok : Nat → Prop) (v : Value) (xs : List Int) : Prop :=
  (∀ k, v.ownBlock = some k → ok k) ∧
  ((v = .slice none 0 0 ∧ xs = []) ∨
   ∃ g cap cur fr, v = .slice (some ⟨g, 0, none⟩) xs.length cap ∧ base ≤ g ∧ w.heap[g]? = some (.cells cur e fr) ∧ (fr = (0, 0) ∨ fr = (cap, cap + 1)) ∧ xs.length ≤ cap ∧ cap ≤ maxLen ∧ cur.size = cap ∧ cur.toList.take xs.length = nums .u8 xs)

section
variable {e : TypeId} {w w1 : World} {base : Nat} {ok ok' : Nat → Prop} {v : Value} {xs : List Int}

theorem BRow.mono (h : BRow e w base ok v xs) (hk : ∀ k, ok k → ok' k) : BRow e w base ok' v xs := ⟨fun k hv => hk k (h.1 k hv), h.2⟩
theorem BRow.lt (h : BRow e w base ok v xs) : ∀ k, v.ownBlock = some k → k < w.heap.size := by
  intro k hk
  rcases h.2 with ⟨rfl, _⟩ | ⟨g, cap, cur, fr, rfl, _, hh, _⟩
  · simp [Value.ownBlock] at hk
  · have : g = k := by simpa [Value.ownBlock] using hk
    subst this
    exact blk_lt hh
theorem BRow.base_le (h : BRow e w base ok v xs) : ∀ k, v.ownBlock = some k → base ≤ k := by
  intro k hk
  rcases h.2 with ⟨rfl, _⟩ | ⟨g, cap, cur, fr, rfl, hb, hh, _⟩
  · simp [Value.ownBlock] at hk
  · have : g = k := by simpa [Value.ownBlock] using hk
    subst this
    exact hb
theorem BRow.step (h : BRow e w base ok v xs) (hm : ∀ k, v.ownBlock = some k → k < w.heap.size → w1.heap[k]? = w.heap[k]?) : BRow e w1 base ok v xs := by
  have hlt := h.lt
  obtain ⟨h1, h2⟩ := h
  refine ⟨h1, ?_⟩
  rcases h2 with h2 | ⟨g, cap, cur, fr, rfl, hb, hh, r⟩
  · exact .inl h2
  · exact .inr ⟨g, cap, cur, fr, rfl, hb, (hm g (by simp [Value.ownBlock]) (blk_lt hh)).trans hh, r⟩
theorem BRow.below (h : BRow e w base ok v xs) (hb : Below w.heap.size w w1) : BRow e w1 base ok v xs := h.step fun k _ hk => hb.block k hk
theorem BRow.alloc (h : BRow e w base ok v xs) (o : Obj) : BRow e (w.alloc o) base ok v xs := h.below (below_alloc (Below.refl _ _) o)
theorem BRow.drew (h : BRow e w base ok v xs) : BRow e w.drew base ok v xs := h.below (below_drew (Below.refl _ _))
theorem BRow.drewN (h : BRow e w base ok v xs) (m : Nat) : BRow e (w.drewN m) base ok v xs := h.below (pw_below_drewN (Below.refl _ _) m)

theorem BRow.of_own (h : w.ownsRow base e 1 v xs.length (nums .u8 xs)) (hok : ∀ k, v.ownBlock = some k → ok k) : BRow e w base ok v xs := by
  refine ⟨hok, ?_⟩
  rcases h.2 with ⟨rfl, hn⟩ | ⟨g, cap, cur, rfl, hb, hh, h1, h2, h3, h4⟩
  · exact .inl ⟨rfl, List.eq_nil_of_length_eq_zero hn⟩
  · exact .inr ⟨g, cap, cur, (0, 0), rfl, hb, hh, .inl rfl, h1, h2, by omega, by simpa using h4⟩

/-- '[]byte(s)'. -/
theorem BRow.of_bytes (W : World) (e : TypeId) (s : ByteArray) (hs : s.size ≤ maxLen) (hb : base ≤ W.heap.size) (hok : ok W.heap.size) :
    BRow e (Lib.bytesWorld W e s) base ok (.slice (some ⟨W.heap.size, 0, none⟩) s.size (grownCap W s.size 0 e)) (bytesOf s) := by
  have hge := grownCap_ge W s.size 0 e
  have hle := grownCap_le_maxLen W s.size 0 e hs
  have hcs : (Lib.bytesCells W e s).size = grownCap W s.size 0 e := by
    have : s.data.size = s.size := rfl
    simp [Lib.bytesCells, this]
    omega
  refine ⟨fun k hk => ?_, .inr ⟨W.heap.size, grownCap W s.size 0 e, Lib.bytesCells W e s, _, by rw [bytesOf_length], hb, Lib.bytesWorld_at_new W e s, .inr (by rw [hcs]), by rw [bytesOf_length]; exact hge, hle, hcs, ?_⟩⟩
  · have : W.heap.size = k := by simpa [Value.ownBlock] using hk
    exact this ▸ hok
  · rw [bytesOf_length]
    have hl : (s.data.map fun b => Value.int .u8 b.toNat).toList.length = s.size := by simp
    simp only [Lib.bytesCells, Array.toList_append]
    rw [← hl, List.take_left]
    simp [nums, bytesOf]

/-- 'string(b)'. -/
theorem BRow.string {P : Program} {src dst : TypeId} (h : BRow e w base ok v xs) (hs : P.underlying src = some (.slice e)) (he : P.underlying e = some (.int .u8)) (hd : P.underlying dst = some .string) :
    (convert src dst v).run P w = .ok (.string (strOfNums xs)) w := by
  rcases h.2 with ⟨rfl, rfl⟩ | ⟨g, cap, cur, fr, rfl, hb, hh, _, h1, h2, h3, h4⟩
  · exact run_convert_bytes_nil w src e hs he 0 0 dst hd
  · refine run_convert_bytes_arg w src e hs he g 0 xs.length cap xs rfl (fun i hi => ?_) dst hd
    have hi' : (cur.toList.take xs.length)[i]? = some (.int .u8 (xs.getD i 0)) := by
      rw [h4]; simp [nums, List.getElem?_eq_getElem hi, List.getD_eq_getElem?_getD]
    rw [List.getElem?_take_of_lt hi] at hi'
    have hc : cur[i]? = some (.int .u8 (xs.getD i 0)) := by simpa using hi'
    simp [World.cell?, hh, hc]

end

theorem heap_setCell_at (w : World) {g : Nat} {cur : Array Value} {e : TypeId} {fr : Nat × Nat} (h : w.heap[g]? = some (.cells cur e fr)) (j : Nat) (u : Value) :
    (w.setCell ⟨g, j, none⟩ u).heap[g]? = some (.cells (cur.setIfInBounds j u) e fr) := by
  simp [World.setCell, Array.getElem?_modify, h]

section
variable {P : Program} {ops : Array Oper} {rest : List Oper} {o : Oper} {a : Act} {Q : Exit → Act → World → Prop}
/-- append(v, x), behind 'at_builtin'; the goal's world is 'W.alloc' of the variadic's box. -/
theorem BRow.append {w0 W : World} (base : Nat) (hgd : o.guard = none) (s x : Operand) (t e : TypeId)
    (ho : o.op = .call { callee := .builtin .append, args := #[s, x], argTypes := #[t, t] })
    (ht : P.underlying t = some (.slice e)) (hinfo : (P.info? e).map (fun i => (i.zero, i.size, i.bytes)) = some (some (.int .u8 0), 1, 1))
    (v : Value) (xs : List Int) (y : Int) (ok : Nat → Prop) (hs : a.eval s = v) (hx : a.eval x = .slice (some ⟨W.heap.size, 0, none⟩) 1 1) (hfresh : ∀ k, W.heap.size ≤ k → ok k)
    (HO : BRow e W base ok v xs) (HB : Below base w0 W) (hbase : base ≤ W.heap.size) (hl : xs.length + 1 ≤ 140737488355328)
    (h : ∀ v1 w1, BRow e w1 base ok v1 (xs ++ [y]) → Below base w0 w1 → W.grownBy w1 v.ownBlock → wpList P ops Q rest (a.put o.dst v1) w1) :
    wpList P ops Q (o :: rest) a (W.alloc (.cells #[.int .u8 y] e)) := by
  obtain ⟨i0, hi, hzz⟩ := Option.map_eq_some_iff.1 hinfo
  simp only [Prod.mk.injEq] at hzz
  obtain ⟨hz0, hz1, hz2⟩ := hzz
  have hnew : ∀ (j : Nat) (u : Value), [Value.int .u8 y][j]? = some u → (W.alloc (.cells #[.int .u8 y] e)).cell? ((⟨W.heap.size, 0, none⟩ : Addr).add j) = some u := World.news_of_block (cs := #[.int .u8 y]) (t := e) (fr := (0, 0)) (heap_alloc_new W _)
  have key : ∀ v1 w1, w1.ownsRow (W.alloc (.cells #[.int .u8 y] e)).heap.size e 1 v1 (xs.length + 1) (nums .u8 xs ++ [.int .u8 y]) → (W.alloc (.cells #[.int .u8 y] e)).grownBy w1 none → wpList P ops Q rest (a.put o.dst v1) w1 := by
    intro v1 w1 hown hg
    have hg2 : W.grownBy w1 none := World.grownBy.trans (World.grownBy_alloc W _ _) hg
    have hsz : (W.alloc (.cells #[.int .u8 y] e)).heap.size = W.heap.size + 1 := by simp
    rw [hsz] at hown
    refine h v1 w1 ?_ (HB.grown hg2 hbase (by simp)) ⟨hg2.os, hg2.tape, hg2.output, hg2.size, fun k hk _ => hg2.block k hk (by simp)⟩
    have hn : nums .u8 (xs ++ [y]) = nums .u8 xs ++ [.int .u8 y] := by simp [nums]
    have hown2 : w1.ownsRow base e 1 v1 (xs ++ [y]).length (nums .u8 (xs ++ [y])) := by
      rw [hn, List.length_append, List.length_singleton]
      exact own_weaken hown (by omega)
    exact BRow.of_own hown2 (fun k hk => hfresh k (by have := own_base hown k hk; omega))
  rcases HO.2 with ⟨rfl, rfl⟩ | ⟨g, cap, cur, fr, rfl, hb, hh, hfr, h1, h2, h3, h4⟩
  · refine wpList_append_grows (W.alloc (.cells #[.int .u8 y] e)) hgd s x t ho e i0 (.int .u8 0) 1 1 ht hi hz0 hz1 hz2 rfl (by omega) none 0 0 [] hs (fun _ => ⟨rfl, rfl⟩) rfl (by simp) ⟨W.heap.size, 0, none⟩ 1 1 [.int .u8 y] hx rfl hnew (by simp [Value.oneCell']) (by omega) (by simp [maxLen]) (by omega) (fun v1 w1 a1 a2 => key v1 w1 (by simpa [nums] using a1) a2)
  · have hgne : g ≠ W.heap.size := by have := blk_lt hh; omega
    have hh1 : (W.alloc (.cells #[.int .u8 y] e)).heap[g]? = some (.cells cur e fr) := by rw [heap_alloc_old W _ (blk_lt hh)]; exact hh
    have hcell : ∀ j, j < cap → (W.alloc (.cells #[.int .u8 y] e)).cell? ⟨g, j, none⟩ = cur[j]? := fun j hj => by simp [World.cell?, hh1]
    have hfroz : ∀ j, j < cap → (W.alloc (.cells #[.int .u8 y] e)).frozen? ⟨g, j, none⟩ = false := fun j hj => by
      simp only [World.frozen?, hh1]
      rcases hfr with rfl | rfl
      · simp
      · simp; omega
    refine wpList_append_arg (W.alloc (.cells #[.int .u8 y] e)) hgd s x t ho e i0 (.int .u8 0) 1 1 ht hi hz0 hz1 hz2 rfl (by omega) g 0 xs.length cap (nums .u8 xs) hs (by simp [nums]) ?_ ⟨W.heap.size, 0, none⟩ 1 1 [.int .u8 y] hx rfl hnew (by simp [Value.oneCell']) ?_ (by simp only [maxLen]; omega) (by omega) ?_ (fun _ v1 w1 a1 a2 => key v1 w1 a1 a2)
    · intro j u hj
      have hjl : j < xs.length := by
        rcases Nat.lt_or_ge j xs.length with hq | hq
        · exact hq
        · rw [List.getElem?_eq_none (by rw [nums_length]; exact hq)] at hj; simp at hj
      rw [Nat.zero_add, hcell j (by omega)]
      rw [← h4, List.getElem?_take_of_lt hjl] at hj
      simpa using hj
    · intro hr j hj
      simp at hj
      subst hj
      rw [Nat.zero_add, Nat.mul_one, Nat.add_zero, hcell _ (by omega)]
      refine ⟨?_, hfroz _ (by omega)⟩
      rw [Array.getElem?_eq_getElem (by omega)]
      rfl
    · intro hr
      simp only [World.setCells, Nat.zero_add, Nat.mul_one]
      have hset := heap_setCell_at (W.alloc (.cells #[.int .u8 y] e)) hh1 xs.length (.int .u8 y)
      have hg2 : W.grownBy ((W.alloc (.cells #[.int .u8 y] e)).setCell ⟨g, xs.length, none⟩ (.int .u8 y)) (some g) := by
        refine ⟨rfl, rfl, rfl, by simp [World.setCell], fun k hk hne => ?_⟩
        rw [Below.heap_setCell _ _ _ _ (fun hc => hne (by rw [hc])), heap_alloc_old W _ hk]
      have hown : (Value.slice (some ⟨g, 0, none⟩) xs.length cap).ownBlock = some g := rfl
      refine h _ _ ⟨fun k hk => HO.1 k (by simpa [Value.ownBlock] using hk), .inr ⟨g, cap, _, fr, by simp, hb, hset, hfr, by simpa using hr, h2, by simpa using h3, ?_⟩⟩ (HB.grown hg2 hbase (by intro k hk; injection hk with hk; omega)) hg2
      have hn : nums .u8 (xs ++ [y]) = nums .u8 xs ++ [.int .u8 y] := by simp [nums]
      rw [hn, ← h4, List.length_append, List.length_singleton]
      have hlen : xs.length < cur.toList.length := by simp; omega
      rw [Array.toList_setIfInBounds, List.take_succ_eq_append_getElem (by simpa using hlen)]
      simp [List.take_set_of_le]
end
end Go.Proofs.Ytcninjadeagenaa.Own
