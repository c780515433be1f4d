/- Go functions as Lean functions, each with a proof that the Go code comes to just its answers; a part of the proofs of the laws of the family Fixnum. No condition but those that each theorem names. Written by a program of this session (hprint.py). -/
import Derived.Test.YtcninjadeagenaaHFixnumx0
import Derived.Test.YtcninjadeagenaaHFixnumx3
namespace Go.Proofs.Ytcninjadeagenaa.HFixnum
open Go.RowKit Go.Proofs.YtcninjadeagenaaW.PrintWords Go.Proofs.YtcninjadeagenaaW.PrintLast Go.Proofs.YtcninjadeagenaaW.PrintMore
attribute [local go_sem] max2_int min2_int max_two min_two max_three min_three max_four min_four   -- for this text's walks alone
set_option linter.unusedVariables false
set_option linter.unusedSimpArgs false

/-! ### tripwireref00_LentLongs: function 54 -/
/-- The list l, of numbers of kind k (type e), lies in a row of its own, the marks x, y behind it. -/
def Lent (k : IntKind) (e : TypeId) (x y : Int) (w : World) (v : Value) (l : List Int) : Prop :=
  ∃ g cur, v = .slice (some ⟨g, 0, none⟩) l.length (l.length + 2) ∧ w.heap[g]? = some (.cells cur e (0, 0)) ∧ cur.toList = nums k (l ++ [x, y]) ∧ l.length + 2 ≤ 9223372036854775807

theorem Lent.below {k : IntKind} {e : TypeId} {x y : Int} {w w1 : World} {v : Value} {l : List Int} (h : Lent k e x y w v l) (hb : Below w.heap.size w w1) : Lent k e x y w1 v l := by
  obtain ⟨g, cur, h1, h2, h3⟩ := h
  exact ⟨g, cur, h1, blk_below h2 hb, h3⟩

theorem Lent.alloc {k : IntKind} {e : TypeId} {x y : Int} {w : World} {v : Value} {l : List Int} (h : Lent k e x y w v l) (o : Obj) : Lent k e x y (w.alloc o) v l := h.below (below_alloc (Below.refl _ _) o)
theorem Lent.drewN {k : IntKind} {e : TypeId} {x y : Int} {w : World} {v : Value} {l : List Int} (h : Lent k e x y w v l) (m : Nat) : Lent k e x y (w.drewN m) v l := h.below (pw_below_drewN (Below.refl _ _) m)
theorem Lent.drew {k : IntKind} {e : TypeId} {x y : Int} {w : World} {v : Value} {l : List Int} (h : Lent k e x y w v l) : Lent k e x y w.drew v l := h.below (below_drew (Below.refl _ _))

/-- What is lent, its room too, is read as the list with its marks. -/
theorem Lent.reads {k : IntKind} {e : TypeId} {x y : Int} {w : World} {l : List Int} {A : Option Addr} {n c : Nat} (h : Lent k e x y w (.slice A n c) l) :
    n = l.length ∧ c = l.length + 2 ∧ Kd.C (Kd.int k) w A (l ++ [x, y]).length (l ++ [x, y]) := by
  obtain ⟨g, cur, h1, h2, h3, h4⟩ := h
  injection h1 with hA hn hc
  refine ⟨hn, hc, rfl, by simpa using h4, fun _ => ⟨⟨g, 0, none⟩, hA, fun j p hj => ⟨[.int k p], rfl, rfl, fun i u hu => ?_⟩⟩⟩
  obtain ⟨rfl, rfl⟩ : i = 0 ∧ u = .int k p := by
    rcases i with _ | i
    · simpa [eq_comm] using hu
    · simp at hu
  have hc2 : cur.toList[j]? = some (.int k p) := by rw [h3, nums, List.getElem?_map, hj]; rfl
  have hc3 : cur[j]? = some (.int k p) := by simpa using hc2
  rw [Addr.add_lit]
  simp [Kd.int, Kd.scalar, World.cell?, h2, hc3]

/-- The cells of a list of numbers that is read. -/
theorem C_cells {k : IntKind} {w : World} {A : Option Addr} {n : Nat} {l : List Int} (h : (Kd.int k).C w A n l) :
    (A = none → n = 0) ∧ ∀ ad, A = some ad → ∀ j u, (nums k l)[j]? = some u → w.cell? (ad.add j) = some u := by
  refine ⟨fun hA => ?_, fun ad hA j u hj => ?_⟩
  · rcases Nat.eq_zero_or_pos n with h0 | h0
    · exact h0
    · obtain ⟨ad, e, _⟩ := h.2.2 h0
      rw [hA] at e
      cases e
  · rw [nums, List.getElem?_map] at hj
    obtain ⟨p, hp, rfl⟩ := Option.map_eq_some_iff.1 hj
    have hjl : j < l.length := by
      rcases Nat.lt_or_ge j l.length with hq | hq
      · exact hq
      · rw [List.getElem?_eq_none hq] at hp; cases hp
    obtain ⟨ad', e, hc⟩ := h.2.2 (by have := h.1; omega)
    rw [hA] at e
    injection e with e
    subst e
    obtain ⟨c, _, hR, hcell⟩ := hc j p hp
    have hR' : c = [.int k p] := hR
    subst hR'
    have := hcell 0 _ rfl
    simpa [Kd.int, Kd.scalar] using this

section
variable {P : Program} {ops : Array Oper} {rest : List Oper} {o : Oper} {a : Act} {Q : Exit → Act → World → Prop}
/-- append into the room of a row of one's own. -/
theorem wpList_append_fill {W : World} (hgd : o.guard = none) (s x : Operand) (t e : TypeId) (z : Value) (bytes : Nat)
    (ho : o.op = .call { callee := .builtin .append, args := #[s, x], argTypes := #[t, t] })
    (ht : P.underlying t = some (.slice e)) (hinfo : (P.info? e).map (fun i => (i.zero, i.size, i.bytes)) = some (some z, 1, bytes))
    (g n cap m : Nat) (cur : Array Value) (hg : W.heap[g]? = some (.cells cur e (0, 0))) (hcap : cur.size = cap)
    (A : Option Addr) (c : Nat) (news : List Value) (hm : news.length = m) (hs : a.eval s = .slice (some ⟨g, 0, none⟩) n cap) (hx : a.eval x = .slice A m c)
    (hA : A = none → m = 0) (hnews : ∀ ad, A = some ad → ∀ j u, news[j]? = some u → W.cell? (ad.add j) = some u)
    (h1 : ∀ u ∈ news, u.oneCell' = true) (hroom : n + m ≤ cap)
    (h : ∀ w1 cur', W.grownBy w1 (some g) → w1.heap[g]? = some (.cells cur' e (0, 0)) → cur'.size = cap → cur'.toList = cur.toList.take n ++ news ++ cur.toList.drop (n + m) → wpList P ops Q rest (a.put o.dst (.slice (some ⟨g, 0, none⟩) (n + m) cap)) w1) :
    wpList P ops Q (o :: rest) a W := by
  obtain ⟨i0, hi, hzz⟩ := Option.map_eq_some_iff.1 hinfo
  simp only [Prod.mk.injEq] at hzz
  obtain ⟨hz0, hz1, hz2⟩ := hzz
  have hrun : ∃ w1 cur', (Builtin.append_ #[t, t] o.type #[.slice (some ⟨g, 0, none⟩) n cap, .slice A m c]).run P W = .ok (.slice (some ⟨g, 0, none⟩) (n + m) cap) w1 ∧ W.grownBy w1 (some g) ∧ w1.heap[g]? = some (.cells cur' e (0, 0)) ∧ cur'.size = cap ∧ cur'.toList = cur.toList.take n ++ news ++ cur.toList.drop (n + m) := by
    rcases A with _ | ad
    · obtain rfl := hA rfl
      obtain rfl : news = [] := List.eq_nil_of_length_eq_zero hm
      refine ⟨W, cur, ?_, World.grownBy.refl W _, hg, hcap, by simp⟩
      have hnc : n ≤ cap := by omega
      simp [Builtin.append_, run_underlying ht, sizeOf, typeInfo, hi, Builtin.lenOf, Builtin.firstCells, hnc, storeCells]
    · have hcell : ∀ j, j < news.length → (W.cell? ⟨g, 0 + n * i0.size + j, none⟩).isSome = true := by
        intro j hj
        have hlt : 0 + n * i0.size + j < cur.size := by rw [hz1]; omega
        simp [World.cell?, hg]
        omega
      have hfr : ∀ j, j < news.length → W.frozen? ⟨g, 0 + n * i0.size + j, none⟩ = false := by
        intro j hj
        simp [World.frozen?, hg]
      have hrun := run_append_room_cells (P := P) W t o.type e i0 ht hi g 0 n cap ad m c news (by rw [hz1]; omega) (hnews ad rfl) h1 hroom hcell hfr
      obtain ⟨cur', k1, k2, k3⟩ := setCells_row news (0 + n * i0.size) W cur hg (by rw [hz1]; omega)
      obtain ⟨s1, s2, s3, s4⟩ := setCells_same g news (0 + n * i0.size) W
      refine ⟨_, cur', hrun, ⟨s1, s2, s3, by omega, fun k hk hne => setCells_far news _ k (fun hc => hne (by rw [hc]))⟩, k1, by omega, ?_⟩
      rw [k3, hz1]
      simp [hm]
  obtain ⟨w1, cur', hr, hg1, hh, hsz, hl⟩ := hrun
  refine wpList_plain hgd fun K hK => ?_
  unfold Oper.wp execOp
  simp only [ho, resolve, invoke, builtin, Sem.run_bind, Sem.run_pure, Result.andThen_ok, List.map_toArray, List.map_cons, List.map_nil, hs, hx, hr]
  exact hK _ _ (h w1 cur' hg1 hh hsz hl)
end
def tripwireref00_LentLongs.f (l0 : List Int) : Option (List Int) := if (l0.length : Int) ≤ 17592186044415 then some l0 else none
set_option maxHeartbeats 8000000 in
set_option maxRecDepth 100000 in
theorem tripwireref00_LentLongs.calls (A0 : Option Addr) (c0 : Nat) (l0 : List Int) (r : List Int) (w : World) (hr0 : Kd.C (Kd.int .i64) w A0 l0.length l0) (hc0 : l0.length ≤ c0) (h : tripwireref00_LentLongs.f l0 = some r) :
    Calls Try.prog 54 #[.slice A0 l0.length c0] w fun e w' => ∃ v0, e = .returned v0 ∧ Kd.R (Kd.int .i64) 2 w' w.heap.size (fun _ => True) v0 r ∧ Below w.heap.size w w' ∧ Lent .i64 2 (-771) (-772) w' v0 r := by
  have HR0 := Aside0.mk hr0
  clear hr0 hc0
  by_cases hs : (l0.length : Int) ≤ 17592186044415
  · rw [tripwireref00_LentLongs.f, if_pos hs] at h
    obtain rfl := Option.some.inj h
    clear h
    obtain ⟨i0, hi, hzz⟩ := Option.map_eq_some_iff.1 info2
    simp only [Prod.mk.injEq] at hzz
    obtain ⟨hz0, hz1, hz2⟩ := hzz
    have hmk : ∀ W : World, (Instr.makeSlice 56 (.int .i64 0) (.int .i64 ((l0.length : Int) + 2))).run Try.prog W = .ok (.slice (some ⟨W.heap.size, 0, none⟩) 0 (l0.length + 2)) (W.alloc (.cells (madeCells #[.int .i64 0] (l0.length + 2)) 2)) := by
      intro W
      have hq := run_make (P := Try.prog) W 56 2 i0 (.int .i64 0) Try.underlying56 hi hz0 .i64 .i64 0 ((l0.length : Int) + 2) (by omega) (by omega) (by rw [hz2]; omega) (by omega)
      have hq2 : ((l0.length : Int) + 2).toNat = l0.length + 2 := by omega
      rw [hq2, hz1, Nat.mul_one] at hq
      exact hq
    have hsz : (madeCells #[Value.int .i64 0] (l0.length + 2)).size = l0.length + 2 := by rw [size_madeCells]
    have hcl := C_cells (k := .i64) (Kd.C_alloc HR0.out (.cells (madeCells #[.int .i64 0] (l0.length + 2)) 2))
    have hblk := heap_alloc_new w (.cells (madeCells #[.int .i64 0] (l0.length + 2)) 2)
    have LM := Aside0.mk hs
    have MK := Aside0.mk hmk
    clear hs hz0 hz1 hz2 hi hmk
    have hw : wrap64 ((l0.length : Int) + 2) = (l0.length : Int) + 2 := by have := LM.out; unfold wrap64; omega
    have HW := Aside0.mk hw
    have hmk := MK.out
    rw [← hw] at hmk
    clear hw
    go_enter Try.func54, Try.ntmps54
    go_wp2_with (first
      | ((with_reducible refine gate_builtin (b := .append) (xs := #[.tmp 8, .tmp 9]) rfl ?_); at_builtin
         refine wpList_append_fill rfl (.tmp 8) (.tmp 9) 56 2 (.int .i64 0) 8 rfl Try.underlying56 info2 w.heap.size 0 (l0.length + 2) l0.length _ hblk hsz A0 c0 (nums .i64 l0) (by simp [nums]) rfl rfl hcl.1 hcl.2 (by intro u hu; simp only [nums, List.mem_map] at hu; obtain ⟨q, _, rfl⟩ := hu; rfl) (by omega) ?_
         intro w1 cur1 hg1 hh1 hs1 hc1
         have G1 := Aside0.mk hg1; have S1 := Aside0.mk hs1; have C1 := Aside0.mk hc1; have B1 := Aside0.mk hh1
         clear hg1 hs1 hc1 hh1)
      | ((with_reducible refine gate_builtin (b := .append) (xs := #[.tmp 11, .tmp 12]) rfl ?_); at_builtin
         refine wpList_append_fill rfl (.tmp 11) (.tmp 12) 56 2 (.int .i64 0) 8 rfl Try.underlying56 info2 w.heap.size l0.length (l0.length + 2) 2 cur1 (blk_alloc B1.out _) S1.out (some ⟨w1.heap.size, 0, none⟩) 2 [.int .i64 (-771), .int .i64 (-772)] rfl rfl rfl (by intro hx_; cases hx_) (fun ad hx_ => by injection hx_ with hx_; subst hx_; exact World.news_of_block (cs := #[.int .i64 (-771), .int .i64 (-772)]) (t := 2) (fr := (0, 0)) (heap_alloc_new w1 _)) (by simp [Value.oneCell']) (by omega) ?_
         intro w2 cur2 hg2 hh2 hs2 hc2
         have G2 := Aside0.mk hg2; have S2 := Aside0.mk hs2; have C2 := Aside0.mk hc2; have B2 := Aside0.mk hh2
         clear hg2 hs2 hc2 hh2))
    go_ret
    have hl1 : cur1.toList.take l0.length = nums .i64 l0 := by
      rw [C1.out]
      have : (nums .i64 l0).length = l0.length := by simp [nums]
      simp [← this]
    have hl2 : cur1.toList.drop (l0.length + 2) = [] := List.drop_eq_nil_of_le (by have := S1.out; simp; omega)
    have hc2 : cur2.toList = nums .i64 (l0 ++ [(-771), (-772)]) := by
      rw [C2.out, hl1, hl2]
      simp [nums]
    have hl3 : cur2.toList.take l0.length = nums .i64 l0 := by
      rw [hc2]
      have : (nums .i64 l0).length = l0.length := by simp [nums]
      simp [nums]
    have hm := LM.out
    have hb1 : Below w.heap.size w w1 := (below_alloc (Below.refl _ _) _).grown G1.out (by simp) (by intro k hk; injection hk with hk; omega)
    have hb2 : Below w.heap.size w w2 := (below_alloc hb1 _).grown G2.out (by have := hb1.size; simp; omega) (by intro k hk; injection hk with hk; omega)
    refine ⟨_, rfl, Kd.R_of_own (h1 := fun _ => rfl) (ok := fun _ => True) ?_ (fun _ _ => trivial), hb2, w.heap.size, cur2, rfl, B2.out, hc2, by omega⟩
    exact ⟨by simp [encs], .inr ⟨w.heap.size, l0.length + 2, cur2, rfl, Nat.le_refl _, B2.out, by omega, by simp only [maxLen]; omega, by simpa using S2.out, by simpa [encs, nums] using hl3⟩⟩
  · rw [tripwireref00_LentLongs.f, if_neg hs] at h
    exact absurd h (by simp)

/-! ### tripwireref00_SameLongs: function 73 -/
def tripwireref00_SameLongs.l0 : Nat → List Int → List Int → Int → Option (Bool)
  | 0, _, _, _ => none
  | k + 1, x0, x1, x5 => if x5 < (x0.length : Int) then (if 0 ≤ x5 then (if x5 < (x1.length : Int) then (if (rd x0 x5) = (rd x1 x5) then (tripwireref00_SameLongs.l0 k x0 x1 (wrap64 (x5 + 1))) else (some false)) else (none)) else (none)) else (some true)
def tripwireref00_SameLongs.f (k : Nat) (l0 : List Int) (l1 : List Int) : Option (Bool) := if (l0.length : Int) = (l1.length : Int) then (tripwireref00_SameLongs.l0 k l0 l1 0) else (some false)
theorem tripwireref00_SameLongs.mono_l : ∀ k, (∀ y0 y1 y2, LeO (tripwireref00_SameLongs.l0 k y0 y1 y2) (tripwireref00_SameLongs.l0 (k + 1) y0 y1 y2))
  | 0 => fun _ _ _ r h => by simp [tripwireref00_SameLongs.l0] at h
  | k + 1 => by
    have ih0 := tripwireref00_SameLongs.mono_l k
    · intro y0 y1 y2
      unfold tripwireref00_SameLongs.l0
      repeat' first
      | (with_reducible exact ih0 _ _ _)
      | (with_reducible exact LeO.refl _)
      | (with_reducible exact LeO.none _)
      | (with_reducible refine LeO.ite ?_ ?_)
      | (with_reducible refine LeO.bind ?_ (fun _ => ?_))
      | exact ih0 _ _ _
      | exact LeO.none _
      | refine LeO.ite ?_ ?_
      | refine LeO.bind ?_ (fun _ => ?_)
theorem tripwireref00_SameLongs.mono : ∀ a0 a1 k, LeO (tripwireref00_SameLongs.f k a0 a1) (tripwireref00_SameLongs.f (k + 1) a0 a1) := by
  intro a0 a1 k
  have ih0 := tripwireref00_SameLongs.mono_l k
  unfold tripwireref00_SameLongs.f
  repeat' first
      | (with_reducible exact ih0 _ _ _)
      | (with_reducible exact LeO.refl _)
      | (with_reducible exact LeO.none _)
      | (with_reducible refine LeO.ite ?_ ?_)
      | (with_reducible refine LeO.bind ?_ (fun _ => ?_))
      | exact ih0 _ _ _
      | exact LeO.none _
      | refine LeO.ite ?_ ?_
      | refine LeO.bind ?_ (fun _ => ?_)
set_option maxHeartbeats 8000000 in
set_option maxRecDepth 100000 in
theorem tripwireref00_SameLongs.calls (k : Nat) (A0 : Option Addr) (c0 : Nat) (l0 : List Int) (A1 : Option Addr) (c1 : Nat) (l1 : List Int) (r : Bool) (w : World) (hr0 : Kd.C (Kd.int .i64) w A0 l0.length l0) (hc0 : l0.length ≤ c0) (hr1 : Kd.C (Kd.int .i64) w A1 l1.length l1) (hc1 : l1.length ≤ c1) (h : tripwireref00_SameLongs.f k l0 l1 = some r) :
    Calls Try.prog 73 #[.slice A0 l0.length c0, .slice A1 l1.length c1] w fun e w' => e = .returned (.bool r) ∧ Drawn0 w w' := by
  have HR0 := Aside0.mk hr0
  have HC0 := Aside0.mk hc0
  clear hr0 hc0
  have HR1 := Aside0.mk hr1
  have HC1 := Aside0.mk hc1
  clear hr1 hc1
  have H : (if (l0.length : Int) = (l1.length : Int) then (tripwireref00_SameLongs.l0 k l0 l1 0) else (some false)) = some r := h
  clear h
  by_cases c3 : (l0.length : Int) = (l1.length : Int)
  · rw [if_pos c3] at H
    have c3b0 : ((l0.length : Int) == (l1.length : Int)) = true := beq_iff_eq.mpr c3
    have c3b1 : ((l0.length : Int) != (l1.length : Int)) = false := bne_eq_false_iff_eq.mpr c3
    have c3b2 : (l0.length == l1.length) = true := by first | simpa using c3 | (simp at c3 ⊢; omega)
    clear c3
    have H' := Aside0.mk H
    clear H
    go_enter Try.func73, Try.ntmps73
    go_wp2
    repeat (go_quiet (fail); try go_wp2)
    go_loopg [5] k (fun kq v5 w' => ∃ (x5_1 : Int), v5 = .int .i64 x5_1 ∧ Aside0 (tripwireref00_SameLongs.l0 kq l0 l1 x5_1 = some r) ∧ Aside0 (kq ≤ k) ∧ Drawn0 w w')
    case atStart => exact ⟨(0), (by first | rfl | (simp; done) | (simp [*]; done)), H', ⟨Nat.le_refl _⟩, by repeat (first | exact Drawn0.refl _ | apply Drawn0.step)⟩
    case round =>
      clear H'
      try clear c1
      try clear p2
      try clear c3
      try clear c3b0
      try clear c3b1
      try clear c3b2
      obtain ⟨x5_1, rfl, HA, HK1, ⟨m1, rfl⟩⟩ := hrel
      cases gk with
      | zero => exact absurd HA.out (by simp [tripwireref00_SameLongs.l0])
      | succ k1 =>
        have H := HA.out
        clear HA
        simp only [tripwireref00_SameLongs.l0] at H
        by_cases c4 : x5_1 < (l0.length : Int)
        · rw [if_pos c4] at H
          have c4b0 : decide (x5_1 < (l0.length : Int)) = true := decide_eq_true c4
          clear c4
          by_cases c5 : 0 ≤ x5_1
          · rw [if_pos c5] at H
            have c5b0 : decide (0 ≤ x5_1) = true := decide_eq_true c5
            clear c5
            by_cases c6 : x5_1 < (l1.length : Int)
            · rw [if_pos c6] at H
              have c6b0 : decide (x5_1 < (l1.length : Int)) = true := decide_eq_true c6
              clear c6
              by_cases c7 : (rd l0 x5_1) = (rd l1 x5_1)
              · rw [if_pos c7] at H
                have c7b0 : ((rd l0 x5_1) == (rd l1 x5_1)) = true := beq_iff_eq.mpr c7
                have c7b1 : ((rd l0 x5_1) != (rd l1 x5_1)) = false := bne_eq_false_iff_eq.mpr c7
                clear c7
                have H' := Aside0.mk H
                clear H
                have p210 : 0 ≤ (x5_1 : Int) := of_decide_eq_true (by first | (with_reducible assumption) | assumption)
                have q210 : x5_1 < (l0.length : Int) := of_decide_eq_true (by first | (with_reducible assumption) | assumption)
                obtain ⟨ad210, e210, hx210_0⟩ := Kd.at_int HR0.out x5_1 p210 q210
                cases e210
                replace p210 := eq_true p210
                replace q210 := eq_true q210
                have p211 : 0 ≤ (x5_1 : Int) := of_decide_eq_true (by first | (with_reducible assumption) | assumption)
                have q211 : x5_1 < (l1.length : Int) := of_decide_eq_true (by first | (with_reducible assumption) | assumption)
                obtain ⟨ad211, e211, hx211_0⟩ := Kd.at_int HR1.out x5_1 p211 q211
                cases e211
                replace p211 := eq_true p211
                replace q211 := eq_true q211
                go_wp2
                repeat (go_quiet (fail); try go_wp2)
                go_roundg k1
                case measure => have := HK1.out; omega
                case rel => exact ⟨(wrap64 (x5_1 + 1)), (by first | rfl | (simp; done) | (simp [*]; done)), H', ⟨by have := HK1.out; omega⟩, by repeat (first | exact Drawn0.refl _ | apply Drawn0.step)⟩
              · rw [if_neg c7] at H
                have c7b0 : ((rd l0 x5_1) == (rd l1 x5_1)) = false := beq_eq_false_iff_ne.mpr c7
                have c7b1 : ((rd l0 x5_1) != (rd l1 x5_1)) = true := bne_iff_ne.mpr c7
                obtain rfl := Option.some.inj H
                have p210 : 0 ≤ (x5_1 : Int) := of_decide_eq_true (by first | (with_reducible assumption) | assumption)
                have q210 : x5_1 < (l0.length : Int) := of_decide_eq_true (by first | (with_reducible assumption) | assumption)
                obtain ⟨ad210, e210, hx210_0⟩ := Kd.at_int HR0.out x5_1 p210 q210
                cases e210
                replace p210 := eq_true p210
                replace q210 := eq_true q210
                have p211 : 0 ≤ (x5_1 : Int) := of_decide_eq_true (by first | (with_reducible assumption) | assumption)
                have q211 : x5_1 < (l1.length : Int) := of_decide_eq_true (by first | (with_reducible assumption) | assumption)
                obtain ⟨ad211, e211, hx211_0⟩ := Kd.at_int HR1.out x5_1 p211 q211
                cases e211
                replace p211 := eq_true p211
                replace q211 := eq_true q211
                go_wp2
                repeat (go_quiet (fail); try go_wp2)
                go_ret
                exact ⟨by first | rfl | (simp; done) | (simp [*]; done), by repeat (first | exact Drawn0.refl _ | apply Drawn0.step)⟩
            · rw [if_neg c6] at H
              exact absurd H (by simp)
          · rw [if_neg c5] at H
            exact absurd H (by simp)
        · rw [if_neg c4] at H
          have c4b0 : decide (x5_1 < (l0.length : Int)) = false := decide_eq_false c4
          clear c4
          obtain rfl := Option.some.inj H
          go_wp2
          repeat (go_quiet (fail); try go_wp2)
          go_ret
          exact ⟨by first | rfl | (simp; done) | (simp [*]; done), by repeat (first | exact Drawn0.refl _ | apply Drawn0.step)⟩
  · rw [if_neg c3] at H
    have c3b0 : ((l0.length : Int) == (l1.length : Int)) = false := beq_eq_false_iff_ne.mpr c3
    have c3b1 : ((l0.length : Int) != (l1.length : Int)) = true := bne_iff_ne.mpr c3
    have c3b2 : (l0.length == l1.length) = false := by first | simpa using c3 | (simp at c3 ⊢; omega)
    obtain rfl := Option.some.inj H
    go_enter Try.func73, Try.ntmps73
    go_wp2
    repeat (go_quiet (fail); try go_wp2)
    go_ret
    exact ⟨by first | rfl | (simp; done) | (simp [*]; done), by repeat (first | exact Drawn0.refl _ | apply Drawn0.step)⟩

/-! ### tripwireref00_WholeLongs: function 56 -/
def tripwireref00_WholeLongs.f (l0 l1 : List Int) : Option Bool := if l0 = l1 then some true else none
theorem tripwireref00_WholeLongs.same_l (l : List Int) (hl : l.length ≤ 9223372036854775805) : ∀ (d k i : Nat), l.length = i + d → d < k → tripwireref00_SameLongs.l0 k l l i = some true
  | 0, 0, _, _, h => absurd h (by omega)
  | d + 1, 0, _, _, h => absurd h (by omega)
  | 0, k + 1, i, h, _ => by
    unfold tripwireref00_SameLongs.l0
    rw [if_neg (by omega)]
  | d + 1, k + 1, i, h, hk => by
    unfold tripwireref00_SameLongs.l0
    have hw : wrap64 ((i : Int) + 1) = ((i + 1 : Nat) : Int) := by unfold wrap64; omega
    rw [if_pos (by omega), if_pos (by omega), if_pos (by omega), if_pos rfl, hw]
    exact tripwireref00_WholeLongs.same_l l hl d k (i + 1) (by omega) (by omega)
theorem tripwireref00_WholeLongs.same (l : List Int) (hl : l.length ≤ 9223372036854775805) : tripwireref00_SameLongs.f (l.length + 1) l l = some true := by
  unfold tripwireref00_SameLongs.f
  rw [if_pos rfl]
  exact tripwireref00_WholeLongs.same_l l hl l.length (l.length + 1) 0 (by omega) (by omega)
set_option maxHeartbeats 8000000 in
set_option maxRecDepth 100000 in
theorem tripwireref00_WholeLongs.calls (A0 : Option Addr) (c0 : Nat) (l0 : List Int) (A1 : Option Addr) (c1 : Nat) (l1 : List Int) (r : Bool) (w : World) (hlent : Lent .i64 2 (-771) (-772) w (.slice A0 l0.length c0) l0) (hr0 : Kd.C (Kd.int .i64) w A0 l0.length l0) (hr1 : Kd.C (Kd.int .i64) w A1 l1.length l1) (hc1 : l1.length ≤ c1) (h : tripwireref00_WholeLongs.f l0 l1 = some r) :
    Calls Try.prog 56 #[.slice A0 l0.length c0, .slice A1 l1.length c1] w fun e w' => e = .returned (.bool r) ∧ Drawn0 w w' := by
  by_cases hs : l0 = l1
  · rw [tripwireref00_WholeLongs.f, if_pos hs] at h
    obtain rfl := Option.some.inj h
    subst hs
    clear h
    obtain ⟨_, rfl, hrow⟩ := Lent.reads hlent
    have hmax : l0.length + 2 ≤ 9223372036854775807 := by obtain ⟨_, _, _, _, _, h4⟩ := hlent; exact h4
    have hsame := Aside0.mk (tripwireref00_WholeLongs.same l0 (by omega))
    obtain ⟨ad, e1, hx1⟩ := Kd.at_int hrow (l0.length : Int) (by omega) (by simp; omega)
    subst e1
    obtain ⟨ad', e2, hx2⟩ := Kd.at_int hrow ((l0.length : Int) + 1) (by omega) (by simp)
    injection e2 with e2
    subst e2
    have q1 : rd (l0 ++ [(-771), (-772)]) (l0.length : Int) = (-771) := by simp [rd]
    have q2 : rd (l0 ++ [(-771), (-772)]) ((l0.length : Int) + 1) = (-772) := by
      have : ((l0.length : Int) + 1).toNat = l0.length + 1 := by omega
      simp [rd, this]
    rw [q1, show ((l0.length : Int)).toNat = l0.length by omega] at hx1
    rw [q2, show ((l0.length : Int) + 1).toNat = l0.length + 1 by omega] at hx2
    have hx3 : w.cell? ⟨ad.block, ad.off + (l0.length + 1), none⟩ = some (.int .i64 (-772)) := by rw [← hx2]; simp [Addr.add]
    have HR0 := Aside0.mk hr0
    have HR1 := Aside0.mk hr1
    have HC1 := Aside0.mk hc1
    have LM := Aside0.mk hmax
    clear hr0 hr1 hc1 hlent hrow q1 q2
    go_enter Try.func56, Try.ntmps56
    go_wp2_with (go_at_call 73; refine (tripwireref00_SameLongs.calls _ _ _ l0 A1 c1 l0 true _ HR0.out (by have := LM.out; omega) HR1.out HC1.out hsame.out).mono ?_; rintro e w' ⟨rfl, ⟨nd, rfl⟩⟩)
    go_ret
    exact ⟨rfl, nd, rfl⟩
  · rw [tripwireref00_WholeLongs.f, if_neg hs] at h
    exact absurd h (by simp)

/-! ### tripwireref01_Sum: function 57 -/
def tripwireref01_Sum.l0 : Nat → List Int → Int → Int → Int → Option (Int × Bool)
  | 0, _, _, _, _ => none
  | k + 1, x0, x4, x5, x6 => if x6 < (x0.length : Int) then (if 0 ≤ x6 then (tripwireref01_Sum.l0 k x0 (wrap64 (x4 + ((rd x0 x6) / 4294967296))) (IntKind.u64.wrap (x5 + (Int.tmod (IntKind.u64.wrap (rd x0 x6)) 4294967296))) (wrap64 (x6 + 1))) else (none)) else (if (wrap64 (x4 + (wrap64 (IntKind.u64.wrap (Int.tdiv x5 4294967296))))) < (-2147483648) then (some (0, false)) else (if (wrap64 (x4 + (wrap64 (IntKind.u64.wrap (Int.tdiv x5 4294967296))))) > 2147483647 then (some (0, false)) else (some (wrap64 ((wrap64 ((wrap64 (x4 + (wrap64 (IntKind.u64.wrap (Int.tdiv x5 4294967296))))) * 4294967296)) + (wrap64 (Int.tmod x5 4294967296))), true))))
def tripwireref01_Sum.f (k : Nat) (l0 : List Int) : Option (Int × Bool) := tripwireref01_Sum.l0 k l0 0 0 0
theorem tripwireref01_Sum.mono_l : ∀ k, (∀ y0 y1 y2 y3, LeO (tripwireref01_Sum.l0 k y0 y1 y2 y3) (tripwireref01_Sum.l0 (k + 1) y0 y1 y2 y3))
  | 0 => fun _ _ _ _ r h => by simp [tripwireref01_Sum.l0] at h
  | k + 1 => by
    have ih0 := tripwireref01_Sum.mono_l k
    · intro y0 y1 y2 y3
      unfold tripwireref01_Sum.l0
      repeat' first
      | (with_reducible exact ih0 _ _ _ _)
      | (with_reducible exact LeO.refl _)
      | (with_reducible exact LeO.none _)
      | (with_reducible refine LeO.ite ?_ ?_)
      | (with_reducible refine LeO.bind ?_ (fun _ => ?_))
      | exact ih0 _ _ _ _
      | exact LeO.none _
      | refine LeO.ite ?_ ?_
      | refine LeO.bind ?_ (fun _ => ?_)
theorem tripwireref01_Sum.mono : ∀ a0 k, LeO (tripwireref01_Sum.f k a0) (tripwireref01_Sum.f (k + 1) a0) := by
  intro a0 k
  have ih0 := tripwireref01_Sum.mono_l k
  unfold tripwireref01_Sum.f
  repeat' first
      | (with_reducible exact ih0 _ _ _ _)
      | (with_reducible exact LeO.refl _)
      | (with_reducible exact LeO.none _)
      | (with_reducible refine LeO.ite ?_ ?_)
      | (with_reducible refine LeO.bind ?_ (fun _ => ?_))
      | exact ih0 _ _ _ _
      | exact LeO.none _
      | refine LeO.ite ?_ ?_
      | refine LeO.bind ?_ (fun _ => ?_)
set_option maxHeartbeats 8000000 in
set_option maxRecDepth 100000 in
theorem tripwireref01_Sum.calls (k : Nat) (A0 : Option Addr) (c0 : Nat) (l0 : List Int) (r1 : Int) (r2 : Bool) (w : World) (hr0 : Kd.C (Kd.int .i64) w A0 l0.length l0) (hc0 : l0.length ≤ c0) (h : tripwireref01_Sum.f k l0 = some (r1, r2)) :
    Calls Try.prog 57 #[.slice A0 l0.length c0] w fun e w' => e = .returned (.tuple #[.int .i64 r1, .bool r2]) ∧ Drawn0 w w' := by
  have HR0 := Aside0.mk hr0
  have HC0 := Aside0.mk hc0
  clear hr0 hc0
  have H : (tripwireref01_Sum.l0 k l0 0 0 0) = some (r1, r2) := h
  clear h
  have H' := Aside0.mk H
  clear H
  go_enter Try.func57, Try.ntmps57
  go_wp2
  go_loopg [4, 5, 6] k (fun kq v4 v5 v6 w' => ∃ (x4_1 : Int) (x5_1 : Int) (x6_1 : Int), v4 = .int .i64 x4_1 ∧ v5 = .int .u64 x5_1 ∧ v6 = .int .i64 x6_1 ∧ Aside0 (tripwireref01_Sum.l0 kq l0 x4_1 x5_1 x6_1 = some (r1, r2)) ∧ Aside0 (kq ≤ k) ∧ Drawn0 w w')
  case atStart => exact ⟨(0), (0), (0), (by first | rfl | (simp; done) | (simp [*]; done)), (by first | rfl | (simp; done) | (simp [*]; done)), (by first | rfl | (simp; done) | (simp [*]; done)), H', ⟨Nat.le_refl _⟩, by repeat (first | exact Drawn0.refl _ | apply Drawn0.step)⟩
  case round =>
    clear H'
    obtain ⟨x4_1, x5_1, x6_1, rfl, rfl, rfl, HA, HK1, ⟨m1, rfl⟩⟩ := hrel
    cases gk with
    | zero => exact absurd HA.out (by simp [tripwireref01_Sum.l0])
    | succ k1 =>
      have H := HA.out
      clear HA
      simp only [tripwireref01_Sum.l0] at H
      by_cases c2 : x6_1 < (l0.length : Int)
      · rw [if_pos c2] at H
        have c2b0 : decide (x6_1 < (l0.length : Int)) = true := decide_eq_true c2
        clear c2
        by_cases c3 : 0 ≤ x6_1
        · rw [if_pos c3] at H
          have c3b0 : decide (0 ≤ x6_1) = true := decide_eq_true c3
          clear c3
          have H' := Aside0.mk H
          clear H
          have p212 : 0 ≤ (x6_1 : Int) := of_decide_eq_true (by first | (with_reducible assumption) | assumption)
          have q212 : x6_1 < (l0.length : Int) := of_decide_eq_true (by first | (with_reducible assumption) | assumption)
          obtain ⟨ad212, e212, hx212_0⟩ := Kd.at_int HR0.out x6_1 p212 q212
          cases e212
          replace p212 := eq_true p212
          replace q212 := eq_true q212
          have p213 : 0 ≤ (x6_1 : Int) := of_decide_eq_true (by first | (with_reducible assumption) | assumption)
          have q213 : x6_1 < (l0.length : Int) := of_decide_eq_true (by first | (with_reducible assumption) | assumption)
          obtain ⟨ad213, e213, hx213_0⟩ := Kd.at_int HR0.out x6_1 p213 q213
          obtain rfl : ad212 = ad213 := (by injection e213)
          replace p213 := eq_true p213
          replace q213 := eq_true q213
          go_wp2
          go_roundg k1
          case measure => have := HK1.out; omega
          case rel => exact ⟨(wrap64 (x4_1 + ((rd l0 x6_1) / 4294967296))), (IntKind.u64.wrap (x5_1 + (Int.tmod (IntKind.u64.wrap (rd l0 x6_1)) 4294967296))), (wrap64 (x6_1 + 1)), (by first | rfl | (simp; done) | (simp [*]; done)), (by first | rfl | (simp; done) | (simp [*]; done)), (by first | rfl | (simp; done) | (simp [*]; done)), H', ⟨by have := HK1.out; omega⟩, by repeat (first | exact Drawn0.refl _ | apply Drawn0.step)⟩
        · rw [if_neg c3] at H
          exact absurd H (by simp)
      · rw [if_neg c2] at H
        have c2b0 : decide (x6_1 < (l0.length : Int)) = false := decide_eq_false c2
        clear c2
        by_cases c4 : (wrap64 (x4_1 + (wrap64 (IntKind.u64.wrap (Int.tdiv x5_1 4294967296))))) < (-2147483648)
        · rw [if_pos c4] at H
          have c4b0 : decide ((wrap64 (x4_1 + (wrap64 (IntKind.u64.wrap (Int.tdiv x5_1 4294967296))))) < (-2147483648)) = true := decide_eq_true c4
          clear c4
          simp only [Option.some.injEq, Prod.mk.injEq] at H
          obtain ⟨rfl, rfl⟩ := H
          go_wp2
          go_ret2
          exact ⟨by first | rfl | (simp; done) | (simp [*]; done), by repeat (first | exact Drawn0.refl _ | apply Drawn0.step)⟩
        · rw [if_neg c4] at H
          have c4b0 : decide ((wrap64 (x4_1 + (wrap64 (IntKind.u64.wrap (Int.tdiv x5_1 4294967296))))) < (-2147483648)) = false := decide_eq_false c4
          clear c4
          by_cases c5 : (wrap64 (x4_1 + (wrap64 (IntKind.u64.wrap (Int.tdiv x5_1 4294967296))))) > 2147483647
          · rw [if_pos c5] at H
            have c5b0 : decide (2147483647 < (wrap64 (x4_1 + (wrap64 (IntKind.u64.wrap (Int.tdiv x5_1 4294967296)))))) = true := decide_eq_true c5
            clear c5
            simp only [Option.some.injEq, Prod.mk.injEq] at H
            obtain ⟨rfl, rfl⟩ := H
            go_wp2
            go_ret2
            exact ⟨by first | rfl | (simp; done) | (simp [*]; done), by repeat (first | exact Drawn0.refl _ | apply Drawn0.step)⟩
          · rw [if_neg c5] at H
            have c5b0 : decide (2147483647 < (wrap64 (x4_1 + (wrap64 (IntKind.u64.wrap (Int.tdiv x5_1 4294967296)))))) = false := decide_eq_false c5
            clear c5
            simp only [Option.some.injEq, Prod.mk.injEq] at H
            obtain ⟨rfl, rfl⟩ := H
            go_wp2
            go_ret2
            exact ⟨by first | rfl | (simp; done) | (simp [*]; done), by repeat (first | exact Drawn0.refl _ | apply Drawn0.step)⟩

/-! ### tripwirelaw01_FixnumSums: function 10 -/
mutual
def tripwirelaw01_FixnumSums.j0 : Nat → List Int → Int → Bool → Int → Bool → Bool → Int → Bool → List Int → Int → Option (Bool)
  | 0, _, _, _, _, _, _, _, _, _, _ => none
  | k + 1, x0, x1, x5, x7, x8, x9, x10, x11, x12, x13 => tripwirelaw01_FixnumSums.l0 k x0 x1 x5 x7 x8 x9 x10 x11 x12 x13 0
def tripwirelaw01_FixnumSums.l0 : Nat → List Int → Int → Bool → Int → Bool → Bool → Int → Bool → List Int → Int → Int → Option (Bool)
  | 0, _, _, _, _, _, _, _, _, _, _, _ => none
  | k + 1, x0, x1, x5, x7, x8, x9, x10, x11, x12, x13, x14 => if x14 < x13 then (if x13 = 0 then (none) else (if 0 ≤ (Int.tmod (wrap64 ((wrap64 ((wrap64 (x13 - 1)) - x14)) + (Int.tmod x1 x13))) x13) then (if (Int.tmod (wrap64 ((wrap64 ((wrap64 (x13 - 1)) - x14)) + (Int.tmod x1 x13))) x13) < (x0.length : Int) then (if x12.length < 17592186044416 then (tripwirelaw01_FixnumSums.l0 k x0 x1 x5 x7 x8 x9 x10 x11 (x12 ++ [rd x0 (Int.tmod (wrap64 ((wrap64 ((wrap64 (x13 - 1)) - x14)) + (Int.tmod x1 x13))) x13)]) x13 (wrap64 (x14 + 1))) else (none)) else (none)) else (none))) else ((fixnum_Sum.f k x12).bind fun bt227 => (if x5 = true then (if x9 = true then (if x7 = x10 then (if (x8 == x11) = true then (if bt227.1 = x7 then (some (bt227.2 == x8)) else (some false)) else (some false)) else (some false)) else (some false)) else (some false)))
end
def tripwirelaw01_FixnumSums.f (k : Nat) (l0 : List Int) (a1 : Int) : Option (Bool) := (tripwirelaw01_works.f k).bind fun t214 => (if (l0.length : Int) > 268435455 then (some t214) else ((tripwireref00_LentLongs.f l0).bind fun t215 => ((fixnum_Sum.f k t215).bind fun bt218 => ((tripwireref00_WholeLongs.f t215 l0).bind fun t220 => ((tripwireref01_Sum.f k l0).bind fun bt221 => (if a1 < 0 then (tripwirelaw01_FixnumSums.j0 k l0 (wrap64 (-(wrap64 (a1 + 1)))) t214 bt218.1 bt218.2 t220 bt221.1 bt221.2 ([] : List Int) (l0.length : Int)) else (tripwirelaw01_FixnumSums.j0 k l0 a1 t214 bt218.1 bt218.2 t220 bt221.1 bt221.2 ([] : List Int) (l0.length : Int))))))))
theorem tripwirelaw01_FixnumSums.mono_l : ∀ k, (∀ y0 y1 y2 y3 y4 y5 y6 y7 y8 y9, LeO (tripwirelaw01_FixnumSums.j0 k y0 y1 y2 y3 y4 y5 y6 y7 y8 y9) (tripwirelaw01_FixnumSums.j0 (k + 1) y0 y1 y2 y3 y4 y5 y6 y7 y8 y9)) ∧ (∀ y0 y1 y2 y3 y4 y5 y6 y7 y8 y9 y10, LeO (tripwirelaw01_FixnumSums.l0 k y0 y1 y2 y3 y4 y5 y6 y7 y8 y9 y10) (tripwirelaw01_FixnumSums.l0 (k + 1) y0 y1 y2 y3 y4 y5 y6 y7 y8 y9 y10))
  | 0 => ⟨fun _ _ _ _ _ _ _ _ _ _ r h => by simp [tripwirelaw01_FixnumSums.j0] at h, fun _ _ _ _ _ _ _ _ _ _ _ r h => by simp [tripwirelaw01_FixnumSums.l0] at h⟩
  | k + 1 => by
    obtain ⟨ih0, ih1⟩ := tripwirelaw01_FixnumSums.mono_l k
    refine ⟨?_, ?_⟩
    · intro y0 y1 y2 y3 y4 y5 y6 y7 y8 y9
      unfold tripwirelaw01_FixnumSums.j0
      repeat' first
      | (with_reducible exact ih0 _ _ _ _ _ _ _ _ _ _)
      | (with_reducible exact ih1 _ _ _ _ _ _ _ _ _ _ _)
      | (with_reducible exact fixnum_Sum.mono _ _)
      | (with_reducible exact tripwirelaw01_works.mono _)
      | (with_reducible exact tripwireref01_Sum.mono _ _)
      | (with_reducible exact LeO.refl _)
      | (with_reducible exact LeO.none _)
      | (with_reducible refine LeO.ite ?_ ?_)
      | (with_reducible refine LeO.bind ?_ (fun _ => ?_))
      | exact ih0 _ _ _ _ _ _ _ _ _ _
      | exact ih1 _ _ _ _ _ _ _ _ _ _ _
      | exact fixnum_Sum.mono _ _
      | exact tripwirelaw01_works.mono _
      | exact tripwireref01_Sum.mono _ _
      | exact LeO.none _
      | refine LeO.ite ?_ ?_
      | refine LeO.bind ?_ (fun _ => ?_)
    · intro y0 y1 y2 y3 y4 y5 y6 y7 y8 y9 y10
      unfold tripwirelaw01_FixnumSums.l0
      repeat' first
      | (with_reducible exact ih0 _ _ _ _ _ _ _ _ _ _)
      | (with_reducible exact ih1 _ _ _ _ _ _ _ _ _ _ _)
      | (with_reducible exact fixnum_Sum.mono _ _)
      | (with_reducible exact tripwirelaw01_works.mono _)
      | (with_reducible exact tripwireref01_Sum.mono _ _)
      | (with_reducible exact LeO.refl _)
      | (with_reducible exact LeO.none _)
      | (with_reducible refine LeO.ite ?_ ?_)
      | (with_reducible refine LeO.bind ?_ (fun _ => ?_))
      | exact ih0 _ _ _ _ _ _ _ _ _ _
      | exact ih1 _ _ _ _ _ _ _ _ _ _ _
      | exact fixnum_Sum.mono _ _
      | exact tripwirelaw01_works.mono _
      | exact tripwireref01_Sum.mono _ _
      | exact LeO.none _
      | refine LeO.ite ?_ ?_
      | refine LeO.bind ?_ (fun _ => ?_)
theorem tripwirelaw01_FixnumSums.mono : ∀ a0 a1 k, LeO (tripwirelaw01_FixnumSums.f k a0 a1) (tripwirelaw01_FixnumSums.f (k + 1) a0 a1) := by
  intro a0 a1 k
  obtain ⟨ih0, ih1⟩ := tripwirelaw01_FixnumSums.mono_l k
  unfold tripwirelaw01_FixnumSums.f
  repeat' first
      | (with_reducible exact ih0 _ _ _ _ _ _ _ _ _ _)
      | (with_reducible exact ih1 _ _ _ _ _ _ _ _ _ _ _)
      | (with_reducible exact fixnum_Sum.mono _ _)
      | (with_reducible exact tripwirelaw01_works.mono _)
      | (with_reducible exact tripwireref01_Sum.mono _ _)
      | (with_reducible exact LeO.refl _)
      | (with_reducible exact LeO.none _)
      | (with_reducible refine LeO.ite ?_ ?_)
      | (with_reducible refine LeO.bind ?_ (fun _ => ?_))
      | exact ih0 _ _ _ _ _ _ _ _ _ _
      | exact ih1 _ _ _ _ _ _ _ _ _ _ _
      | exact fixnum_Sum.mono _ _
      | exact tripwirelaw01_works.mono _
      | exact tripwireref01_Sum.mono _ _
      | exact LeO.none _
      | refine LeO.ite ?_ ?_
      | refine LeO.bind ?_ (fun _ => ?_)
set_option maxHeartbeats 8000000 in
set_option maxRecDepth 100000 in
theorem tripwirelaw01_FixnumSums.calls (k : Nat) (A0 : Option Addr) (c0 : Nat) (l0 : List Int) (a1 : Int) (r : Bool) (w : World) (hr0 : Kd.C (Kd.int .i64) w A0 l0.length l0) (hc0 : l0.length ≤ c0) (h : tripwirelaw01_FixnumSums.f k l0 a1 = some r) :
    Calls Try.prog 10 #[.slice A0 l0.length c0, .int .i64 a1] w fun e w' => e = .returned (.bool r) ∧ Below w.heap.size w w' := by
  have HR0 := Aside0.mk hr0
  have HC0 := Aside0.mk hc0
  clear hr0 hc0
  have HB := Aside0.mk (Below.refl w.heap.size w)
  have H : ((tripwirelaw01_works.f k).bind fun t214 => (if (l0.length : Int) > 268435455 then (some t214) else ((tripwireref00_LentLongs.f l0).bind fun t215 => ((fixnum_Sum.f k t215).bind fun bt218 => ((tripwireref00_WholeLongs.f t215 l0).bind fun t220 => ((tripwireref01_Sum.f k l0).bind fun bt221 => (if a1 < 0 then (tripwirelaw01_FixnumSums.j0 k l0 (wrap64 (-(wrap64 (a1 + 1)))) t214 bt218.1 bt218.2 t220 bt221.1 bt221.2 ([] : List Int) (l0.length : Int)) else (tripwirelaw01_FixnumSums.j0 k l0 a1 t214 bt218.1 bt218.2 t220 bt221.1 bt221.2 ([] : List Int) (l0.length : Int))))))))) = some r := h
  clear h
  replace H := Option.bind_eq_some_iff.mp H
  obtain ⟨t214, A30, H⟩ := H
  replace H : (if (l0.length : Int) > 268435455 then (some t214) else ((tripwireref00_LentLongs.f l0).bind fun t215 => ((fixnum_Sum.f k t215).bind fun bt218 => ((tripwireref00_WholeLongs.f t215 l0).bind fun t220 => ((tripwireref01_Sum.f k l0).bind fun bt221 => (if a1 < 0 then (tripwirelaw01_FixnumSums.j0 k l0 (wrap64 (-(wrap64 (a1 + 1)))) t214 bt218.1 bt218.2 t220 bt221.1 bt221.2 ([] : List Int) (l0.length : Int)) else (tripwirelaw01_FixnumSums.j0 k l0 a1 t214 bt218.1 bt218.2 t220 bt221.1 bt221.2 ([] : List Int) (l0.length : Int)))))))) = some r := H
  have A3 := Aside0.mk A30
  clear A30
  by_cases c4 : (l0.length : Int) > 268435455
  · rw [if_pos c4] at H
    have c4b0 : decide (268435455 < (l0.length : Int)) = true := decide_eq_true c4
    have c4b1 : decide (268435455 < l0.length) = true := decide_eq_true (by omega)
    clear c4
    obtain rfl := Option.some.inj H
    go_enter Try.func10, Try.ntmps10
    go_wp2_with (first | ((with_reducible refine gate_callee (f := 37) rfl ?_); refine goesL_ (some 17) rfl rfl Try.func37 (by kernel_rfl) rfl #[] rfl (by (try simp only [List.map_toArray, List.map_cons, List.map_nil]); first | done | rfl | (simp only [List.length_drop, List.length_take]; rfl)) ?_; (with_reducible refine (tripwirelaw01_works.calls k  t214 _ A3.out).mono ?_); rintro e w5 ⟨rfl, hb⟩; refine ⟨_, rfl, ?_⟩; have n0_ := Aside0.mk (below_step (by repeat (first | (with_reducible first | exact HB.out | apply below_alloc | apply pw_below_drewN | apply below_drew1) | exact HB.out)) hb); clear HB; have HB := n0_; clear n0_; (try clear hb); (try clear hb2); (try clear hk); (try clear hi)))
    go_ret
    exact ⟨by first | rfl | (simp [errW_none, errW_some] <;> rfl) | (simp [*, errW_none, errW_some] <;> rfl), by repeat (first | (with_reducible first | exact HB.out | apply below_alloc | apply pw_below_drewN | apply below_drew1) | exact HB.out)⟩
  · rw [if_neg c4] at H
    have c4b0 : decide (268435455 < (l0.length : Int)) = false := decide_eq_false c4
    have c4b1 : decide (268435455 < l0.length) = false := decide_eq_false (by omega)
    clear c4
    replace H := Option.bind_eq_some_iff.mp H
    obtain ⟨t215, A60, H⟩ := H
    replace H : ((fixnum_Sum.f k t215).bind fun bt218 => ((tripwireref00_WholeLongs.f t215 l0).bind fun t220 => ((tripwireref01_Sum.f k l0).bind fun bt221 => (if a1 < 0 then (tripwirelaw01_FixnumSums.j0 k l0 (wrap64 (-(wrap64 (a1 + 1)))) t214 bt218.1 bt218.2 t220 bt221.1 bt221.2 ([] : List Int) (l0.length : Int)) else (tripwirelaw01_FixnumSums.j0 k l0 a1 t214 bt218.1 bt218.2 t220 bt221.1 bt221.2 ([] : List Int) (l0.length : Int)))))) = some r := H
    have A6 := Aside0.mk A60
    clear A60
    replace H := Option.bind_eq_some_iff.mp H
    obtain ⟨⟨t218, t219⟩, A70, H⟩ := H
    replace H : ((tripwireref00_WholeLongs.f t215 l0).bind fun t220 => ((tripwireref01_Sum.f k l0).bind fun bt221 => (if a1 < 0 then (tripwirelaw01_FixnumSums.j0 k l0 (wrap64 (-(wrap64 (a1 + 1)))) t214 t218 t219 t220 bt221.1 bt221.2 ([] : List Int) (l0.length : Int)) else (tripwirelaw01_FixnumSums.j0 k l0 a1 t214 t218 t219 t220 bt221.1 bt221.2 ([] : List Int) (l0.length : Int))))) = some r := H
    have A7 := Aside0.mk A70
    clear A70
    replace H := Option.bind_eq_some_iff.mp H
    obtain ⟨t220, A80, H⟩ := H
    replace H : ((tripwireref01_Sum.f k l0).bind fun bt221 => (if a1 < 0 then (tripwirelaw01_FixnumSums.j0 k l0 (wrap64 (-(wrap64 (a1 + 1)))) t214 t218 t219 t220 bt221.1 bt221.2 ([] : List Int) (l0.length : Int)) else (tripwirelaw01_FixnumSums.j0 k l0 a1 t214 t218 t219 t220 bt221.1 bt221.2 ([] : List Int) (l0.length : Int)))) = some r := H
    have A8 := Aside0.mk A80
    clear A80
    replace H := Option.bind_eq_some_iff.mp H
    obtain ⟨⟨t221, t222⟩, A90, H⟩ := H
    replace H : (if a1 < 0 then (tripwirelaw01_FixnumSums.j0 k l0 (wrap64 (-(wrap64 (a1 + 1)))) t214 t218 t219 t220 t221 t222 ([] : List Int) (l0.length : Int)) else (tripwirelaw01_FixnumSums.j0 k l0 a1 t214 t218 t219 t220 t221 t222 ([] : List Int) (l0.length : Int))) = some r := H
    have A9 := Aside0.mk A90
    clear A90
    have HC10 := Aside0.mk H
    clear H
    go_enter Try.func10, Try.ntmps10
    go_upto_if 40 with (first | ((with_reducible refine gate_callee (f := 37) rfl ?_); refine goesL_ (some 17) rfl rfl Try.func37 (by kernel_rfl) rfl #[] rfl (by (try simp only [List.map_toArray, List.map_cons, List.map_nil]); first | done | rfl | (simp only [List.length_drop, List.length_take]; rfl)) ?_; (with_reducible refine (tripwirelaw01_works.calls k  t214 _ A3.out).mono ?_); rintro e w11 ⟨rfl, hb⟩; refine ⟨_, rfl, ?_⟩; have n0_ := Aside0.mk (below_step (by repeat (first | (with_reducible first | exact HB.out | apply below_alloc | apply pw_below_drewN | apply below_drew1) | exact HB.out)) hb); clear HB; have HB := n0_; clear n0_; (try clear hb); (try clear hb2); (try clear hk); (try clear hi)) | ((with_reducible refine gate_callee (f := 54) rfl ?_); refine goesL_ (some 23) rfl rfl Try.func54 (by kernel_rfl) rfl #[.slice A0 l0.length c0] rfl (by (try simp only [List.map_toArray, List.map_cons, List.map_nil]); first | done | rfl | (simp only [List.length_drop, List.length_take]; rfl)) ?_; (with_reducible refine (tripwireref00_LentLongs.calls _ _ l0 t215 _ ?side1 ?side2 A6.out).mono ?_); (case side1 => repeat (first | exact (Kd.C_below HR0.out HB.out) | (with_reducible refine Kd.C_alloc ?_ _) | (with_reducible refine Kd.C_drewN ?_ _) | (with_reducible refine Kd.C_drew ?_))); (case side2 => exact HC0.out); rintro e w12 ⟨v216, rfl, ho0, hb, hlent⟩; refine ⟨_, rfl, ?_⟩; have HL := Aside0.mk hlent; clear hlent; have n0_ := Aside0.mk (Kd.R_lower ho0 (below_size (by repeat (first | (with_reducible first | exact HB.out | apply below_alloc | apply pw_below_drewN | apply below_drew1) | exact HB.out)))); have n1_ := Aside0.mk (below_step (by repeat (first | (with_reducible first | exact HB.out | apply below_alloc | apply pw_below_drewN | apply below_drew1) | exact HB.out)) hb); clear HB; have HO217 := n0_; have HB := n1_; clear n0_ n1_; (try clear hb); (try clear hb2); (try clear hk); (try clear hi); (try clear ho0); obtain ⟨Ao13, co13, eo13⟩ := Kd.R_slice HO217.out; subst eo13) | ((with_reducible refine gate_callee (f := 55) rfl ?_); refine goesL_ (some 26) rfl rfl Try.func55 (by kernel_rfl) rfl #[.slice Ao13 t215.length co13] rfl (by (try simp only [List.map_toArray, List.map_cons, List.map_nil]); first | done | rfl | (simp only [List.length_drop, List.length_take]; rfl)) ?_; (with_reducible refine (fixnum_Sum.calls k _ _ t215 t218 t219 _ ?side1 ?side2 A7.out).mono ?_); (case side1 => repeat (first | exact (Kd.R_reads' HO217.out).2.2 | (with_reducible refine Kd.C_alloc ?_ _) | (with_reducible refine Kd.C_drewN ?_ _) | (with_reducible refine Kd.C_drew ?_))); (case side2 => exact (Kd.R_reads' HO217.out).2.1); rintro e w' ⟨rfl, ⟨nd, rfl⟩⟩; refine ⟨_, rfl, ?_⟩) | ((with_reducible refine gate_callee (f := 56) rfl ?_); refine goesL_ (some 31) rfl rfl Try.func56 (by kernel_rfl) rfl #[.slice Ao13 t215.length co13, .slice A0 l0.length c0] rfl (by (try simp only [List.map_toArray, List.map_cons, List.map_nil]); first | done | rfl | (simp only [List.length_drop, List.length_take]; rfl)) ?_; (with_reducible refine (tripwireref00_WholeLongs.calls _ _ t215 _ _ l0 t220 _ ?side2 ?side1 ?side3 ?side4 A8.out).mono ?_); (case side1 => repeat (first | exact (Kd.R_reads' HO217.out).2.2 | (with_reducible refine Kd.C_alloc ?_ _) | (with_reducible refine Kd.C_drewN ?_ _) | (with_reducible refine Kd.C_drew ?_))); (case side2 => exact (by (with_reducible repeat (first | apply Lent.alloc | apply Lent.drewN | apply Lent.drew)); exact HL.out)); (case side3 => repeat (first | exact (Kd.C_below HR0.out (by repeat (first | (with_reducible first | exact HB.out | apply below_alloc | apply pw_below_drewN | apply below_drew1) | exact HB.out))) | (with_reducible refine Kd.C_alloc ?_ _) | (with_reducible refine Kd.C_drewN ?_ _) | (with_reducible refine Kd.C_drew ?_))); (case side4 => exact HC0.out); rintro e w' ⟨rfl, ⟨nd, rfl⟩⟩; refine ⟨_, rfl, ?_⟩) | ((with_reducible refine gate_callee (f := 57) rfl ?_); refine goesL_ (some 34) rfl rfl Try.func57 (by kernel_rfl) rfl #[.slice A0 l0.length c0] rfl (by (try simp only [List.map_toArray, List.map_cons, List.map_nil]); first | done | rfl | (simp only [List.length_drop, List.length_take]; rfl)) ?_; (with_reducible refine (tripwireref01_Sum.calls k _ _ l0 t221 t222 _ ?side1 ?side2 A9.out).mono ?_); (case side1 => repeat (first | exact (Kd.C_below HR0.out (by repeat (first | (with_reducible first | exact HB.out | apply below_alloc | apply pw_below_drewN | apply below_drew1) | exact HB.out))) | (with_reducible refine Kd.C_alloc ?_ _) | (with_reducible refine Kd.C_drewN ?_ _) | (with_reducible refine Kd.C_drew ?_))); (case side2 => exact HC0.out); rintro e w' ⟨rfl, ⟨nd, rfl⟩⟩; refine ⟨_, rfl, ?_⟩))
    (try simp only [Act.put, List.setIfInBounds_toArray, List.set_cons_zero, List.set_cons_succ])
    go_cut [1] (fun v1 wc => ∃ (kq : Nat) (x1_9 : Int), v1 = .int .i64 x1_9 ∧ Aside0 (tripwirelaw01_FixnumSums.j0 kq l0 x1_9 t214 t218 t219 t220 t221 t222 ([] : List Int) (l0.length : Int) = some r) ∧ Aside0 (kq ≤ k) ∧ Aside0 (Kd.R (Kd.int .i64) 2 wc w.heap.size (fun _ => True) (.slice none 0 0) ([] : List Int)) ∧ Aside0 (Below w.heap.size w wc))
    case first =>
      have H := HC10.out
      clear HC10
      by_cases c14 : a1 < 0
      · rw [if_pos c14] at H
        have c14b0 : decide (a1 < 0) = true := decide_eq_true c14
        clear c14
        (first | rw [c14b0] | (simp only [i64_w, i32_w]; rw [c14b0]) | skip)
        have H' := Aside0.mk H
        clear H
        go_wp2
        go_meet
        case rel => exact ⟨_, (wrap64 (-(wrap64 (a1 + 1)))), (by first | rfl | (simp; done) | (simp [*]; done)), H', ⟨by first | omega | exact Nat.le_refl _⟩, ⟨by first | exact Kd.R_nil _ _ _ _ _ | exact Kd.N_nil _ _ _ _ _ | exact Kd.V_nil _ _ _ _ _ | exact Kd.Q_nil _ _ _ _ _ | exact Kd.S_nil _ _ _ _ _⟩, ⟨by repeat (first | (with_reducible first | exact HB.out | apply below_alloc | apply pw_below_drewN | apply below_drew1) | exact HB.out)⟩⟩
      · rw [if_neg c14] at H
        have c14b0 : decide (a1 < 0) = false := decide_eq_false c14
        clear c14
        (first | rw [c14b0] | (simp only [i64_w, i32_w]; rw [c14b0]) | skip)
        have H' := Aside0.mk H
        clear H
        go_wp2
        go_meet
        case rel => exact ⟨_, (a1), (by first | rfl | (simp; done) | (simp [*]; done)), H', ⟨by first | omega | exact Nat.le_refl _⟩, ⟨by first | exact Kd.R_nil _ _ _ _ _ | exact Kd.N_nil _ _ _ _ _ | exact Kd.V_nil _ _ _ _ _ | exact Kd.Q_nil _ _ _ _ _ | exact Kd.S_nil _ _ _ _ _⟩, ⟨by repeat (first | (with_reducible first | exact HB.out | apply below_alloc | apply pw_below_drewN | apply below_drew1) | exact HB.out)⟩⟩
    case rest =>
      clear HC10
      try clear c1
      try clear p2
      try clear c3
      try clear c4
      try clear c4b0
      try clear c4b1
      try clear c5
      try clear p6
      try clear c10
      try clear c14
      try clear c14b0
      obtain ⟨kq, x1_9, rfl, HA, HJ9, HO_12, HB⟩ := hcut
      cases kq with
      | zero => exact absurd HA.out (by simp [tripwirelaw01_FixnumSums.j0])
      | succ kj9 =>
        have H := HA.out
        clear HA
        simp only [tripwirelaw01_FixnumSums.j0] at H
        have H' := Aside0.mk H
        clear H
        go_wp2
        go_loopg [12, 14] kj9 (fun kq v12 v14 w' => ∃ (x12_2 : List Int) (x14_2 : Int), v14 = .int .i64 x14_2 ∧ Aside0 (tripwirelaw01_FixnumSums.l0 kq l0 x1_9 t214 t218 t219 t220 t221 t222 x12_2 (l0.length : Int) x14_2 = some r) ∧ Aside0 (kq ≤ kj9) ∧ Aside0 (Kd.R (Kd.int .i64) 2 w' w.heap.size (fun _ => True) v12 x12_2) ∧ Aside0 (Below w.heap.size w w'))
        case atStart => exact ⟨(([] : List Int)), (0), (by first | rfl | (simp; done) | (simp [*]; done)), H', ⟨Nat.le_refl _⟩, ⟨by (with_reducible repeat (first | apply Kd.R_alloc | apply Kd.R_drewN | apply Kd.R_drew)); exact HO_12.out⟩, ⟨by repeat (first | (with_reducible first | exact HB.out | apply below_alloc | apply pw_below_drewN | apply below_drew1) | exact HB.out)⟩⟩
        case round =>
          clear H'
          try clear c1
          try clear p2
          try clear c3
          try clear c4
          try clear c4b0
          try clear c4b1
          try clear c5
          try clear p6
          try clear c10
          try clear c14
          try clear c14b0
          try clear p2
          try clear p6
          obtain ⟨x12_2, x14_2, rfl, HA, HK2, HO_12, HB⟩ := hrel
          cases gk with
          | zero => exact absurd HA.out (by simp [tripwirelaw01_FixnumSums.l0])
          | succ k2 =>
            have H := HA.out
            clear HA
            simp only [tripwirelaw01_FixnumSums.l0] at H
            by_cases c15 : x14_2 < (l0.length : Int)
            · rw [if_pos c15] at H
              have c15b0 : decide (x14_2 < (l0.length : Int)) = true := decide_eq_true c15
              clear c15
              by_cases c16 : (l0.length : Int) = 0
              · rw [if_pos c16] at H
                exact absurd H (by simp)
              · rw [if_neg c16] at H
                have c16b0 : ((l0.length : Int) == 0) = false := beq_eq_false_iff_ne.mpr c16
                have c16b1 : ((l0.length : Int) != 0) = true := bne_iff_ne.mpr c16
                have c16b2 : ¬ (l0 = []) := fun h_ => c16 (by rw [h_]; rfl)
                obtain ⟨ji17, hji17⟩ : ∃ j_ : Int, (Int.tmod (wrap64 ((wrap64 ((wrap64 ((l0.length : Int) - 1)) - x14_2)) + (Int.tmod x1_9 (l0.length : Int)))) (l0.length : Int)) = j_ := ⟨_, rfl⟩
                replace H : (if 0 ≤ (ji17) then (if (ji17) < (l0.length : Int) then (if x12_2.length < 17592186044416 then (tripwirelaw01_FixnumSums.l0 k2 l0 x1_9 t214 t218 t219 t220 t221 t222 (x12_2 ++ [rd l0 (ji17)]) (l0.length : Int) (wrap64 (x14_2 + 1))) else (none)) else (none)) else (none)) = some r := by first | (rw [hji17] at H; exact H) | (simp only [hji17] at H ⊢; exact H)
                by_cases c18 : 0 ≤ (ji17)
                · rw [if_pos c18] at H
                  have c18b0 : decide (0 ≤ (ji17)) = true := decide_eq_true c18
                  clear c18
                  by_cases c19 : (ji17) < (l0.length : Int)
                  · rw [if_pos c19] at H
                    have c19b0 : decide ((ji17) < (l0.length : Int)) = true := decide_eq_true c19
                    clear c19
                    by_cases c20 : x12_2.length < 17592186044416
                    · rw [if_pos c20] at H
                      have LMc20 := Aside0.mk c20
                      clear c20
                      obtain ⟨y224, hy224⟩ : ∃ y_ : List Int, y_ = (x12_2 ++ [rd l0 (ji17)]) := ⟨_, rfl⟩
                      replace H : (tripwirelaw01_FixnumSums.l0 k2 l0 x1_9 t214 t218 t219 t220 t221 t222 y224 (l0.length : Int) (wrap64 (x14_2 + 1))) = some r := by first | (rw [hy224]; with_reducible exact H) | (have H2_ := (Option.bind_some _ _).symm.trans H; rw [hy224]; with_reducible exact H2_) | (have H2_ := (Option.bind_some _ _).symm.trans H; with_reducible exact H2_) | with_reducible exact H | (rw [hy224]; exact H) | exact H
                      have Ny224 := Aside0.mk hy224
                      clear hy224
                      have H' := Aside0.mk H
                      clear H
                      have p223 : 0 ≤ ((ji17) : Int) := of_decide_eq_true (by first | (with_reducible assumption) | assumption)
                      have q223 : (ji17) < (l0.length : Int) := of_decide_eq_true (by first | (with_reducible assumption) | assumption)
                      obtain ⟨ad223, e223, hx223_0⟩ := Kd.at_int HR0.out (ji17) p223 q223
                      cases e223
                      replace hx223_0 := (HB.out.cell (World.block_lt_of_cell? w _ hx223_0)).trans hx223_0
                      replace p223 := eq_true p223
                      replace q223 := eq_true q223
                      go_wp2_with (first | ((with_reducible refine gate_builtin (b := .append) (xs := #[.tmp 49, .tmp 63]) rfl ?_); at_builtin; refine Kd.R_append (Kd.int .i64) (w0 := w) w.heap.size rfl (.tmp 49) (.tmp 63) 56 2 (.int .i64 0) 8 rfl Try.underlying56 info2 rfl (by decide) (by omega) u12 x12_2 (rd l0 (ji17)) [.int .i64 (rd l0 (ji17))] (fun _ => True) (fun _ => False) rfl rfl ?aP (fun _ hk => hk.elim) ?aF ?aO ?aB ?aS ?aL ?_; (case aP => exact rfl); (case aB => exact (by repeat (first | (with_reducible first | exact HB.out | apply below_alloc | apply pw_below_drewN | apply below_drew1) | exact HB.out))); (case aF => exact (fun _ _ => trivial)); (case aO => exact (by (with_reducible repeat (first | apply Kd.R_alloc | apply Kd.R_drewN | apply Kd.R_drew)); exact HO_12.out)); (case aS => exact (below_size (by repeat (first | (with_reducible first | exact HB.out | apply below_alloc | apply pw_below_drewN | apply below_drew1) | exact HB.out)))); (case aL => have := LMc20.out; omega); intro v225 w21 ho hb hg hat; rw [← Ny224.out] at ho; have n0_ := Aside0.mk (hb); have n1_ := Aside0.mk (ho); clear HB; clear HO_12; have HB := n0_; have HO226 := n1_; clear n0_ n1_; clear ho hb hg hat))
                      go_roundg k2
                      case measure => have := HJ9.out; have := HK2.out; omega
                      case rel => exact ⟨(y224), (wrap64 (x14_2 + 1)), (by first | rfl | (simp; done) | (simp [*]; done)), H', ⟨by have := HJ9.out; have := HK2.out; omega⟩, ⟨by (with_reducible repeat (first | apply Kd.R_alloc | apply Kd.R_drewN | apply Kd.R_drew)); exact HO226.out⟩, ⟨by repeat (first | (with_reducible first | exact HB.out | apply below_alloc | apply pw_below_drewN | apply below_drew1) | exact HB.out)⟩⟩
                    · rw [if_neg c20] at H
                      exact absurd H (by simp)
                  · rw [if_neg c19] at H
                    exact absurd H (by simp)
                · rw [if_neg c18] at H
                  exact absurd H (by simp)
            · rw [if_neg c15] at H
              have c15b0 : decide (x14_2 < (l0.length : Int)) = false := decide_eq_false c15
              clear c15
              replace H := Option.bind_eq_some_iff.mp H
              obtain ⟨⟨t227, t228⟩, A220, H⟩ := H
              replace H : (if t214 = true then (if t220 = true then (if t218 = t221 then (if (t219 == t222) = true then (if t227 = t218 then (some (t228 == t219)) else (some false)) else (some false)) else (some false)) else (some false)) else (some false)) = some r := H
              have A22 := Aside0.mk A220
              clear A220
              by_cases c23 : t214 = true
              · subst c23
                have H1 : (if t220 = true then (if t218 = t221 then (if (t219 == t222) = true then (if t227 = t218 then (some (t228 == t219)) else (some false)) else (some false)) else (some false)) else (some false)) = some r := by rw [if_pos rfl] at H; exact H
                clear H
                have H := H1
                clear H1
                by_cases c24 : t220 = true
                · subst c24
                  have H1 : (if t218 = t221 then (if (t219 == t222) = true then (if t227 = t218 then (some (t228 == t219)) else (some false)) else (some false)) else (some false)) = some r := by rw [if_pos rfl] at H; exact H
                  clear H
                  have H := H1
                  clear H1
                  by_cases c25 : t218 = t221
                  · rw [if_pos c25] at H
                    have c25b0 : (t218 == t221) = true := beq_iff_eq.mpr c25
                    have c25b1 : (t218 != t221) = false := bne_eq_false_iff_eq.mpr c25
                    clear c25
                    by_cases c26 : (t219 == t222) = true
                    · rw [if_pos c26] at H
                      have c26b0 : (t219 == t222) = true := c26
                      (try (have c26b1 : decide (t219 = t222) = true := by simpa using c26))
                      (try (have c26b2 : (t219 == t222) = true := by simpa using c26))
                      clear c26
                      by_cases c27 : t227 = t218
                      · rw [if_pos c27] at H
                        have c27b0 : (t227 == t218) = true := beq_iff_eq.mpr c27
                        have c27b1 : (t227 != t218) = false := bne_eq_false_iff_eq.mpr c27
                        clear c27
                        obtain rfl := Option.some.inj H
                        obtain ⟨Ao28, co28, eo28⟩ := Kd.R_slice HO_12.out
                        subst eo28
                        go_wp2_with (first | ((with_reducible refine gate_callee (f := 55) rfl ?_); refine goesL_ (some 67) rfl rfl Try.func55 (by kernel_rfl) rfl #[.slice Ao28 x12_2.length co28] rfl (by (try simp only [List.map_toArray, List.map_cons, List.map_nil]); first | done | rfl | (simp only [List.length_drop, List.length_take]; rfl)) ?_; (with_reducible refine (fixnum_Sum.calls k2 _ _ x12_2 t227 t228 _ ?side1 ?side2 A22.out).mono ?_); (case side1 => repeat (first | exact (Kd.R_reads' HO_12.out).2.2 | (with_reducible refine Kd.C_alloc ?_ _) | (with_reducible refine Kd.C_drewN ?_ _) | (with_reducible refine Kd.C_drew ?_))); (case side2 => exact (Kd.R_reads' HO_12.out).2.1); rintro e w' ⟨rfl, ⟨nd, rfl⟩⟩; refine ⟨_, rfl, ?_⟩))
                        go_ret
                        exact ⟨by first | rfl | (simp [errW_none, errW_some] <;> rfl) | (simp [*, errW_none, errW_some] <;> rfl), by repeat (first | (with_reducible first | exact HB.out | apply below_alloc | apply pw_below_drewN | apply below_drew1) | exact HB.out)⟩
                      · rw [if_neg c27] at H
                        have c27b0 : (t227 == t218) = false := beq_eq_false_iff_ne.mpr c27
                        have c27b1 : (t227 != t218) = true := bne_iff_ne.mpr c27
                        obtain rfl := Option.some.inj H
                        obtain ⟨Ao29, co29, eo29⟩ := Kd.R_slice HO_12.out
                        subst eo29
                        go_wp2_with (first | ((with_reducible refine gate_callee (f := 55) rfl ?_); refine goesL_ (some 67) rfl rfl Try.func55 (by kernel_rfl) rfl #[.slice Ao29 x12_2.length co29] rfl (by (try simp only [List.map_toArray, List.map_cons, List.map_nil]); first | done | rfl | (simp only [List.length_drop, List.length_take]; rfl)) ?_; (with_reducible refine (fixnum_Sum.calls k2 _ _ x12_2 t227 t228 _ ?side1 ?side2 A22.out).mono ?_); (case side1 => repeat (first | exact (Kd.R_reads' HO_12.out).2.2 | (with_reducible refine Kd.C_alloc ?_ _) | (with_reducible refine Kd.C_drewN ?_ _) | (with_reducible refine Kd.C_drew ?_))); (case side2 => exact (Kd.R_reads' HO_12.out).2.1); rintro e w' ⟨rfl, ⟨nd, rfl⟩⟩; refine ⟨_, rfl, ?_⟩))
                        go_ret
                        exact ⟨by first | rfl | (simp [errW_none, errW_some] <;> rfl) | (simp [*, errW_none, errW_some] <;> rfl), by repeat (first | (with_reducible first | exact HB.out | apply below_alloc | apply pw_below_drewN | apply below_drew1) | exact HB.out)⟩
                    · rw [if_neg c26] at H
                      have c26b0 : (t219 == t222) = false := by simpa using c26
                      (try (have c26b1 : decide (t219 = t222) = false := by simpa using c26))
                      (try (have c26b2 : (t219 == t222) = false := by simpa using c26))
                      (try (have c26b3 : ¬ (t219 = t222) := by simpa using c26))
                      clear c26
                      obtain rfl := Option.some.inj H
                      obtain ⟨Ao30, co30, eo30⟩ := Kd.R_slice HO_12.out
                      subst eo30
                      go_wp2_with (first | ((with_reducible refine gate_callee (f := 55) rfl ?_); refine goesL_ (some 67) rfl rfl Try.func55 (by kernel_rfl) rfl #[.slice Ao30 x12_2.length co30] rfl (by (try simp only [List.map_toArray, List.map_cons, List.map_nil]); first | done | rfl | (simp only [List.length_drop, List.length_take]; rfl)) ?_; (with_reducible refine (fixnum_Sum.calls k2 _ _ x12_2 t227 t228 _ ?side1 ?side2 A22.out).mono ?_); (case side1 => repeat (first | exact (Kd.R_reads' HO_12.out).2.2 | (with_reducible refine Kd.C_alloc ?_ _) | (with_reducible refine Kd.C_drewN ?_ _) | (with_reducible refine Kd.C_drew ?_))); (case side2 => exact (Kd.R_reads' HO_12.out).2.1); rintro e w' ⟨rfl, ⟨nd, rfl⟩⟩; refine ⟨_, rfl, ?_⟩))
                      go_ret
                      exact ⟨by first | rfl | (simp [errW_none, errW_some] <;> rfl) | (simp [*, errW_none, errW_some] <;> rfl), by repeat (first | (with_reducible first | exact HB.out | apply below_alloc | apply pw_below_drewN | apply below_drew1) | exact HB.out)⟩
                  · rw [if_neg c25] at H
                    have c25b0 : (t218 == t221) = false := beq_eq_false_iff_ne.mpr c25
                    have c25b1 : (t218 != t221) = true := bne_iff_ne.mpr c25
                    obtain rfl := Option.some.inj H
                    obtain ⟨Ao31, co31, eo31⟩ := Kd.R_slice HO_12.out
                    subst eo31
                    go_wp2_with (first | ((with_reducible refine gate_callee (f := 55) rfl ?_); refine goesL_ (some 67) rfl rfl Try.func55 (by kernel_rfl) rfl #[.slice Ao31 x12_2.length co31] rfl (by (try simp only [List.map_toArray, List.map_cons, List.map_nil]); first | done | rfl | (simp only [List.length_drop, List.length_take]; rfl)) ?_; (with_reducible refine (fixnum_Sum.calls k2 _ _ x12_2 t227 t228 _ ?side1 ?side2 A22.out).mono ?_); (case side1 => repeat (first | exact (Kd.R_reads' HO_12.out).2.2 | (with_reducible refine Kd.C_alloc ?_ _) | (with_reducible refine Kd.C_drewN ?_ _) | (with_reducible refine Kd.C_drew ?_))); (case side2 => exact (Kd.R_reads' HO_12.out).2.1); rintro e w' ⟨rfl, ⟨nd, rfl⟩⟩; refine ⟨_, rfl, ?_⟩))
                    go_ret
                    exact ⟨by first | rfl | (simp [errW_none, errW_some] <;> rfl) | (simp [*, errW_none, errW_some] <;> rfl), by repeat (first | (with_reducible first | exact HB.out | apply below_alloc | apply pw_below_drewN | apply below_drew1) | exact HB.out)⟩
                · replace c24 := Bool.eq_false_iff.mpr c24
                  subst c24
                  have H1 : (some false) = some r := by rw [if_neg (show ¬ (false = true) by decide)] at H; exact H
                  clear H
                  have H := H1
                  clear H1
                  obtain rfl := Option.some.inj H
                  obtain ⟨Ao32, co32, eo32⟩ := Kd.R_slice HO_12.out
                  subst eo32
                  go_wp2_with (first | ((with_reducible refine gate_callee (f := 55) rfl ?_); refine goesL_ (some 67) rfl rfl Try.func55 (by kernel_rfl) rfl #[.slice Ao32 x12_2.length co32] rfl (by (try simp only [List.map_toArray, List.map_cons, List.map_nil]); first | done | rfl | (simp only [List.length_drop, List.length_take]; rfl)) ?_; (with_reducible refine (fixnum_Sum.calls k2 _ _ x12_2 t227 t228 _ ?side1 ?side2 A22.out).mono ?_); (case side1 => repeat (first | exact (Kd.R_reads' HO_12.out).2.2 | (with_reducible refine Kd.C_alloc ?_ _) | (with_reducible refine Kd.C_drewN ?_ _) | (with_reducible refine Kd.C_drew ?_))); (case side2 => exact (Kd.R_reads' HO_12.out).2.1); rintro e w' ⟨rfl, ⟨nd, rfl⟩⟩; refine ⟨_, rfl, ?_⟩))
                  go_ret
                  exact ⟨by first | rfl | (simp [errW_none, errW_some] <;> rfl) | (simp [*, errW_none, errW_some] <;> rfl), by repeat (first | (with_reducible first | exact HB.out | apply below_alloc | apply pw_below_drewN | apply below_drew1) | exact HB.out)⟩
              · replace c23 := Bool.eq_false_iff.mpr c23
                subst c23
                have H1 : (some false) = some r := by rw [if_neg (show ¬ (false = true) by decide)] at H; exact H
                clear H
                have H := H1
                clear H1
                obtain rfl := Option.some.inj H
                obtain ⟨Ao33, co33, eo33⟩ := Kd.R_slice HO_12.out
                subst eo33
                go_wp2_with (first | ((with_reducible refine gate_callee (f := 55) rfl ?_); refine goesL_ (some 67) rfl rfl Try.func55 (by kernel_rfl) rfl #[.slice Ao33 x12_2.length co33] rfl (by (try simp only [List.map_toArray, List.map_cons, List.map_nil]); first | done | rfl | (simp only [List.length_drop, List.length_take]; rfl)) ?_; (with_reducible refine (fixnum_Sum.calls k2 _ _ x12_2 t227 t228 _ ?side1 ?side2 A22.out).mono ?_); (case side1 => repeat (first | exact (Kd.R_reads' HO_12.out).2.2 | (with_reducible refine Kd.C_alloc ?_ _) | (with_reducible refine Kd.C_drewN ?_ _) | (with_reducible refine Kd.C_drew ?_))); (case side2 => exact (Kd.R_reads' HO_12.out).2.1); rintro e w' ⟨rfl, ⟨nd, rfl⟩⟩; refine ⟨_, rfl, ?_⟩))
                go_ret
                exact ⟨by first | rfl | (simp [errW_none, errW_some] <;> rfl) | (simp [*, errW_none, errW_some] <;> rfl), by repeat (first | (with_reducible first | exact HB.out | apply below_alloc | apply pw_below_drewN | apply below_drew1) | exact HB.out)⟩

/-- THE ONE PURE STATEMENT of tripwirelaw01_FixnumSums: yours. -/
def tripwirelaw01_FixnumSums.Pure : Prop := ∀ (l0 : List Int) (a1 : Int), l0.length ≤ maxLen → l0.length * 8 ≤ 140737488351232 → (∀ x ∈ l0, (Lit.int .i64 x).wf = true) → (Lit.int .i64 a1).wf = true → ∃ k, tripwirelaw01_FixnumSums.f k l0 a1 = some true
theorem tripwirelaw01_FixnumSums.walk (P : tripwirelaw01_FixnumSums.Pure) (a0 : Option Addr) (len0 cap0 : Nat) (z0 : List Int) (a1 : Int) (w : World) (w0 : (a0 = none ∧ len0 = 0 ∧ cap0 = 0 ∧ z0 = []) ∨ ∃ x, a0 = some x ∧ len0 ≤ cap0 ∧ cap0 ≤ maxLen ∧ z0.length = cap0 ∧ (∀ i, i < z0.length → w.cell? (x.add i) = some (.int .i64 (z0.getD i 0))) ∧ ∀ n ∈ z0, (Lit.int .i64 n).wf = true) (y0 : len0 * 8 ≤ 140737488351232) (w1 : (Lit.int .i64 a1).wf = true) :
    Calls Try.prog 10 #[.slice a0 len0 cap0, .int .i64 a1] w fun e w' => e = .returned (.bool true) ∧ Below w.heap.size w w' := by
  obtain ⟨l0, rfl, hr0, hm0, hw0, hc0⟩ := ReadsInt.ofRowC w0
  obtain ⟨k, h⟩ := P l0 a1 hm0 y0 hw0 w1
  refine (tripwirelaw01_FixnumSums.calls k _ _ l0 a1 true w (Kd.C_of_reads (d := (0 : Int)) (h1 := fun _ => rfl) hr0) hc0 h).mono ?_
  rintro e w' ⟨rfl, hd⟩
  exact ⟨rfl, hd⟩

end Go.Proofs.Ytcninjadeagenaa.HFixnum
