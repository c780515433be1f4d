/- The program's Decode, where bytes are taken, and where their frame is refused. No condition but those that each theorem names. -/
import Derived.Test.YthkkphkeonnnfaaVT
namespace Go.Proofs.Ythkkphkeonnnfaa.Abs
open Go
set_option linter.unusedVariables false
set_option linter.unusedSimpArgs false
set_option maxRecDepth 100000
set_option maxHeartbeats 4000000
/-- No table. -/
def noT : AV := .agg [.str [], .slice none 0 (.ex 0), .int .i64 0, .slice none 0 (.ex 0), .slice none 0 (.ex 0), .slice none 0 (.ex 0)]
structure DecG (g : Cg) : Prop where
  H : ReadH g
  decode : Plain g 22 = true
  table : Plain g 48 = true
  takeText : Plain g 67 = true
  unframe : Plain g 46 = true
  check : Plain g 62 = true
  sum : Plain g 81 = true
  cg : g.cg = 25
  wt : g.wt = 93
  cG : Nat.beq 47 g.cg = false
  ms : (g.ms.all fun m => !(Nat.beq g.cg m.f)) = true
  cS : ∀ k, CallS Try.prog (callA Try.prog g (exec Try.prog g k))
theorem unframeP_len {b s r : List Nat} (h : unframeP b = some (s, r)) : r.length < b.length := by
  unfold unframeP at h
  split at h
  · rename_i s1 r1 h1
    have := (textP_drop h1).2.1
    split at h
    · cases h
    split at h
    · injection h with h; injection h with h2 h3
      rw [← h3, List.length_drop]; omega
    · cases h
  · cases h
theorem unframeP_text {b s r : List Nat} (h : unframeP b = some (s, r)) : s.length ≤ 65536 ∧ ∀ c ∈ s, c ∈ b := by
  unfold unframeP at h
  split at h
  · rename_i s1 r1 h1
    obtain ⟨-, -, k1, k2⟩ := textP_drop h1
    split at h
    · cases h
    split at h
    · injection h with h; injection h with h2 h3
      subst h2; exact ⟨k1, k2⟩
    · cases h
  · cases h
attribute [local irreducible] W Cl Bd
variable {g : Cg} {V : K → Option (List AV)}
theorem decode_bad (D : DecG g) {b : List Nat} (hb : ∀ c ∈ b, c < 256) (hl : b.length ≤ 281474976710656) (hu : ∀ s, unframeP b ≠ some (s, [])) :
    Cl Try.prog g V 22 [.str b] [] fun o _ => o = .ret (.tup [noT, .int .i64 194]) := by
  refine Cl.enter D.decode Try.func22 rfl ?_
  have ht := unframe_c (V := V) D.unframe D.takeText D.H.G.take D.check D.sum hb hl (at_ := 0) (Nat.zero_le _)
  rw [List.drop_zero] at ht
  cases hr : unframeP b with
  | none =>
    simp only [hr] at ht
    repeat first | (refine W.callX rfl rfl rfl rfl ht ?_; intro e he) | (with_reducible first | refine za ?_ | refine zb ?_ | refine zc ?_) | refine ym zr ?_ | refine yn 0 zr ?_ | refine yn 1 zr ?_ | refine yn 2 zr ?_ | refine yn 3 zr ?_ | (refine yo zr ?_; intro _) | (refine yp zr ?_; intro _) | refine yq zr ?_ | refine ys zr ?_ | refine yu zr ?_ | refine yv zr ?_ | (with_reducible first | refine zd ?_ | refine ze ?_ | refine zf ?_ | refine zg ?_ | refine zh ?_ | refine zi ?_ | refine zj ?_ | refine zk ?_ | refine zl ?_) | refine zz zr ?_ | refine zw (by decide +kernel) ?_ | refine zx zr zr zr ?_ | refine zy zr zr ?_ | refine W.condT zr ?_ | refine W.condF zr ?_
    repeat' first | refine W.doneC tblOk (.cell 0 rfl rfl rfl rfl (.tmp rfl .nil)) ?_ | refine W.doneC tblOk (.cell 1 rfl rfl rfl rfl (.tmp rfl .nil)) ?_ | refine W.doneC tblOk (.cell 2 rfl rfl rfl rfl (.tmp rfl .nil)) ?_ | refine W.doneC tblOk (.cell 3 rfl rfl rfl rfl (.tmp rfl .nil)) ?_ | refine W.doneC tblOk (.cell 4 rfl rfl rfl rfl (.tmp rfl .nil)) ?_ | (with_reducible first | refine za ?_ | refine zb ?_ | refine zc ?_) | refine ym zr ?_ | refine yn 0 zr ?_ | refine yn 1 zr ?_ | refine yn 2 zr ?_ | refine yn 3 zr ?_ | (refine yo zr ?_; intro _) | (refine yp zr ?_; intro _) | refine yq zr ?_ | refine ys zr ?_ | refine yu zr ?_ | refine yv zr ?_ | (with_reducible first | refine zd ?_ | refine ze ?_ | refine zf ?_ | refine zg ?_ | refine zh ?_ | refine zi ?_ | refine zj ?_ | refine zk ?_ | refine zl ?_) | refine zz zr ?_ | refine zw (by decide +kernel) ?_ | refine zx zr zr zr ?_ | refine zy zr zr ?_ | (refine W.condP zr ?_ ?_ <;> intro _) | refine W.condT zr ?_ | refine W.condF zr ?_ | (refine W.cond zr ?_ ?_ <;> intro _) | (refine W.gs zr zr zr zr ?_ ?_ <;> intro _) | (refine W.gsB zr zr zr zr ?_ ?_ <;> intro _) | refine W.done zr ?_ | refine W.doneN zr ?_
    all_goals first
      | rfl
      | exact (‹¬ ¬ e = 0› he).elim
  | some q =>
    obtain ⟨s, r⟩ := q
    simp only [hr] at ht
    have hr0 : r ≠ [] := fun e => hu s (by rw [hr, e])
    have hlt := unframeP_len hr
    have hrl : ¬ ((b.length - r.length : Nat) : Int) = (b.length : Int) := by
      cases r with
      | nil => exact absurd rfl hr0
      | cons c r => simp at hlt ⊢; omega
    repeat' first | refine W.callP rfl rfl rfl rfl ht ?_ | refine W.doneC tblOk (.cell 0 rfl rfl rfl rfl (.tmp rfl .nil)) ?_ | refine W.doneC tblOk (.cell 1 rfl rfl rfl rfl (.tmp rfl .nil)) ?_ | refine W.doneC tblOk (.cell 2 rfl rfl rfl rfl (.tmp rfl .nil)) ?_ | refine W.doneC tblOk (.cell 3 rfl rfl rfl rfl (.tmp rfl .nil)) ?_ | refine W.doneC tblOk (.cell 4 rfl rfl rfl rfl (.tmp rfl .nil)) ?_ | (with_reducible first | refine za ?_ | refine zb ?_ | refine zc ?_) | refine ym zr ?_ | refine yn 0 zr ?_ | refine yn 1 zr ?_ | refine yn 2 zr ?_ | refine yn 3 zr ?_ | (refine yo zr ?_; intro _) | (refine yp zr ?_; intro _) | refine yq zr ?_ | refine ys zr ?_ | refine yu zr ?_ | refine yv zr ?_ | (with_reducible first | refine zd ?_ | refine ze ?_ | refine zf ?_ | refine zg ?_ | refine zh ?_ | refine zi ?_ | refine zj ?_ | refine zk ?_ | refine zl ?_) | refine zz zr ?_ | refine zw (by decide +kernel) ?_ | refine zx zr zr zr ?_ | refine zy zr zr ?_ | (refine W.condP zr ?_ ?_ <;> intro _) | refine W.condT zr ?_ | refine W.condF zr ?_ | (refine W.cond zr ?_ ?_ <;> intro _) | (refine W.gs zr zr zr zr ?_ ?_ <;> intro _) | (refine W.gsB zr zr zr zr ?_ ?_ <;> intro _) | refine W.done zr ?_ | refine W.doneN zr ?_
    all_goals first
      | rfl
      | exact (‹¬ ¬ ((b.length - r.length : Nat) : Int) = (b.length : Int)› hrl).elim
theorem dec1_b (D : DecG g) {s : List Nat} (hs : ∀ c ∈ s, c < 256) (hl : s.length ≤ 65536) (i4 i7 : K) :
    Bd Try.prog g V 47 [.ptr (some (i4, 0)), .ptr (some (i7, 0))] [(i7, .cells [.str [], .slice none 0 (.ex 0), .int .i64 0, .slice none 0 (.ex 0), .slice none 0 (.ex 0), .slice none 0 (.ex 0)] 26 6 true), (i4, .cells [.str s] 9 1 true)] fun o Δ => match tableP s with
      | some y => o = .ret (.tup []) ∧ ∃ (x : Table) (R : Dm), CpT R x y ∧ Δ = (i7, .cells [.str x.name, x.regs.v, .int .i64 x.slots, x.consts.v, x.code.v, x.states.v] 26 6 true) :: R
      | none => o = .pan (pn 194) := by
  refine Bd.enter Try.func47 rfl ?_
  have ht := fun k => rtable_c (V := V) D.H D.table D.takeText D.cS hs hl k
  repeat first | (with_reducible first | refine za ?_ | refine zb ?_ | refine zc ?_) | refine ym zr ?_ | refine yn 0 zr ?_ | refine yn 1 zr ?_ | refine yn 2 zr ?_ | refine yn 3 zr ?_ | (refine yo zr ?_; intro _) | (refine yp zr ?_; intro _) | refine yq zr ?_ | refine ys zr ?_ | refine yu zr ?_ | refine yv zr ?_ | (with_reducible first | refine zd ?_ | refine ze ?_ | refine zf ?_ | refine zg ?_ | refine zh ?_ | refine zi ?_ | refine zj ?_ | refine zk ?_ | refine zl ?_) | refine zz zr ?_ | refine zw (by decide +kernel) ?_ | refine zx zr zr zr ?_ | refine zy zr zr ?_ | refine W.condT zr ?_ | refine W.condF zr ?_
  rename_i k5
  have ht := ht k5
  cases hy : tableP s with
  | none =>
    simp only [hy] at ht
    exact W.callPan rfl rfl rfl rfl ht (by decide +kernel) fun _ => rfl
  | some y =>
    simp only [hy] at ht
    refine W.callR (Δ := [_]) (R := [_, _]) rfl rfl rfl rfl ht ?_ ?_
    · rintro v Δ' ⟨x, h0, -⟩
      cases h0
    rintro v Δ' ⟨x, h0, hx⟩
    injection h0 with h0; subst h0
    refine W.perm (_ :: (Δ' ++ [_])) (List.perm_middle.symm) ?_
    repeat first | (with_reducible first | refine za ?_ | refine zb ?_ | refine zc ?_) | refine ym zr ?_ | refine yn 0 zr ?_ | refine yn 1 zr ?_ | refine yn 2 zr ?_ | refine yn 3 zr ?_ | (refine yo zr ?_; intro _) | (refine yp zr ?_; intro _) | refine yq zr ?_ | refine ys zr ?_ | refine yu zr ?_ | refine yv zr ?_ | (with_reducible first | refine zd ?_ | refine ze ?_ | refine zf ?_ | refine zg ?_ | refine zh ?_ | refine zi ?_ | refine zj ?_ | refine zk ?_ | refine zl ?_) | refine zz zr ?_ | refine zw (by decide +kernel) ?_ | refine zx zr zr zr ?_ | refine zy zr zr ?_ | refine W.condT zr ?_ | refine W.condF zr ?_
    refine W.doneN rfl ?_
    exact ⟨rfl, x, _, hx.mono fun z hz => List.mem_append_left _ hz, rfl⟩
/-- What bytes are, as a table. -/
noncomputable def decodeS (b : List Nat) : Option Table := match unframeP b with
  | some (s, []) => match tableP s with
    | some y => match checkS y with
      | none => some y
      | some _ => none
    | none => none
  | _ => none
theorem decode_c (D : DecG g) {b : List Nat} (hb : ∀ c ∈ b, c < 256) (hl : b.length ≤ 281474976710656) (hc : ∀ V (x y : Table), x.Ok V → SameT x y → y.Num → y.name.length ≤ 65536 → (∀ c ∈ y.name, c < 256) → Cl Try.prog g V 13 [x.v] [] fun o _ => o = .ret (.int .i64 ((checkS y).getD 0))) :
    Cl Try.prog g V 22 [.str b] [] fun o Δ => match decodeS b with
      | some y => ∃ x : Table, o = .ret (.tup [x.v, .int .i64 0]) ∧ CpT Δ x y
      | none => o = .ret (.tup [noT, .int .i64 194]) := by
  by_cases hu : ∀ s, unframeP b ≠ some (s, [])
  · have e : decodeS b = none := by
      unfold decodeS
      split
      · rename_i s hs; exact absurd hs (hu s)
      · rfl
    rw [e]
    exact decode_bad D hb hl hu
  obtain ⟨s, hu⟩ : ∃ s, unframeP b = some (s, []) := Classical.byContradiction fun h => hu fun s e => h ⟨s, e⟩
  generalize hd : decodeS b = H
  unfold decodeS at hd
  simp only [hu] at hd
  refine Cl.enter D.decode Try.func22 rfl ?_
  have ht := unframe_c (V := V) D.unframe D.takeText D.H.G.take D.check D.sum hb hl (at_ := 0) (Nat.zero_le _)
  rw [List.drop_zero] at ht
  simp only [hu, List.length_nil, Nat.sub_zero] at ht
  obtain ⟨hsl, hsb⟩ := unframeP_text hu
  have hs : ∀ c ∈ s, c < 256 := fun c hc => hb c (hsb c hc)
  repeat' first | refine W.callP rfl rfl rfl rfl ht ?_ | (with_reducible first | refine za ?_ | refine zb ?_ | refine zc ?_) | refine ym zr ?_ | refine yn 0 zr ?_ | refine yn 1 zr ?_ | refine yn 2 zr ?_ | refine yn 3 zr ?_ | (refine yo zr ?_; intro _) | (refine yp zr ?_; intro _) | refine yq zr ?_ | refine ys zr ?_ | refine yu zr ?_ | refine yv zr ?_ | (with_reducible first | refine zd ?_ | refine ze ?_ | refine zf ?_ | refine zg ?_ | refine zh ?_ | refine zi ?_ | refine zj ?_ | refine zk ?_ | refine zl ?_) | refine zz zr ?_ | refine zw (by decide +kernel) ?_ | refine zx zr zr zr ?_ | refine zy zr zr ?_ | (refine W.condP zr ?_ ?_ <;> intro _) | refine W.condT zr ?_ | refine W.condF zr ?_ | (refine W.cond zr ?_ ?_ <;> intro _) | (refine W.gs zr zr zr zr ?_ ?_ <;> intro _) | (refine W.gsB zr zr zr zr ?_ ?_ <;> intro _) | refine W.done zr ?_ | refine W.doneN zr ?_
  · exact absurd rfl ‹¬ ((b.length : Int) = (b.length : Int))›
  rename_i i2 i4 _ i7
  have hB := dec1_b (V := V) D hs hsl i4 i7
  cases hy : tableP s with
  | none =>
    simp only [hy] at hB hd
    subst hd
    have hC : Cl Try.prog g V 25 [.func 47 [] [.ptr (some (i4, 0)), .ptr (some (i7, 0))]] [(i7, .cells [.str [], .slice none 0 (.ex 0), .int .i64 0, .slice none 0 (.ex 0), .slice none 0 (.ex 0), .slice none 0 (.ex 0)] 26 6 true), (i4, .cells [.str s] 9 1 true)] (fun o Δ => o = .ret (.int .i64 194)) := by
      rw [← D.cg]
      exact Cl.caught D.cG D.ms (hB.mono fun o Δ h => .inr ⟨194, by rw [h, D.wt]; rfl, rfl⟩)
    refine W.callR (Δ := [_, _]) (R := [_]) rfl rfl rfl rfl hC ?_ ?_
    · intro v Δ' h0
      cases h0
    intro v Δ' h0
    injection h0 with h0; subst h0
    refine W.dropD [_] (List.sublist_append_right _ _) ?_
    repeat' first | refine W.doneC tblOk (.cell 0 rfl rfl rfl rfl (.tmp rfl .nil)) ?_ | (with_reducible first | refine za ?_ | refine zb ?_ | refine zc ?_) | refine ym zr ?_ | refine yn 0 zr ?_ | refine yn 1 zr ?_ | refine yn 2 zr ?_ | refine yn 3 zr ?_ | (refine yo zr ?_; intro _) | (refine yp zr ?_; intro _) | refine yq zr ?_ | refine ys zr ?_ | refine yu zr ?_ | refine yv zr ?_ | (with_reducible first | refine zd ?_ | refine ze ?_ | refine zf ?_ | refine zg ?_ | refine zh ?_ | refine zi ?_ | refine zj ?_ | refine zk ?_ | refine zl ?_) | refine zz zr ?_ | refine zw (by decide +kernel) ?_ | refine zx zr zr zr ?_ | refine zy zr zr ?_ | (refine W.condP zr ?_ ?_ <;> intro _) | refine W.condT zr ?_ | refine W.condF zr ?_ | (refine W.cond zr ?_ ?_ <;> intro _) | (refine W.gs zr zr zr zr ?_ ?_ <;> intro _) | (refine W.gsB zr zr zr zr ?_ ?_ <;> intro _) | refine W.done zr ?_ | refine W.doneN zr ?_
    all_goals first
      | rfl
      | exact absurd (show ¬ ((194 : Int) = 0) by decide) ‹_›
  | some y =>
    have hrd := ((tableP_iff hs y).1 hy)
    have hnum := hrd.1.num
    have hyb : ∀ c ∈ y.name, c < 256 := fun c hc => hs c (by rw [hrd.2]; unfold encS; simp [hc])
    simp only [hy] at hB hd
    have hC : Cl Try.prog g V 25 [.func 47 [] [.ptr (some (i4, 0)), .ptr (some (i7, 0))]] [(i7, .cells [.str [], .slice none 0 (.ex 0), .int .i64 0, .slice none 0 (.ex 0), .slice none 0 (.ex 0), .slice none 0 (.ex 0)] 26 6 true), (i4, .cells [.str s] 9 1 true)] (fun o Δ => o = .ret (.int .i64 0) ∧ ∃ (x : Table) (R : Dm), CpT R x y ∧ Δ = (i7, .cells [.str x.name, x.regs.v, .int .i64 x.slots, x.consts.v, x.code.v, x.states.v] 26 6 true) :: R) := by
      rw [← D.cg]
      exact Cl.caught D.cG D.ms (hB.mono fun o Δ h => .inl ⟨h.1, rfl, h.2⟩)
    refine W.callR (Δ := [_, _]) (R := [_]) rfl rfl rfl rfl hC ?_ ?_
    · rintro v Δ' ⟨h0, -⟩
      cases h0
    rintro v Δ' ⟨h0, x, R, hx, rfl⟩
    injection h0 with h0; subst h0
    refine W.know fun hva hnd => ?_
    have hok := (hx.mono fun z hz => List.mem_append_left _ (List.mem_cons_of_mem _ hz)).okN (V := V) hnum hnd
    have hcx := hc _ x y hok hx.same hnum hrd.1.name hyb
    refine W.perm (_ :: (R ++ [_])) (List.Perm.refl _) ?_
    cases hck : checkS y with
    | none =>
      rw [hck] at hcx hd
      simp only at hd
      subst hd
      have hcx : Cl Try.prog g (withV V _) 13 [x.v] [] fun o _ => o = .ret (.int .i64 0) := hcx
      repeat' first | refine W.callLP rfl rfl rfl rfl hcx ?_ | (with_reducible first | refine za ?_ | refine zb ?_ | refine zc ?_) | refine ym zr ?_ | refine yn 0 zr ?_ | refine yn 1 zr ?_ | refine yn 2 zr ?_ | refine yn 3 zr ?_ | (refine yo zr ?_; intro _) | (refine yp zr ?_; intro _) | refine yq zr ?_ | refine ys zr ?_ | refine yu zr ?_ | refine yv zr ?_ | (with_reducible first | refine zd ?_ | refine ze ?_ | refine zf ?_ | refine zg ?_ | refine zh ?_ | refine zi ?_ | refine zj ?_ | refine zk ?_ | refine zl ?_) | refine zz zr ?_ | refine zw (by decide +kernel) ?_ | refine zx zr zr zr ?_ | refine zy zr zr ?_ | (refine W.condP zr ?_ ?_ <;> intro _) | refine W.condT zr ?_ | refine W.condF zr ?_ | (refine W.cond zr ?_ ?_ <;> intro _) | (refine W.gs zr zr zr zr ?_ ?_ <;> intro _) | (refine W.gsB zr zr zr zr ?_ ?_ <;> intro _) | refine W.done zr ?_ | refine W.doneN zr ?_
      · exact absurd rfl ‹¬ ((0 : Int) = 0)›
      refine W.perm (_ :: _ :: R) (.cons _ (List.perm_append_singleton _ _).symm) ?_
      repeat first | (with_reducible first | refine za ?_ | refine zb ?_ | refine zc ?_) | refine ym zr ?_ | refine yn 0 zr ?_ | refine yn 1 zr ?_ | refine yn 2 zr ?_ | refine yn 3 zr ?_ | (refine yo zr ?_; intro _) | (refine yp zr ?_; intro _) | refine yq zr ?_ | refine ys zr ?_ | refine yu zr ?_ | refine yv zr ?_ | (with_reducible first | refine zd ?_ | refine ze ?_ | refine zf ?_ | refine zg ?_ | refine zh ?_ | refine zi ?_ | refine zj ?_ | refine zk ?_ | refine zl ?_) | refine zz zr ?_ | refine zw (by decide +kernel) ?_ | refine zx zr zr zr ?_ | refine zy zr zr ?_ | refine W.condT zr ?_ | refine W.condF zr ?_
      refine W.doneC tblOk (.cell 0 rfl rfl rfl rfl (.tmp rfl .nil)) ?_
      exact ⟨x, rfl, hx.mono fun z hz => .tail _ (.tail _ hz)⟩
    | some c =>
      have hc0 : ¬ c = 0 := fun e => by
        have := checkS_ne (t := y) (by rw [hck, e]; rfl)
        rw [hck] at this; cases this
      rw [hck] at hcx hd
      simp only at hd
      subst hd
      have hcx : Cl Try.prog g (withV V _) 13 [x.v] [] fun o _ => o = .ret (.int .i64 c) := hcx
      repeat' first | refine W.callLP rfl rfl rfl rfl hcx ?_ | (with_reducible first | refine za ?_ | refine zb ?_ | refine zc ?_) | refine ym zr ?_ | refine yn 0 zr ?_ | refine yn 1 zr ?_ | refine yn 2 zr ?_ | refine yn 3 zr ?_ | (refine yo zr ?_; intro _) | (refine yp zr ?_; intro _) | refine yq zr ?_ | refine ys zr ?_ | refine yu zr ?_ | refine yv zr ?_ | (with_reducible first | refine zd ?_ | refine ze ?_ | refine zf ?_ | refine zg ?_ | refine zh ?_ | refine zi ?_ | refine zj ?_ | refine zk ?_ | refine zl ?_) | refine zz zr ?_ | refine zw (by decide +kernel) ?_ | refine zx zr zr zr ?_ | refine zy zr zr ?_ | (refine W.condP zr ?_ ?_ <;> intro _) | refine W.condT zr ?_ | refine W.condF zr ?_ | (refine W.cond zr ?_ ?_ <;> intro _) | (refine W.gs zr zr zr zr ?_ ?_ <;> intro _) | (refine W.gsB zr zr zr zr ?_ ?_ <;> intro _) | refine W.done zr ?_ | refine W.doneN zr ?_
      · refine W.perm (_ :: _ :: R) (.cons _ (List.perm_append_singleton _ _).symm) ?_
        repeat first | (with_reducible first | refine za ?_ | refine zb ?_ | refine zc ?_) | refine ym zr ?_ | refine yn 0 zr ?_ | refine yn 1 zr ?_ | refine yn 2 zr ?_ | refine yn 3 zr ?_ | (refine yo zr ?_; intro _) | (refine yp zr ?_; intro _) | refine yq zr ?_ | refine ys zr ?_ | refine yu zr ?_ | refine yv zr ?_ | (with_reducible first | refine zd ?_ | refine ze ?_ | refine zf ?_ | refine zg ?_ | refine zh ?_ | refine zi ?_ | refine zj ?_ | refine zk ?_ | refine zl ?_) | refine zz zr ?_ | refine zw (by decide +kernel) ?_ | refine zx zr zr zr ?_ | refine zy zr zr ?_ | refine W.condT zr ?_ | refine W.condF zr ?_
        refine W.doneC tblOk (.cell 0 rfl rfl rfl rfl (.tmp rfl .nil)) ?_
        rfl
      · exact (‹¬ ¬ (c = 0)› hc0).elim
end Go.Proofs.Ythkkphkeonnnfaa.Abs
