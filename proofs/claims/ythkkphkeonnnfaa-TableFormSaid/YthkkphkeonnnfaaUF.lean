/- A table's bytes are read as that table again; and just the tables that may be have bytes: in the abstract machine. No condition but those that each theorem names. -/
import Derived.Test.YthkkphkeonnnfaaUEa
import Derived.Test.YthkkphkeonnnfaaVU
import Derived.Test.YthkkphkeonnnfaaVZ
namespace Go.Proofs.Ythkkphkeonnnfaa.Abs
open Go
set_option linter.unusedVariables false
set_option linter.unusedSimpArgs false
set_option maxRecDepth 100000
set_option maxHeartbeats 4000000
theorem conc_one {μ : K → Option Loc} {v : AV} {c : Value} (h : concL μ [v] = some [c]) : conc μ v = some c := by
  simp only [concL] at h
  cases e : conc μ v with
  | none => rw [e] at h; cases h
  | some x => rw [e] at h; injection h with h; injection h with h; rw [h]
theorem conc_nil {μ : K → Option Loc} : concL μ [] = some [] := rfl
theorem conc_cons {μ : K → Option Loc} {v : AV} {c : Value} {l : List AV} {cs : List Value} (h : conc μ v = some c) (k : concL μ l = some cs) : concL μ (v :: l) = some (c :: cs) := by
  simp only [concL, h, k]; rfl
theorem er_same (t : Table) : SameT t.er t := by
  have hl : t.er.states.l.length = t.states.l.length := List.length_map ..
  refine ⟨rfl, rfl, rfl, rfl, rfl, hl, fun i h1 h2 => ?_⟩
  have hi : t.er.states.l[i] = erG t.states.l[i] := List.getElem_map ..
  rw [hi]
  refine ⟨List.length_map .., fun k h3 h4 => ?_⟩
  have hk : (erG t.states.l[i]).l[k] = (t.states.l[i].l[k]).er := List.getElem_map ..
  rw [hk]
  exact ⟨rfl, rfl, rfl, rfl⟩
theorem SameG.trans {x y z : Guard} (h : SameG x y) (k : SameG y z) : SameG x z := ⟨h.1.trans k.1, h.2.1.trans k.2.1, h.2.2.1.trans k.2.2.1, h.2.2.2.trans k.2.2.2⟩
theorem SameT.trans {x y z : Table} (h : SameT x y) (k : SameT y z) : SameT x z :=
  ⟨h.name.trans k.name, h.slots.trans k.slots, h.regs.trans k.regs, h.consts.trans k.consts, h.code.trans k.code, h.slen.trans k.slen, fun i h1 h2 => by
    have h3 : i < y.states.l.length := by rw [← h.slen]; exact h1
    obtain ⟨a1, a2⟩ := h.states i h1 h3
    obtain ⟨b1, b2⟩ := k.states i h3 h2
    refine ⟨a1.trans b1, fun j h4 h5 => ?_⟩
    have h6 : j < y.states.l[i].l.length := by rw [← a1]; exact h4
    exact (a2 j h4 h6).trans (b2 j h6 h5)⟩
theorem SameT.room {x y : Table} (h : SameT x y) (hy : y.Room) : x.Room := by
  refine ⟨by rw [h.name]; exact hy.name, by rw [h.regs]; exact hy.regs, by rw [h.consts]; exact hy.consts, by rw [h.code]; exact hy.code, by rw [h.slen]; exact hy.states, fun s hs => ?_, fun s hs q hq => ?_⟩
  · obtain ⟨i, hi⟩ := List.getElem?_of_mem hs
    obtain ⟨hlt, rfl⟩ := List.getElem?_eq_some_iff.1 hi
    have hlt2 : i < y.states.l.length := by rw [← h.slen]; exact hlt
    rw [(h.states i hlt hlt2).1]
    exact hy.guards _ (List.getElem_mem hlt2)
  · obtain ⟨i, hi⟩ := List.getElem?_of_mem hs
    obtain ⟨hlt, rfl⟩ := List.getElem?_eq_some_iff.1 hi
    have hlt2 : i < y.states.l.length := by rw [← h.slen]; exact hlt
    obtain ⟨c1, c3⟩ := h.states i hlt hlt2
    obtain ⟨k, hk⟩ := List.getElem?_of_mem hq
    obtain ⟨hlt3, rfl⟩ := List.getElem?_eq_some_iff.1 hk
    have hlt4 : k < y.states.l[i].l.length := by rw [← c1]; exact hlt3
    rw [(c3 k hlt3 hlt4).2.2.2]
    exact hy.rows _ (List.getElem_mem hlt2) _ (List.getElem_mem hlt4)
theorem DG : DecG G19 := ⟨⟨⟨rfl, rfl, rfl, rfl, rfl⟩, rfl, rfl, rfl, rfl, rfl⟩, rfl, rfl, rfl, rfl, rfl, rfl, rfl, rfl, rfl, rfl, fun k => callsS _ G19_ok k⟩
attribute [local irreducible] W Cl Bd
variable {V : K → Option (List AV)} {t : Table}
theorem Table.Num.room {y : Table} (h : y.Num) (h1 : y.name.length ≤ 65536) (h2 : ∀ c ∈ y.name, c < 256) : y.Room :=
  ⟨⟨by omega, h2⟩, by have := h.regs.1; omega, by have := h.consts.1; omega, by have := h.code.1; omega, by have := h.states.1; omega, fun s hs => by have := (h.states.2 s hs).1; omega, fun s hs g hg => by have := ((h.states.2 s hs).2 g hg).rows.1; omega⟩
/-- The program's Decode. -/
theorem decodeC (V : K → Option (List AV)) {b : List Nat} (hb : ∀ c ∈ b, c < 256) (hl : b.length ≤ 281474976710656) : Cl Try.prog G19 V 22 [.str b] [] fun o Δ => match decodeS b with
      | some y => ∃ x : Table, o = .ret (.tup [x.v, .int .i64 0]) ∧ CpT Δ x y
      | none => o = .ret (.tup [noT, .int .i64 194]) :=
  decode_c DG hb hl fun V x y hx hs hn h1 h2 => by
    have := checkC hx (hs.room (hn.room h1 h2))
    rw [hs.check] at this
    exact this
/-- What is written of a table that may be, is read. -/
theorem decode_back (ht : t.Ok V) (hr : t.Room) (h : checkS t = none) : Cl Try.prog G19 V 22 [.str (frameS (encS t))] [] fun o Δ => ∃ x : Table, o = .ret (.tup [x.v, .int .i64 0]) ∧ CpT Δ x t.er := by
  obtain ⟨b1, b2⟩ := table_back h ht.regs.2.2 ht.consts.2.2 hr.name.2
  have hb := frameS_byte (encS_byte hr.name.2)
  have hl : (frameS (encS t)).length ≤ 281474976710656 := by
    have h1 : (frameS (encS t)).length = (putS (encS t).length).length + (encS t).length + 4 := by
      unfold frameS; rw [List.length_append, List.length_append]; rfl
    have := putS_len10 (n := (encS t).length) (by omega)
    omega
  have hd := decodeC V hb hl
  have e : decodeS (frameS (encS t)) = some t.er := by
    unfold decodeS
    rw [(unframeP_iff hb _ _).2 ⟨b2, (List.append_nil _).symm⟩]
    simp only [b1, checkS_er, h]
  rw [e] at hd
  exact hd
theorem decode_none (V : K → Option (List AV)) : Cl Try.prog G19 V 22 [.str []] [] fun o _ => o = .ret (.tup [noT, .int .i64 194]) :=
  decode_bad DG (fun c h => by simp at h) (by simp) fun s h => by cases h
theorem tableBack_c (ht : t.Ok V) (hr : t.Room) : Cl Try.prog G19 V 7 [t.v] [] fun o _ => o = .ret (.bool true) := by
  have h1 := encodeC ht hr
  have h2 := checkC ht hr
  have h3 := checkRC ht hr
  refine Cl.enter rfl Try.func7 rfl ?_
  cases hc : checkS t with
  | none =>
    have hb := (table_back hc ht.regs.2.2 ht.consts.2.2 hr.name.2).2
    have he : encodeV t none = .tup [.str (frameS (encS t)), .int .i64 0] := by unfold encodeV frameV; simp only; rw [if_neg (by omega)]
    have hd := decode_back ht hr hc
    rw [hc] at h1 h2 h3
    rw [he] at h1
    have h2 : Cl Try.prog G19 V 13 [t.v] [] fun o _ => o = .ret (.int .i64 0) := h2
    have h3 : Cl Try.prog G19 V 15 [t.v] [] fun o _ => o = .ret (.int .i64 0) := h3
    repeat' first | refine W.callP rfl rfl rfl rfl awakeC ?_ | (refine W.callV rfl rfl rfl rfl (farC ht) ?_; rintro _ ⟨b_, rfl⟩) | refine W.callP rfl rfl rfl rfl h2 ?_ | refine W.callP rfl rfl rfl rfl h1 ?_ | refine W.callP rfl rfl rfl rfl h3 ?_ | (refine W.callN rfl rfl rfl rfl hd ?_; intro x Δ' hcp) | (with_reducible first | refine za ?_ | refine zb ?_ | refine zc ?_) | refine ym zr ?_ | refine yn 0 zr ?_ | refine yn 1 zr ?_ | refine yn 2 zr ?_ | refine yn 3 zr ?_ | (refine yo zr ?_; intro _) | (refine yp zr ?_; intro _) | refine yq zr ?_ | refine ys zr ?_ | refine yu zr ?_ | refine yv zr ?_ | (with_reducible first | refine zd ?_ | refine ze ?_ | refine zf ?_ | refine zg ?_ | refine zh ?_ | refine zi ?_ | refine zj ?_ | refine zk ?_ | refine zl ?_) | refine zz zr ?_ | refine zw (by decide +kernel) ?_ | refine zx zr zr zr ?_ | refine zy zr zr ?_ | (refine W.condP zr ?_ ?_ <;> intro _) | refine W.condT zr ?_ | refine W.condF zr ?_ | (refine W.cond zr ?_ ?_ <;> intro _) | (refine W.gs zr zr zr zr ?_ ?_ <;> intro _) | (refine W.gsB zr zr zr zr ?_ ?_ <;> intro _) | refine W.done zr ?_ | refine W.doneN zr ?_
    all_goals first
      | rfl
      | exact absurd rfl ‹¬ ((0 : Int) = 0)›
      | skip
    refine W.know fun hva hnd => ?_
    have hx := (hcp.mono fun z hz => List.mem_cons_of_mem _ (List.mem_append_right _ hz)).okN (V := V) (check_rd hc ht.regs.2.2 ht.consts.2.2).num hnd
    have ht' := Table.okM (withV_le hva) ht
    have h4 := sameT_c (g := G19) rfl rfl hx ht' (hcp.same.trans (er_same t))
    repeat' first | refine W.callLP rfl rfl rfl rfl h4 ?_ | (with_reducible first | refine za ?_ | refine zb ?_ | refine zc ?_) | refine ym zr ?_ | refine yn 0 zr ?_ | refine yn 1 zr ?_ | refine yn 2 zr ?_ | refine yn 3 zr ?_ | (refine yo zr ?_; intro _) | (refine yp zr ?_; intro _) | refine yq zr ?_ | refine ys zr ?_ | refine yu zr ?_ | refine yv zr ?_ | (with_reducible first | refine zd ?_ | refine ze ?_ | refine zf ?_ | refine zg ?_ | refine zh ?_ | refine zi ?_ | refine zj ?_ | refine zk ?_ | refine zl ?_) | refine zz zr ?_ | refine zw (by decide +kernel) ?_ | refine zx zr zr zr ?_ | refine zy zr zr ?_ | (refine W.condP zr ?_ ?_ <;> intro _) | refine W.condT zr ?_ | refine W.condF zr ?_ | (refine W.cond zr ?_ ?_ <;> intro _) | (refine W.gs zr zr zr zr ?_ ?_ <;> intro _) | (refine W.gsB zr zr zr zr ?_ ?_ <;> intro _) | refine W.done zr ?_ | refine W.doneN zr ?_
    all_goals first
      | rfl
      | exact absurd rfl ‹¬ ((0 : Int) = 0)›
  | some c =>
    have hc0 : c ≠ 0 := fun e => by
      have := checkS_ne (t := t) (by rw [hc, e]; rfl)
      rw [hc] at this; cases this
    have he : encodeV t (some c) = .tup [.str [], .int .i64 c] := rfl
    rw [hc] at h1 h2 h3
    rw [he] at h1
    have h2 : Cl Try.prog G19 V 13 [t.v] [] fun o _ => o = .ret (.int .i64 c) := h2
    have h3 : Cl Try.prog G19 V 15 [t.v] [] fun o _ => o = .ret (.int .i64 c) := h3
    have hd := decode_none V
    unfold noT at hd
    repeat' first | refine W.callP rfl rfl rfl rfl awakeC ?_ | (refine W.callV rfl rfl rfl rfl (farC ht) ?_; rintro _ ⟨b_, rfl⟩) | refine W.callP rfl rfl rfl rfl h2 ?_ | refine W.callP rfl rfl rfl rfl h1 ?_ | refine W.callP rfl rfl rfl rfl h3 ?_ | refine W.callP rfl rfl rfl rfl hd ?_ | (with_reducible first | refine za ?_ | refine zb ?_ | refine zc ?_) | refine ym zr ?_ | refine yn 0 zr ?_ | refine yn 1 zr ?_ | refine yn 2 zr ?_ | refine yn 3 zr ?_ | (refine yo zr ?_; intro _) | (refine yp zr ?_; intro _) | refine yq zr ?_ | refine ys zr ?_ | refine yu zr ?_ | refine yv zr ?_ | (with_reducible first | refine zd ?_ | refine ze ?_ | refine zf ?_ | refine zg ?_ | refine zh ?_ | refine zi ?_ | refine zj ?_ | refine zk ?_ | refine zl ?_) | refine zz zr ?_ | refine zw (by decide +kernel) ?_ | refine zx zr zr zr ?_ | refine zy zr zr ?_ | (refine W.condP zr ?_ ?_ <;> intro _) | refine W.condT zr ?_ | refine W.condF zr ?_ | (refine W.cond zr ?_ ?_ <;> intro _) | (refine W.gs zr zr zr zr ?_ ?_ <;> intro _) | (refine W.gsB zr zr zr zr ?_ ?_ <;> intro _) | refine W.done zr ?_ | refine W.doneN zr ?_
    all_goals first
      | rfl
      | exact absurd rfl ‹¬ (c = c)›
      | exact (‹¬ ¬ (c = 0)› hc0).elim
      | trace_state
end Go.Proofs.Ythkkphkeonnnfaa.Abs
