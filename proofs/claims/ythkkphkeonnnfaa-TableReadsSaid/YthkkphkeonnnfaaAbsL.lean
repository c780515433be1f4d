/- An abstract machine over the model's code: append and copy. No condition but those that each theorem names. -/
import Derived.Laws.BytesString
import Derived.Test.YthkkphkeonnnfaaAbsJ
namespace Go.Proofs.Ythkkphkeonnnfaa.Abs
open Go
variable {P : Program} {B : Nat} {μ μ' : K → Option Loc} {H H' : Hp} {w w1 : World} {nx nx' : K}

theorem Rel.sub (hR : Rel B μ H w) (h : ∀ i b, H' i = some b → H i = some b) : Rel B μ H' w :=
  ⟨fun i b e => hR.at_ i b (h i b e), fun i b l e => hR.own i b l (h i b e), fun i cs l e => hR.view i cs l (h i _ e), fun i j b c l m e e' => hR.inj i j b c l m (h i b e) (h j c e'), hR.size⟩
theorem Step.sub {H'' : Hp} (hs : Step B μ H nx w μ' H' nx' w1) (h : ∀ i b, H'' i = some b → H' i = some b) : Step B μ H nx w μ' H'' nx' w1 where
  ext := hs.ext
  new := hs.new
  rel := hs.rel.sub h
  owned k := by
    rintro ⟨i, b, l, hb, ho, hl, e⟩
    exact hs.owned k ⟨i, b, l, h i b hb, ho, hl, e⟩
  frame := hs.frame
  size := hs.size
  os := hs.os
  tape := hs.tape
  output := hs.output
  nxle := hs.nxle
def delH (H : Hp) (i : K) : Hp := fun j => if j = i then none else H j
/-- A block goes on under another name. -/
theorem Step.move_ (hR : Rel B μ H w) (hμ : μ nx = none) {i : K} {b b' : Bk} {l l' : Loc} (hi : H i = some b) (hb : OwnB b) (hb' : OwnB b') (hl : μ i = some l) (hl' : l'.blk = l.blk) (hsz : w1.heap.size = w.heap.size) (hh : ∀ k, k ≠ l.blk → w1.heap[k]? = w.heap[k]?) (h1 : w1.os = w.os) (h2 : w1.tape = w.tape) (h3 : w1.output = w.output)
    (hbr : BR (upd μ nx l') b' l' w1) : Step B μ H nx w (upd μ nx l') (updH (delH H i) nx b') (K.succ nx) w1 := by
  have hix : i ≠ nx := by intro e; rw [e, hμ] at hl; cases hl
  have q : ∀ j c m, updH (delH H i) nx b' j = some c → OwnB c → upd μ nx l' j = some m → (j = nx ∧ m = l' ∧ c = b') ∨ (j ≠ nx ∧ j ≠ i ∧ H j = some c ∧ μ j = some m) := by
    intro j c m hc _ hm
    unfold updH at hc; unfold upd at hm
    by_cases e : j = nx
    · rw [if_pos e] at hc hm
      injection hc with hc; injection hm with hm
      exact .inl ⟨e, hm.symm, hc.symm⟩
    · rw [if_neg e] at hc hm
      unfold delH at hc
      by_cases e' : j = i
      · rw [if_pos e'] at hc; cases hc
      · rw [if_neg e'] at hc
        exact .inr ⟨e, e', hc, hm⟩
  refine ⟨MLe.upd hμ l', fun j m e => ?_, ⟨fun j c hc => ?_, fun j c m hc ho hm => ?_, fun j cs m hc hm => ?_, fun j j' c d m n hc hd oc od hm hn e => ?_, by rw [hsz]; exact hR.size⟩, fun k => ?_, fun k _ hn => ?_, Nat.le_of_eq hsz.symm, h1, h2, h3, by rw [K.val_succ]; omega⟩
  · unfold upd at e
    split at e
    · rename_i e'; subst e'
      exact .inr ⟨Nat.le_refl _, by rw [K.val_succ]; omega⟩
    · exact .inl e
  · unfold updH at hc
    split at hc
    · rename_i e; subst e
      injection hc with hc; subst hc
      exact ⟨l', upd_same μ j l', hbr⟩
    · unfold delH at hc
      split at hc
      · cases hc
      · rename_i e e'
        obtain ⟨m, hm, hbr'⟩ := hR.at_ j c hc
        refine ⟨m, MLe.upd hμ l' j m hm, (hbr'.mono (MLe.upd hμ l')).same (hh _ fun e'' => ?_)⟩
        by_cases oc : OwnB c
        · exact e' (hR.inj j i c b m l hc hi oc hb hm hl e'')
        · cases c with
          | view cs =>
            have := hR.view j cs m hc hm
            have := hR.own i b l hi hb hl
            omega
          | cells _ _ _ _ => exact oc trivial
          | mp _ _ => exact oc trivial
  · rcases q j c m hc ho hm with ⟨-, rfl, -⟩ | ⟨-, -, hc', hm'⟩
    · rw [hl']; exact hR.own i b l hi hb hl
    · exact hR.own j c m hc' ho hm'
  · unfold updH at hc; unfold upd at hm
    split at hc
    · injection hc with hc; subst hc; exact hb'.elim
    · rename_i e
      rw [if_neg e] at hm
      unfold delH at hc
      split at hc
      · cases hc
      · exact hR.view j cs m hc hm
  · rcases q j c m hc oc hm with ⟨r1, rfl, -⟩ | ⟨-, r2, hc', hm'⟩
    · rcases q j' d n hd od hn with ⟨s1, rfl, -⟩ | ⟨-, s2, hd', hn'⟩
      · rw [r1, s1]
      · exact absurd (hR.inj j' i d b n l hd' hi od hb hn' hl (by rw [← e, hl'])) s2
    · rcases q j' d n hd od hn with ⟨s1, rfl, -⟩ | ⟨-, -, hd', hn'⟩
      · exact absurd (hR.inj j i c b m l hc' hi oc hb hm' hl (by rw [e, hl'])) r2
      · exact hR.inj j j' c d m n hc' hd' oc od hm' hn' e
  · rintro ⟨j, c, m, hc, ho, hm, rfl⟩
    rcases q j c m hc ho hm with ⟨-, rfl, -⟩ | ⟨-, -, hc', hm'⟩
    · exact .inl ⟨i, b, l, hi, hb, hl, hl'.symm⟩
    · exact .inl ⟨j, c, m, hc', ho, hm', rfl⟩
  · exact hh k fun e => hn ⟨i, b, l, hi, hb, hl, e.symm⟩

theorem firstCells_some {n m : Nat} {a : Addr} {k c : Nat} {vs : List Value} (hl : vs.length = m * n) (h : ∀ j v, vs[j]? = some v → w.cell? (a.add j) = some v) : (Builtin.firstCells n m (.slice (some a) k c)).run P w = .ok vs.toArray w := by
  have := run_loadCells_list (P := P) (w := w) a vs h
  rw [hl] at this
  simpa [Builtin.firstCells] using this
theorem src_run {s : St} (hR : Rel B μ (T.get s.hp) w) {x : AV} {X : Value} (hx : conc μ x = some X) {n m : Nat} {news : List AV} (h : srcCells n m x s.hp = some news) :
    ∃ vs, concL μ news = some vs ∧ vs.length = m * n ∧ ∀ w' : World, w'.heap = w.heap → (Builtin.firstCells n m X).run P w' = .ok vs.toArray w' := by
  unfold srcCells at h
  split at h
  · rename_i k c
    split at h
    · rename_i hm
      injection h with h; subst h
      obtain ⟨q, rfl, rfl⟩ := conc_slice0 hx
      exact ⟨[], rfl, by simp [hm], fun w' _ => by simp [Builtin.firstCells]⟩
    · cases h
  · rename_i i o k c
    split at h
    · rename_i l hl
      obtain ⟨b, hb, hbl⟩ := optK_some hl
      obtain ⟨L, hL, -, rfl⟩ := conc_slice hx
      obtain ⟨L', vs, hL', hvs, hcell⟩ := hR.cells hb hbl
      rw [hL] at hL'; injection hL' with hL'; subst hL'
      obtain ⟨q1, q2, q3⟩ := subL_eq h
      have hlen := concL_length _ _ hvs
      have hlen2 : ((vs.drop o).take (m * n)).length = m * n := by simp; omega
      refine ⟨(vs.drop o).take (m * n), by rw [q1]; exact concL_take _ _ _ (concL_drop _ _ _ hvs), hlen2, fun w' hw => firstCells_some hlen2 fun j v hj => ?_⟩
      rw [ptrV_add, ptrV_eq]
      have := hcell (o + j) v (take_drop_get hj)
      unfold World.cell? at this ⊢
      rw [hw]
      exact this
    · cases h
  · rename_i t
    split at h
    · rename_i hn
      split at h
      · rename_i r hr
        injection h with h; subst h; subst hn
        rw [conc_str hx]
        obtain ⟨q1, q2⟩ := takeL_eq _ _ _ hr
        refine ⟨r.map fun b => .int .u8 (Int.ofNat (b % 256)), ?_, by rw [List.length_map, q1, List.length_take]; omega, fun w' _ => ?_⟩
        · clear q1 q2 hr
          induction r with
          | nil => rfl
          | cons b r ih => simp only [List.map_cons, concL, conc, Option.bind_some, ih, Option.map_some]; rfl
        · have e : (bytesV t).extract 0 m = bytesV r := by rw [bytesV_extract, q1]; simp
          simp only [Builtin.firstCells, e]
          show Result.ok ((bytesV r).data.map fun b => Value.int .u8 b.toNat) w' = _
          congr 1
          simp [bytesV]
      · cases h
    · cases h
  · cases h
theorem lenA_run {x : AV} {X : Value} (hx : conc μ x = some X) {m : Nat} (h : lenA x = some m) (w : World) : (Builtin.lenOf X).run P w = .ok m w := by
  unfold lenA at h
  split at h
  · rename_i a n c
    injection h with h; subst h
    cases a with
    | none => obtain ⟨k, rfl, rfl⟩ := conc_slice0 hx; rfl
    | some p => obtain ⟨l, -, -, rfl⟩ := conc_slice (i := p.1) (o := p.2) hx; rfl
  · injection h with h; subst h
    rw [conc_str hx]
    simp [Builtin.lenOf, bytesV_size]
  · cases h
theorem append_fit {t u e ty : TypeId} {inf : TypeInfo} (ht : P.underlying t = some (.slice e)) (hu : notInt (P.underlying u) = true) (hi : P.info? e = some inf) {base : Option Addr} {len cap m : Nat} {X : Value} (hm : (Builtin.lenOf X).run P w = .ok m w)
    {vs : List Value} (hv : (Builtin.firstCells inf.size m X).run P w = .ok vs.toArray w) (hfit : len + m ≤ cap) (hst : match base with | none => w1 = w | some a => (storeCells (a.add (len * inf.size)) vs).run P w = .ok () w1) :
    (Builtin.append_ #[t, u] ty #[.slice base len cap, X]).run P w = .ok (.slice base (len + m) cap) w1 := by
  cases hd : P.underlying u with
  | none => rw [hd] at hu; cases hu
  | some d =>
    rw [hd] at hu
    have hni : ∀ k, d ≠ .int k := by intro k e; subst e; cases hu
    have hs : (sizeOf e).run P w = .ok inf.size w := by simp [sizeOf, typeInfo, hi]
    cases base with
    | none =>
      have hst : w1 = w := hst
      subst hst
      simp [Builtin.append_, run_underlying ht, run_underlying hd, hs, hm, hfit, hv]
    | some a =>
      have hst : (storeCells (a.add (len * inf.size)) vs).run P w = .ok () w1 := hst
      simp [Builtin.append_, run_underlying ht, run_underlying hd, hs, hm, hfit, hv, hst]
theorem append_grow {t u e ty : TypeId} {inf : TypeInfo} {z : Value} (ht : P.underlying t = some (.slice e)) (hu : notInt (P.underlying u) = true) (hi : P.info? e = some inf) (hz : inf.zero = some z) {base : Option Addr} {len cap m : Nat} {X : Value} (hm : (Builtin.lenOf X).run P w = .ok m w)
    {vs os : List Value} (hv : ∀ w' : World, w'.heap = w.heap → (Builtin.firstCells inf.size m X).run P w' = .ok vs.toArray w') (ho : ∀ w' : World, w'.heap = w.heap → (Builtin.firstCells inf.size len (.slice base len cap)).run P w' = .ok os.toArray w') (hfit : cap < len + m) (h63 : len + m ≤ 9223372036854775807) (hby : 0 < inf.bytes) (hbytes : (len + m) * inf.bytes ≤ 140737488355328) :
    (Builtin.append_ #[t, u] ty #[.slice base len cap, X]).run P w = .ok (.slice (some ⟨w.heap.size, 0, none⟩) (len + m) (grownCap w (len + m) cap e))
      { w with drawn := w.drawn + 1, heap := w.heap.push (.cells (os.toArray ++ vs.toArray ++ Builtin.zeroCells z.cells (grownCap w (len + m) cap e - (len + m))) e) } := by
  cases hd : P.underlying u with
  | none => rw [hd] at hu; cases hu
  | some d =>
    rw [hd] at hu
    have hni : ∀ k, d ≠ .int k := by intro k e; subst e; cases hu
    have hs : ∀ w, (sizeOf e).run P w = .ok inf.size w := fun w => by simp [sizeOf, typeInfo, hi]
    have hti : ∀ w, (typeInfo e).run P w = .ok inf w := fun w => by simp [typeInfo, hi]
    have hzv : ∀ w, (zeroValue e).run P w = .ok z w := fun w => by simp [zeroValue, typeInfo, hi, hz]
    have hfit' : ¬ len + m ≤ cap := by omega
    have hmax : ¬ ((len + m : Nat) : Int) > IntKind.i64.max := by
      show ¬ ((len + m : Nat) : Int) > 9223372036854775807
      omega
    have hgf := growslice_fits hfit hbytes
    have hgf' : ¬ Builtin.nextslicecap (len + m) cap * inf.bytes > 2 ^ 48 := by omega
    have hb0 : inf.bytes ≠ 0 := by omega
    have hch : (choose (.appendCap (len + m) cap e)).run P w = .ok (grownCap w (len + m) cap e) { w with drawn := w.drawn + 1 } := by
      simp [Question.forced, grownCap]
    have hv' := hv { w with drawn := w.drawn + 1 } rfl
    have ho' := ho { w with drawn := w.drawn + 1 } rfl
    simp only [Builtin.append_, Sem.run_bind, List.getElem?_toArray, List.getElem?_cons_zero, List.getElem?_cons_succ, run_underlying ht, run_underlying hd, Result.andThen_ok, hs, hm, Sem.run_pure, Bool.false_eq_true, if_false, hfit', hti, hgf', Sem.run_ite, hch, run_askRoom, ho', hv', hzv]
    simp [hb0, newRow]
    rw [show os.toArray ++ (vs.toArray ++ Builtin.zeroCells z.cells (grownCap w (len + m) cap e - (len + m))) = (os ++ vs).toArray ++ Builtin.zeroCells z.cells (grownCap w (len + m) cap e - (len + m)) from by rw [← List.append_toArray, Array.append_assoc]]
    rfl
/-- Where an append makes a new row. -/
theorem grow_step {s : St} (hR : Rel B μ (T.get s.hp) w) (hf : μ s.nx = none) {t u e ty : TypeId} {inf : TypeInfo} {z : Value} (ht : P.underlying t = some (.slice e)) (hu : notInt (P.underlying u) = true) (hi : P.info? e = some inf) (hz : inf.zero = some z) (hzs : z.cells.size = inf.size) {base : Option Addr} {len cap m : Nat} {X : Value} (hm : (Builtin.lenOf X).run P w = .ok m w)
    {old news : List AV} {vs os : List Value} (hcv : concL μ news = some vs) (hco : concL μ old = some os) (hvl : vs.length = m * inf.size) (hol : os.length = len * inf.size) (hv : ∀ w' : World, w'.heap = w.heap → (Builtin.firstCells inf.size m X).run P w' = .ok vs.toArray w') (ho : ∀ w' : World, w'.heap = w.heap → (Builtin.firstCells inf.size len (.slice base len cap)).run P w' = .ok os.toArray w') (hfit : cap < len + m) (h63 : len + m ≤ 9223372036854775807) (hby : 0 < inf.bytes) (hbytes : (len + m) * inf.bytes ≤ 140737488355328) :
    Goes P B μ s w (Builtin.append_ #[t, u] ty #[.slice base len cap, X]) (.slice (some (s.nx, 0)) (len + m) (.own 0)) (newB s (.cells (old ++ news) e inf.size false)) := by
  have hr := append_grow (P := P) (ty := ty) ht hu hi hz hm hv ho hfit h63 hby hbytes
  have hge := grownCap_ge w (len + m) cap e
  refine ⟨upd μ s.nx ⟨w.heap.size, 0, grownCap w (len + m) cap e⟩, _, _, hr, conc_slice_mk (l := ⟨w.heap.size, 0, grownCap w (len + m) cap e⟩) (upd_same _ _ _) (show len + m ≤ grownCap w (len + m) cap e - 0 by omega), ?_⟩
  rw [show (newB s (.cells (old ++ news) e inf.size false)).hp = T.set s.hp s.nx (.cells (old ++ news) e inf.size false) from rfl, get_set']
  refine Step.new_ hR hf (b := .cells (old ++ news) e inf.size false) trivial rfl rfl rfl rfl rfl ⟨rfl, _, os ++ vs, (Builtin.zeroCells z.cells (grownCap w (len + m) cap e - (len + m))).toList, ⟨_, push_new rfl, FrOk.zero _⟩, concL_append _ _ _ _ (concL_mono (MLe.upd hf _) _ _ hco) (concL_mono (MLe.upd hf _) _ _ hcv), by simp, (fun h => by cases h), ?_⟩
  have e1 : (Builtin.zeroCells z.cells (grownCap w (len + m) cap e - (len + m))).size = (grownCap w (len + m) cap e - (len + m)) * inf.size := by rw [size_zeroCells, hzs]
  simp only [Array.size_append, List.size_toArray, e1, hvl, hol, ← Nat.add_mul]
  congr 1
  omega
theorem get_move (h : T Bk) (i k : K) (b : Bk) : T.get (T.set (T.del h i) k b) = updH (delH (T.get h) i) k b := by
  funext j
  rw [T.get_set]
  unfold updH delH
  rw [T.get_del]
theorem opAppend_goes {s s' : St} (hR : Rel B μ (T.get s.hp) w) (hf : K.succ s.nx = s'.nx → μ s.nx = none) {ts : List TypeId} {ty : TypeId} {a x v : AV} (h : opAppend P ts a x s = some (v, s')) {A X : Value} (hA : conc μ a = some A) (hX : conc μ x = some X) :
    Goes P B μ s w (Builtin.append_ ts.toArray ty #[A, X]) v s' := by
  unfold opAppend at h
  split at h
  case h_2 => cases h
  rename_i t u ad len c
  split at h
  case h_2 => cases h
  rename_i e m hu hni hm
  split at h
  case h_2 => cases h
  rename_i inf z hinf hz
  split at h
  case isFalse => cases h
  rename_i hc
  obtain ⟨c1, c2, c3, c4, c5⟩ := hc
  split at h
  case h_2 => cases h
  rename_i news hnews
  split at h
  case h_2 => cases h
  rename_i hleaf
  obtain ⟨it, zc, hi, hzc, hconc⟩ := zeroA_conc hz
  rw [hinf] at hi; injection hi with hi; subst hi
  have hzs : zc.cells.size = inf.size := by
    have := concL_length _ _ (parts_conc (hconc μ))
    rw [← Array.length_toList, this]; exact c1
  obtain ⟨vs, hvs, hvl, hv⟩ := src_run (P := P) hR hX hnews
  have hml := fun w => lenA_run (P := P) hX hm w
  have h1 := allLeaf_conc _ _ hleaf hvs
  split at h
  case isTrue h0 =>
    subst h0
    have hvs0 : vs = [] := by simpa using hvl
    subst hvs0
    split at h
    · split at h
      · rename_i hl0
        injection h with h; injection h with h1 h2; subst h1; subst h2; subst hl0
        obtain ⟨k, rfl, rfl⟩ := conc_slice0 hA
        exact ⟨μ, _, w, append_fit (w1 := w) hu hni hinf (hml w) (hv w rfl) (by omega) rfl, hA, Step.refl hR _⟩
      · cases h
    · rename_i p
      injection h with h; injection h with h1 h2; subst h1; subst h2
      obtain ⟨l, hl, hcap, rfl⟩ := conc_slice (i := p.1) (o := p.2) hA
      exact ⟨μ, _, w, append_fit (w1 := w) hu hni hinf (hml w) (hv w rfl) (by omega) (by simp [storeCells]), hA, Step.refl hR _⟩
  case isFalse h0 =>
  split at h
  · split at h
    · rename_i hl0
      injection h with h; injection h with h2 h3; subst h2; subst h3; subst hl0
      obtain ⟨k, hk, rfl⟩ := conc_slice0 hA
      injection hk with hk; subst hk
      have := grow_step (P := P) (ty := ty) (s := s) hR (hf rfl) hu hni hinf hzc hzs (base := none) (len := 0) (cap := 0) (hml w) (old := []) (os := []) hvs rfl hvl (by simp) hv (fun w' _ => by simp [Builtin.firstCells]) (by omega) (by omega) c3 (by simpa using c5)
      simpa using this
    · cases h
  · rename_i i
    split at h
    case h_2 => cases h
    rename_i l e' z' hb
    split at h
    case isFalse => cases h
    rename_i hez
    obtain ⟨rfl, rfl⟩ := hez
    split at h
    case h_2 => cases h
    rename_i old hold
    injection h with h; injection h with h2 h3; subst h2; subst h3
    obtain ⟨L, hL, hcap, rfl⟩ := conc_slice hA
    obtain ⟨L', hL', hbr⟩ := hR.at_ i _ hb
    rw [hL] at hL'; injection hL' with hL'; subst hL'
    obtain ⟨g0, arr, us, spare, ⟨fr, g1, hfr⟩, g2, g3, g4, g5⟩ := hbr
    obtain ⟨q1, q2⟩ := takeL_eq _ _ _ hold
    have hul := concL_length _ _ g2
    have hco : concL μ old = some (us.take (len * inf.size)) := by rw [q1]; exact concL_take _ _ _ g2
    have hol : (us.take (len * inf.size)).length = len * inf.size := by rw [List.length_take]; omega
    have hcapV : capV L (.own 0) = L.cap := rfl
    have hasz : arr.size = us.length + spare.length := by rw [← Array.length_toList, g3, List.length_append]
    by_cases hfit : len + m ≤ L.cap
    · have hend : (len + m) * inf.size ≤ arr.size := by rw [g5]; exact Nat.mul_le_mul_right _ hfit
      rw [Nat.add_mul] at hend
      have e0 : (ptrV L 0).add (len * inf.size) = ⟨L.blk, len * inf.size, none⟩ := by rw [ptrV_add, ptrV_eq, g0]; simp
      have hst := run_storeCells_cells (P := P) L.blk (len * inf.size) vs 0 w (fun j hj => by
        rw [heap_cell (a := ⟨L.blk, len * inf.size + 0 + j, none⟩) g1 rfl]
        rw [Array.getElem?_eq_getElem (by show len * inf.size + 0 + j < arr.size; omega)]; rfl) (fun j _ => hfr.frozen g1 (by omega)) h1
      obtain ⟨r1, r2, r3, r4⟩ := setCells_rest L.blk vs (len * inf.size) w
      refine ⟨upd μ s.nx ⟨L.blk, 0, L.cap⟩, .slice (some (ptrV L 0)) (len + m) (capV L (.own 0)), w.setCells L.blk (len * inf.size) vs, append_fit hu hni hinf (hml w) (hv w rfl) (by rw [hcapV]; exact hfit) (by show (storeCells ((ptrV L 0).add (len * inf.size)) vs).run P w = _; rw [e0]; simpa using hst), ?_, ?_⟩
      · have := conc_slice_mk (μ := upd μ s.nx ⟨L.blk, 0, L.cap⟩) (o := 0) (k := .own 0) (upd_same μ s.nx ⟨L.blk, 0, L.cap⟩) (show len + m ≤ L.cap - 0 by omega)
        rw [this, ptrV_eq, ptrV_eq, g0]
        rfl
      · show Step B μ (T.get s.hp) s.nx w _ (T.get (T.set (T.del s.hp i) s.nx _)) (K.succ s.nx) _
        rw [get_move]
        refine Step.move_ hR (hf rfl) hb trivial (b' := .cells (old ++ news) e' inf.size false) trivial hL rfl r1 (fun k hk => setCells_other _ _ _ _ _ hk) r2 r3 r4 ⟨rfl, _, us.take (len * inf.size) ++ vs, arr.toList.drop (len * inf.size + vs.length), ⟨fr, setCells_heap L.blk vs (len * inf.size) w arr e' g1 (by omega), by
          have : (arr.toList.take (len * inf.size) ++ vs ++ arr.toList.drop (len * inf.size + vs.length)).toArray.size = arr.size := by
            simp only [List.size_toArray, List.length_append, List.length_take, List.length_drop, Array.length_toList]
            omega
          rw [this]; exact hfr⟩, concL_append _ _ _ _ (concL_mono (MLe.upd (hf rfl) _) _ _ hco) (concL_mono (MLe.upd (hf rfl) _) _ _ hvs), ?_, (fun h => by cases h), ?_⟩
        · simp only [g3]
          rw [List.take_append_of_le_length (by omega)]
        · rw [← g5]
          simp only [List.size_toArray, List.length_append, List.length_take, List.length_drop, Array.length_toList]
          omega
    · have hcells : ∀ w' : World, w'.heap = w.heap → (Builtin.firstCells inf.size len (.slice (some (ptrV L 0)) len (capV L (.own 0)))).run P w' = .ok (us.take (len * inf.size)).toArray w' := fun w' hw => firstCells_some hol fun j v hj => by
        rw [ptrV_add, ptrV_eq, g0]
        have hj' : us[j]? = some v := by
          have := take_drop_get (o := 0) (l := us) (by simpa using hj)
          simpa using this
        have hjl := (List.getElem?_eq_some_iff.1 hj').1
        rw [heap_cell (a := ⟨L.blk, 0 + (0 + j), none⟩) (by rw [hw]; exact g1) rfl, ← Array.getElem?_toList, g3]
        show (us ++ spare)[0 + (0 + j)]? = some v
        rw [Nat.zero_add, Nat.zero_add, List.getElem?_append_left hjl]
        exact hj'
      obtain ⟨μ', c', w', k1, k2, k3⟩ := grow_step (P := P) (ty := ty) (s := s) hR (hf rfl) hu hni hinf hzc hzs (base := some (ptrV L 0)) (len := len) (cap := capV L (.own 0)) (hml w) (old := old) hvs hco hvl hol hv hcells (by rw [hcapV]; omega) c4 c3 c5
      refine ⟨μ', c', w', k1, k2, ?_⟩
      show Step B μ (T.get s.hp) s.nx w _ (T.get (T.set (T.del s.hp i) s.nx _)) (K.succ s.nx) _
      rw [get_move]
      refine k3.sub fun j b hj => ?_
      show T.get (T.set s.hp s.nx _) j = some b
      rw [get_set']
      unfold updH delH at hj
      unfold updH
      split at hj
      · rename_i e; rw [if_pos e]; exact hj
      · rename_i e; rw [if_neg e]
        split at hj
        · cases hj
        · exact hj
  · rename_i _ i o k
    obtain ⟨L, hL, hcap, rfl⟩ := conc_slice hA
    have hcapV : capV L (.ex k) = k := rfl
    split at h
    · rename_i hfit
      split at h
      case h_2 => cases h
      rename_i l e' z' f hb
      split at h
      case h_2 => cases h
      rename_i l' hs
      injection h with h; injection h with h2 h3; subst h2; subst h3
      obtain ⟨r1, r2⟩ := cells_set (P := P) hR hb hL hs hvs h1
      refine ⟨μ, .slice (some (ptrV L o)) (len + m) (capV L (.ex k)), _, append_fit hu hni hinf (hml w) (hv w rfl) (by rw [hcapV]; exact hfit) (by show (storeCells ((ptrV L o).add (len * inf.size)) vs).run P w = _; rw [ptrV_add]; exact r1), conc_slice_mk hL (by rw [hcapV]; exact hfit), r2⟩
    · rename_i hfit
      split at h
      case isFalse => cases h
      split at h
      case h_2 => cases h
      rename_i l hcl
      split at h
      case h_2 => cases h
      rename_i old hold
      injection h with h; injection h with h2 h3; subst h2; subst h3
      obtain ⟨b, hb, hbl⟩ := optK_some hcl
      obtain ⟨L', us, hL', hus, hcell⟩ := hR.cells hb hbl
      rw [hL] at hL'; injection hL' with hL'; subst hL'
      obtain ⟨q1, q2, q3⟩ := subL_eq hold
      have hul := concL_length _ _ hus
      have hco : concL μ old = some ((us.drop o).take (len * inf.size)) := by rw [q1]; exact concL_take _ _ _ (concL_drop _ _ _ hus)
      have hol : ((us.drop o).take (len * inf.size)).length = len * inf.size := by rw [List.length_take, List.length_drop]; omega
      have hcells : ∀ w' : World, w'.heap = w.heap → (Builtin.firstCells inf.size len (.slice (some (ptrV L o)) len (capV L (.ex k)))).run P w' = .ok ((us.drop o).take (len * inf.size)).toArray w' := fun w' hw => firstCells_some hol fun j v hj => by
        rw [ptrV_add, ptrV_eq]
        have := hcell (o + j) v (take_drop_get hj)
        unfold World.cell? at this ⊢
        rw [hw]
        exact this
      exact grow_step (P := P) (ty := ty) (s := s) hR (hf rfl) hu hni hinf hzc hzs (base := some (ptrV L o)) (len := len) (cap := capV L (.ex k)) (hml w) (old := old) hvs hco hvl hol hv hcells (by rw [hcapV]; omega) c4 c3 c5
  · cases h
theorem opCopy_goes {s s' : St} (hR : Rel B μ (T.get s.hp) w) {ts : List TypeId} {ty : TypeId} {a x v : AV} (h : opCopy P ts a x s = some (v, s')) {A X : Value} (hA : conc μ a = some A) (hX : conc μ x = some X) :
    Goes P B μ s w (Builtin.copy_ ts.toArray ty #[A, X]) v s' := by
  unfold opCopy at h
  split at h
  case h_2 => cases h
  rename_i t ts i o len c
  split at h
  case h_2 => cases h
  rename_i e m hu hm
  split at h
  case h_2 => cases h
  rename_i n hn
  split at h
  case h_2 => cases h
  rename_i news hnews
  split at h
  case h_2 => cases h
  rename_i l e' z' f hleaf hb
  split at h
  case h_2 => cases h
  rename_i l' hs
  injection h with h; injection h with h2 h3; subst h2; subst h3
  obtain ⟨L, hL, hcap, rfl⟩ := conc_slice hA
  obtain ⟨vs, hvs, hvl, hv⟩ := src_run (P := P) hR hX hnews
  have hml := lenA_run (P := P) hX hm w
  obtain ⟨r1, r2⟩ := cells_set (P := P) hR hb hL hs hvs (allLeaf_conc _ _ hleaf hvs)
  have hsz := tsize_run (P := P) hn w
  have hv' := hv w rfl
  refine ⟨μ, .int .i64 (Nat.min m len : Nat), _, ?_, rfl, r2⟩
  simp [Builtin.copy_, run_underlying hu, hml, hsz, hv', r1, goInt]
/-! ### texts and rows of bytes -/
theorem bytesA_conc (s : List Nat) : concL μ (bytesA s) = some (s.map fun b => Value.int .u8 (b % 256 : Nat)) := by
  induction s with
  | nil => rfl
  | cons b s ih =>
    show (conc μ (.int .u8 (b % 256 : Nat))).bind _ = _
    simp only [conc, Option.bind_some]
    rw [show concL μ (List.map (fun b => AV.int .u8 (b % 256 : Nat)) s) = _ from ih]
    rfl
theorem modify_push (h : Array Obj) (o : Obj) (f : Obj → Obj) : (h.push o).modify h.size f = h.push (f o) := by
  apply Array.ext_getElem?
  intro i
  rw [Array.getElem?_modify, Array.getElem?_push, Array.getElem?_push]
  by_cases e : i = h.size
  · subst e; simp
  · rw [if_neg (fun e' => e e'.symm), if_neg e, if_neg e]
def rowB (w : World) (e : TypeId) (s : List Nat) : Array Value := (s.map fun b => Value.int .u8 (b % 256 : Nat)).toArray ++ Array.replicate (grownCap w s.length 0 e - s.length) (.int .u8 0)
theorem mark_run {b : Nat} {arr : Array Value} {e : TypeId} (h : w.heap[b]? = some (.cells arr e (0, 0))) : (markStringish ⟨b, 0, none⟩).run P w = .ok () (w.freeze ⟨b, arr.size, none⟩ 1) := by
  simp [markStringish, shape, freeze, Sem.run, World.shape?, h]
theorem bytes_run {e : TypeId} (s : List Nat) (w : World) : (Conv.stringToBytes e (bytesV s)).run P w = .ok (.slice (some ⟨w.heap.size, 0, none⟩) s.length (grownCap w s.length 0 e))
    { w with drawn := w.drawn + 1, heap := w.heap.push (.cells (rowB w e s) e ((rowB w e s).size, (rowB w e s).size + 1)) } := by
  have hch : (choose (.appendCap s.length 0 e)).run P w = .ok (grownCap w s.length 0 e) { w with drawn := w.drawn + 1 } := by
    simp [Question.forced, grownCap]
  have hsz : (bytesV s).size = s.length := bytesV_size s
  have hd : ((bytesV s).data.map fun b => Value.int .u8 b.toNat) = (s.map fun b => Value.int .u8 (b % 256 : Nat)).toArray := by
    apply Array.toList_inj.mp
    simp [bytesV]
  have hnr : (newRow e (rowB w e s)).run P { w with drawn := w.drawn + 1 } = .ok ⟨w.heap.size, 0, none⟩ { w with drawn := w.drawn + 1, heap := w.heap.push (.cells (rowB w e s) e) } := by
    simp [newRow]
    exact ⟨rfl, rfl, rfl⟩
  have hmk := mark_run (P := P) (w := { w with drawn := w.drawn + 1, heap := w.heap.push (.cells (rowB w e s) e) }) (b := w.heap.size) (arr := rowB w e s) (e := e) (by simp)
  unfold Conv.stringToBytes
  simp only [Sem.run_bind, hsz, hch, Result.andThen_ok, hd]
  rw [show (s.map fun b => Value.int .u8 (b % 256 : Nat)).toArray ++ Array.replicate (grownCap w s.length 0 e - s.length) (.int .u8 0) = rowB w e s from rfl, hnr]
  simp only [Result.andThen_ok, hmk, Sem.run_pure]
  congr 1
  simp only [World.freeze, Nat.one_ne_zero, if_false, modify_push]
  rfl
theorem opBytes_goes {s s' : St} (hR : Rel B μ (T.get s.hp) w) (hf : K.succ s.nx = s'.nx → μ s.nx = none) {a b e : TypeId} {x : Option AV} {v : AV} (ha : P.underlying a = some .string) (hb : P.underlying b = some (.slice e)) (h : opBytes P e x s = some (v, s')) : ∃ u, x = some u ∧ ∀ c, conc μ u = some c → Goes P B μ s w (convert a b c) v s' := by
  unfold opBytes at h
  split at h
  · rename_i t he
    injection h with h; injection h with h1 h2; subst h1; subst h2
    refine ⟨_, rfl, fun c hc => ?_⟩
    rw [conc_str hc]
    have hcv : ∀ w, (convert a b (.string (bytesV t))).run P w = (Conv.stringToBytes e (bytesV t)).run P w := fun w => by simp [convert, run_underlying ha, run_underlying hb, run_underlying he]
    have hge := grownCap_ge w t.length 0 e
    refine ⟨upd μ s.nx ⟨w.heap.size, 0, grownCap w t.length 0 e⟩, _, _, (hcv w).trans (bytes_run t w), ?_, ?_⟩
    · have := conc_slice_mk (μ := upd μ s.nx ⟨w.heap.size, 0, grownCap w t.length 0 e⟩) (o := 0) (k := .own 0) (upd_same μ s.nx ⟨w.heap.size, 0, grownCap w t.length 0 e⟩) (show lenL t ≤ grownCap w t.length 0 e - 0 by rw [lenL_eq]; omega)
      rw [this, lenL_eq]
      rfl
    · rw [show (newB s (.cells (bytesA t) e 1 false)).hp = T.set s.hp s.nx (.cells (bytesA t) e 1 false) from rfl, get_set']
      refine Step.new_ hR (hf rfl) (b := .cells (bytesA t) e 1 false) trivial rfl rfl rfl rfl rfl ⟨rfl, _, _, List.replicate (grownCap w t.length 0 e - t.length) (.int .u8 0), ⟨_, push_new rfl, FrOk.behind _ _⟩, bytesA_conc t, by simp [rowB], (fun h => by cases h), ?_⟩
      simp only [rowB, Array.size_append, List.size_toArray, List.length_map, Array.size_replicate, Nat.mul_one]
      omega
  · cases h
theorem textA_conc : ∀ (cs : List AV) (r : List Nat), textA cs = some r → ∃ ns : List Int, concL μ cs = some (ns.map (Value.int .u8)) ∧ r = ns.map Int.toNat
  | [], r, h => by injection (show some [] = some r from h) with h; subst h; exact ⟨[], rfl, rfl⟩
  | v :: cs, r, h => by
    unfold textA at h
    split at h
    · rename_i e; cases e
    · rename_i n l e
      injection e with e1 e2; subst e1; subst e2
      split at h
      · rename_i r' hr
        injection h with h; subst h
        obtain ⟨ns, h1, h2⟩ := textA_conc _ _ hr
        exact ⟨n :: ns, by simp only [concL, conc, h1, Option.bind_some, Option.map_some, List.map_cons], by rw [h2]; rfl⟩
      · cases h
    · cases h
theorem foldl_bytes : ∀ (ns : List Int) (b : ByteArray), ns.foldl (fun r n => r.push (UInt8.ofNat n.toNat)) b = ⟨b.data ++ ((ns.map Int.toNat).map UInt8.ofNat).toArray⟩
  | [], b => by simp
  | n :: ns, b => by
    rw [List.foldl_cons, foldl_bytes ns]
    simp [ByteArray.push]
theorem opText_run {s : St} (hR : Rel B μ (T.get s.hp) w) {a b e : TypeId} {x : Option AV} {v : AV} (ha : P.underlying a = some (.slice e)) (hb : P.underlying b = some .string) (h : opText P e x s = some v) : ∃ u, x = some u ∧ ∀ c, conc μ u = some c → ∃ d, conc μ v = some d ∧ (convert a b c).run P w = .ok d w := by
  unfold opText at h
  split at h
  · rename_i n k he
    injection h with h; subst h
    refine ⟨_, rfl, fun c hc => ⟨_, rfl, ?_⟩⟩
    obtain ⟨m, -, rfl⟩ := conc_slice0 hc
    rw [run_convert_bytes_string w a b e none n m ha he hb]
    simp [Conv.bytesToString]
    rfl
  · rename_i i o n k he
    split at h
    case h_2 => cases h
    rename_i l hl
    split at h
    case h_2 => cases h
    rename_i cs hcs
    split at h
    case h_2 => cases h
    rename_i r hr
    injection h with h; subst h
    refine ⟨_, rfl, fun c hc => ⟨_, rfl, ?_⟩⟩
    obtain ⟨L, hL, -, rfl⟩ := conc_slice hc
    obtain ⟨b', hb', hbl⟩ := optK_some hl
    obtain ⟨L', vs, hL', hvs, hcell⟩ := hR.cells hb' hbl
    rw [hL] at hL'; injection hL' with hL'; subst hL'
    obtain ⟨q1, q2, q3⟩ := subL_eq hcs
    obtain ⟨ns, h1, h2⟩ := textA_conc (μ := μ) _ _ hr
    have hvs' : (vs.drop o).take n = ns.map (Value.int .u8) := by
      have := concL_take _ _ n (concL_drop _ _ o hvs)
      rw [← q1, h1] at this
      injection this with this; exact this.symm
    have hlen : ((vs.drop o).take n).length = n := by
      have := concL_length _ _ hvs
      simp; omega
    have hload := run_loadCells_list (P := P) (w := w) (ptrV L o) ((vs.drop o).take n) (fun j v hj => by
      rw [ptrV_add, ptrV_eq]
      exact hcell (o + j) v (take_drop_get hj))
    rw [hlen, hvs'] at hload
    rw [run_convert_bytes_string w a b e _ n _ ha he hb, run_bytesToString w _ n _ ns hload, foldl_bytes, h2]
    simp [bytesV, ByteArray.empty, ByteArray.emptyWithCapacity]
    rfl
  · cases h
end Go.Proofs.Ythkkphkeonnnfaa.Abs
