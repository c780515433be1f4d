/- A table's bytes: the document's Encode. No condition but those that each theorem names. -/
import Derived.Test.YthkkphkeonnnfaaVE
namespace Go.Proofs.Ythkkphkeonnnfaa.Abs
open Go
set_option linter.unusedVariables false
set_option linter.unusedSimpArgs false
set_option maxRecDepth 100000
set_option maxHeartbeats 4000000
attribute [local irreducible] W Cl Bd
variable {g : Cg} {V : K → Option (List AV)}
def encodeV (t : Table) (e : Option Int) : AV := match e with
  | none => frameV (encS t)
  | some c => .tup [.str [], .int .i64 c]
theorem sgS_len {l : List Int} (h : ∀ x ∈ l, In64 x) : (sgS l).length ≤ 10 + 10 * l.length := by
  have h1 := nS_len l.length
  have h2 := flat_le (f := zS) l (fun x hx => zS_len (h x hx))
  simp only [sgS, List.length_append]; omega
theorem zS_byte (n : Int) : ∀ c ∈ zS n, c < 256 := putS_byte _
theorem sgS_byte (l : List Int) : ∀ c ∈ sgS l, c < 256 := fun c hc => by
  rcases List.mem_append.1 hc with h | h
  · exact nS_byte _ c h
  · exact flat_byte zS_byte l c h
theorem rwS_byte (r : Row) : ∀ c ∈ rwS r, c < 256 := fun c hc => by
  simp only [rwS, List.mem_append] at hc
  rcases hc with h | h | h | h
  · exact nS_byte _ c h
  · exact nS_byte _ c h
  · exact nS_byte _ c h
  · exact flat_byte (fun x => nS_byte _) _ c h
theorem gdS_byte (x : Guard) : ∀ c ∈ gdS x, c < 256 := fun c hc => by
  simp only [gdS, List.mem_append] at hc
  rcases hc with h | h | h
  · exact nS_byte _ c h
  · exact nS_byte _ c h
  · exact flat_byte rwS_byte _ c h
theorem stS_byte (l : List Guard) : ∀ c ∈ stS l, c < 256 := fun c hc => by
  rcases List.mem_append.1 hc with h | h
  · exact nS_byte _ c h
  · exact flat_byte gdS_byte _ c h
theorem inS_byte (x : Instr) : ∀ c ∈ inS x, c < 256 := fun c hc => by
  rcases List.mem_append.1 hc with h | h <;> exact nS_byte _ c h
theorem encS_byte {t : Table} (h : ∀ c ∈ t.name, c < 256) : ∀ c ∈ encS t, c < 256 := fun c hc => by
  simp only [encS, List.mem_append] at hc
  rcases hc with h1 | h1 | h1 | h1 | h1 | h1 | h1 | h1 | h1
  · exact putS_byte _ c h1
  · exact h c h1
  · exact sgS_byte _ c h1
  · exact nS_byte _ c h1
  · exact sgS_byte _ c h1
  · exact nS_byte _ c h1
  · exact flat_byte inS_byte _ c h1
  · exact nS_byte _ c h1
  · exact flat_byte (f := fun s : Sl Guard => stS s.l) (fun s => stS_byte s.l) _ c h1
theorem inS_len (x : Instr) : (inS x).length ≤ 20 := by
  have := nS_len x.k
  have := nS_len x.a
  simp only [inS, List.length_append]; omega
/-- How long the parts are, of a table that may be. -/
structure Lens (t : Table) : Prop where
  name : t.name.length ≤ 16
  regs : (sgS t.regs.l).length ≤ 130
  consts : (sgS t.consts.l).length ≤ 10250
  code : (t.code.l.flatMap inS).length ≤ 81920
  states : (t.states.l.flatMap fun s => stS s.l).length ≤ 73200
  all : (encS t).length ≤ 200000
theorem lens {t : Table} (ht : t.Ok V) (hF : Formed t) : Lens t := by
  obtain ⟨hn, h1, h2, h3, h4, h5, h6, h7⟩ := hF.1
  have hname : t.name.length ≤ 16 := by
    unfold NameS at hn
    simp only [Bool.and_eq_true, decide_eq_true_eq] at hn
    exact hn.1.1.1.2
  have q1 := sgS_len ht.regs.2.2
  have q2 := sgS_len ht.consts.2.2
  have q3 := flat_le (f := inS) t.code.l (fun x _ => inS_len x)
  have q4 := flat_le (f := fun s : Sl Guard => stS s.l) (c := 6100) t.states.l (fun s hs => stS_len (hF.rest s hs).1 (fun x hx => ((hF.rest s hs).2 x hx).2))
  have q5 := putS_len10 (n := t.name.length) (by omega)
  have q6 := nS_len t.slots
  have q7 := nS_len t.code.l.length
  have q8 := nS_len t.states.l.length
  refine ⟨hname, by omega, by omega, by omega, by omega, ?_⟩
  simp only [encS, List.length_append]; omega
theorem encodeR_c (P : PlainsR g) {t : Table} (ht : t.Ok V) (hr : t.Room) (hck : Cl Try.prog g V 15 [t.v] [] fun o _ => o = .ret (.int .i64 ((checkS t).getD 0))) : Cl Try.prog g V 21 [t.v] [] fun o _ => o = .ret (encodeV t (checkS t)) := by
  refine Cl.enter P.encode Try.func21 rfl ?_
  have hne := checkS_ne (t := t)
  repeat first | refine W.callP rfl rfl rfl rfl hck ?_ | (with_reducible first | refine za ?_ | refine zb ?_ | refine zc ?_) | refine ym zr ?_ | refine yn 0 zr ?_ | refine yn 1 zr ?_ | refine yn 2 zr ?_ | refine yn 3 zr ?_ | (refine yo zr ?_; intro _) | (refine yp zr ?_; intro _) | refine yq zr ?_ | refine ys zr ?_ | refine yu zr ?_ | refine yv zr ?_ | (with_reducible first | refine zd ?_ | refine ze ?_ | refine zf ?_ | refine zg ?_ | refine zh ?_ | refine zi ?_ | refine zj ?_ | refine zk ?_ | refine zl ?_) | refine zz zr ?_ | refine zw (by decide +kernel) ?_ | refine zx zr zr zr ?_ | refine zy zr zr ?_ | refine W.condT zr ?_ | refine W.condF zr ?_
  refine W.condP rfl ?_ ?_ <;> intro hc
  · have hb : encodeV t (checkS t) = .tup [.str [], .int .i64 ((checkS t).getD 0)] := by
      cases h : checkS t with
      | none => rw [h] at hc; exact absurd rfl hc
      | some c => rfl
    rw [hb]
    repeat' first | (with_reducible first | refine za ?_ | refine zb ?_ | refine zc ?_) | refine ym zr ?_ | refine yn 0 zr ?_ | refine yn 1 zr ?_ | refine yn 2 zr ?_ | refine yn 3 zr ?_ | (refine yo zr ?_; intro _) | (refine yp zr ?_; intro _) | refine yq zr ?_ | refine ys zr ?_ | refine yu zr ?_ | refine yv zr ?_ | (with_reducible first | refine zd ?_ | refine ze ?_ | refine zf ?_ | refine zg ?_ | refine zh ?_ | refine zi ?_ | refine zj ?_ | refine zk ?_ | refine zl ?_) | refine zz zr ?_ | refine zw (by decide +kernel) ?_ | refine zx zr zr zr ?_ | refine zy zr zr ?_ | (refine W.condP zr ?_ ?_ <;> intro _) | refine W.condT zr ?_ | refine W.condF zr ?_ | (refine W.cond zr ?_ ?_ <;> intro _) | (refine W.gs zr zr zr zr ?_ ?_ <;> intro _) | (refine W.gsB zr zr zr zr ?_ ?_ <;> intro _) | refine W.done zr ?_ | refine W.doneN zr ?_
    rfl
  have hC : checkS t = none := hne (Classical.not_not.1 hc)
  have hF := checkS_formed hC
  have hin := hF.in
  have hrest := hF.rest
  have hc4 : t.code.l.length ≤ 4096 := hF.1.2.2.2.2.2.1
  have hL := lens ht hF
  have hlen := ht.states.1
  unfold Len at hlen
  obtain ⟨l1, l2, l3, l4, l5, l6⟩ := hL
  have hheads := hF.1
  rw [hC]
  show W _ _ _ _ _ _ _ _ _ fun o _ => o = .ret (frameV (encS t))
  have hTb := encS_byte (t := t) hr.name.2
  have p0 := putTextR_c (g := g) (V := V) P.putText P.put (b := []) (s := t.name) (by simp) (by omega)
  have p1 := putS_len10 (n := t.name.length) (by omega)
  have p2 := nS_len t.slots
  have p3 := nS_len t.code.l.length
  have hfr := frameR_c (g := g) (V := V) P.frame P.putText P.put P.tail P.sum hTb (by omega)
  have hdef : encS t = [] ++ putS t.name.length ++ t.name ++ sgS t.regs.l ++ nS t.slots ++ sgS t.consts.l ++ nS t.code.l.length ++ (t.code.l.flatMap inS ++ (nS t.states.l.length ++ t.states.l.flatMap fun s => stS s.l)) := by
    simp only [encS, List.nil_append, List.append_assoc]
  generalize encS t = T at hTb hfr hdef l6
  clear hck hne hc
  repeat first | refine W.callP rfl rfl rfl rfl p0 ?_ | (refine W.callP rfl rfl rfl rfl (signedR_c P ht.regs.2.1 ht.regs.2.2 ?h1 ?h2) ?_; (case h1 => (have := hheads.2.1; omega)); (case h2 => (simp only [List.length_append, List.length_nil]; omega))) | (refine W.callP rfl rfl rfl rfl (signedR_c P ht.consts.2.1 ht.consts.2.2 ?h1 ?h2) ?_; (case h1 => (have := hheads.2.2.2.2.1; omega)); (case h2 => (simp only [List.length_append, List.length_nil]; omega))) | (refine W.callP rfl rfl rfl rfl (numberR_c P ?hb) ?_; case hb => (simp only [List.length_append, List.length_nil]; omega)) | (with_reducible first | refine za ?_ | refine zb ?_ | refine zc ?_) | refine ym zr ?_ | refine yn 0 zr ?_ | refine yn 1 zr ?_ | refine yn 2 zr ?_ | refine yn 3 zr ?_ | (refine yo zr ?_; intro _) | (refine yp zr ?_; intro _) | refine yq zr ?_ | refine ys zr ?_ | refine yu zr ?_ | refine yv zr ?_ | (with_reducible first | refine zd ?_ | refine ze ?_ | refine zf ?_ | refine zg ?_ | refine zh ?_ | refine zi ?_ | refine zj ?_ | refine zk ?_ | refine zl ?_) | refine zz zr ?_ | refine zw (by decide +kernel) ?_ | refine zx zr zr zr ?_ | refine zy zr zr ?_ | refine W.condT zr ?_ | refine W.condF zr ?_
  refine W.loopR (α := { q : Nat × List Nat // q.1 ≤ t.code.l.length ∧ q.2 ++ ((t.code.l.drop q.1).flatMap inS ++ (nS t.states.l.length ++ t.states.l.flatMap fun s => stS s.l)) = T }) (fun q => t.code.l.length - q.1.1) (fun q => [(1, _), (5, .str q.1.2), (6, .int .i64 (q.1.1 : Int))]) (fun q => [_]) ⟨(0, _), by simp, by show _ ++ _ = T; rw [hdef]; rfl⟩ ⟨rfl, rfl, rfl⟩ (List.Sublist.refl _) ?_
  clear hdef p0
  rintro ⟨⟨i, c⟩, hi, hc⟩ ih
  simp only at ih hi hc ⊢
  have hcl : c.length ≤ 200000 := by rw [← hc, List.length_append] at l6; omega
  repeat first | (with_reducible first | refine za ?_ | refine zb ?_ | refine zc ?_) | refine ym zr ?_ | refine yn 0 zr ?_ | refine yn 1 zr ?_ | refine yn 2 zr ?_ | refine yn 3 zr ?_ | (refine yo zr ?_; intro _) | (refine yp zr ?_; intro _) | refine yq zr ?_ | refine ys zr ?_ | refine yu zr ?_ | refine yv zr ?_ | (with_reducible first | refine zd ?_ | refine ze ?_ | refine zf ?_ | refine zg ?_ | refine zh ?_ | refine zi ?_ | refine zj ?_ | refine zk ?_ | refine zl ?_) | refine zz zr ?_ | refine zw (by decide +kernel) ?_ | refine zx zr zr zr ?_ | refine zy zr zr ?_ | refine W.condT zr ?_ | refine W.condF zr ?_
  refine W.condP rfl ?_ ?_ <;> intro hlt
  · have hlt : i < t.code.l.length := by omega
    obtain ⟨jn, o, cs, ha, hV, hpt⟩ := Sl.In.get ht.code.2.1 hlt
    have hx := ht.code.2.2 _ (List.getElem_mem hlt)
    rw [List.drop_eq_getElem_cons hlt, List.flatMap_cons] at hc
    generalize t.code.l[i] = x at hpt hx hc
    have hA : partG tbl 3 cs (o + (i : Int).toNat * 2 + 1) = some (.int .i64 x.a) := cell_in (k := 1) hpt rfl
    have hK : partG tbl 52 cs (o + (i : Int).toNat * 2 + 0) = some (.int .u8 x.k) := cell_in (k := 0) hpt rfl
    have ek : IntKind.i64.wrap x.k = x.k := by have := hx.1; unfold In8 at this; exact w64 (by omega) (by omega)
    repeat first | (refine W.ia tblOk rfl rfl rfl rfl rfl rfl ha ?h1 ?h2 ?_; (case h1 => omega); (case h2 => omega)) | refine W.ldV tblOk rfl rfl rfl hV hA ?_ | refine W.ldV tblOk rfl rfl rfl hV hK ?_ | (refine W.callP rfl rfl rfl rfl (numberR_c P ?hb) ?_; case hb => (first | omega | exact Nat.le_trans (len_app hcl) (by omega))) | (with_reducible first | refine za ?_ | refine zb ?_ | refine zc ?_) | refine ym zr ?_ | refine yn 0 zr ?_ | refine yn 1 zr ?_ | refine yn 2 zr ?_ | refine yn 3 zr ?_ | (refine yo zr ?_; intro _) | (refine yp zr ?_; intro _) | refine yq zr ?_ | refine ys zr ?_ | refine yu zr ?_ | refine yv zr ?_ | (with_reducible first | refine zd ?_ | refine ze ?_ | refine zf ?_ | refine zg ?_ | refine zh ?_ | refine zi ?_ | refine zj ?_ | refine zk ?_ | refine zl ?_) | refine zz zr ?_ | refine zw (by decide +kernel) ?_ | refine zx zr zr zr ?_ | refine zy zr zr ?_ | refine W.condT zr ?_ | refine W.condF zr ?_
    rw [ek, wN (by omega)]
    refine W.weak _ _ ?_ ?_ (ih ⟨(i + 1, c ++ inS x), by show i + 1 ≤ _; omega, by show (c ++ inS x) ++ _ = T; rw [← hc]; simp⟩ (by show t.code.l.length - (i + 1) < t.code.l.length - i; omega))
    · refine ⟨rfl, ?_, rfl⟩
      show some (AV.str _) = some (AV.str (c ++ inS x))
      congr 2; simp [inS]
    · exact List.Sublist.refl _
  rw [List.drop_eq_nil_of_le (by omega), List.flatMap_nil, List.nil_append] at hc
  clear ih
  repeat first | (refine W.callP rfl rfl rfl rfl (numberR_c P ?hb) ?_; case hb => omega) | (with_reducible first | refine za ?_ | refine zb ?_ | refine zc ?_) | refine ym zr ?_ | refine yn 0 zr ?_ | refine yn 1 zr ?_ | refine yn 2 zr ?_ | refine yn 3 zr ?_ | (refine yo zr ?_; intro _) | (refine yp zr ?_; intro _) | refine yq zr ?_ | refine ys zr ?_ | refine yu zr ?_ | refine yv zr ?_ | (with_reducible first | refine zd ?_ | refine ze ?_ | refine zf ?_ | refine zg ?_ | refine zh ?_ | refine zi ?_ | refine zj ?_ | refine zk ?_ | refine zl ?_) | refine zz zr ?_ | refine zw (by decide +kernel) ?_ | refine zx zr zr zr ?_ | refine zy zr zr ?_ | refine W.condT zr ?_ | refine W.condF zr ?_
  refine W.loopR (α := { q : Nat × List Nat // q.1 ≤ t.states.l.length ∧ q.2 ++ ((t.states.l.drop q.1).flatMap fun s => stS s.l) = T }) (fun q => t.states.l.length - q.1.1) (fun q => [(1, _), (5, .str q.1.2), (7, .int .i64 (q.1.1 : Int))]) (fun q => [_]) ⟨(0, c ++ nS t.states.l.length), by simp, by show (c ++ nS t.states.l.length) ++ _ = T; rw [← hc]; simp⟩ ⟨rfl, rfl, rfl⟩ (List.Sublist.refl _) ?_
  clear hc hcl
  rintro ⟨⟨i, c⟩, hi, hc⟩ ih
  simp only at ih hi hc ⊢
  have hcl : c.length ≤ 200000 := by rw [← hc, List.length_append] at l6; omega
  repeat first | (with_reducible first | refine za ?_ | refine zb ?_ | refine zc ?_) | refine ym zr ?_ | refine yn 0 zr ?_ | refine yn 1 zr ?_ | refine yn 2 zr ?_ | refine yn 3 zr ?_ | (refine yo zr ?_; intro _) | (refine yp zr ?_; intro _) | refine yq zr ?_ | refine ys zr ?_ | refine yu zr ?_ | refine yv zr ?_ | (with_reducible first | refine zd ?_ | refine ze ?_ | refine zf ?_ | refine zg ?_ | refine zh ?_ | refine zi ?_ | refine zj ?_ | refine zk ?_ | refine zl ?_) | refine zz zr ?_ | refine zw (by decide +kernel) ?_ | refine zx zr zr zr ?_ | refine zy zr zr ?_ | refine W.condT zr ?_ | refine W.condF zr ?_
  refine W.condP rfl ?_ ?_ <;> intro hlt
  · have hlt : i < t.states.l.length := by omega
    obtain ⟨jn, o, cs, ha, hV, hpt⟩ := Sl.In.get ht.states.2.1 hlt
    have hl := ht.states.2.2 _ (List.getElem_mem hlt)
    have hin1 := hin _ (List.getElem_mem hlt)
    have hrest1 := hrest _ (List.getElem_mem hlt)
    rw [List.drop_eq_getElem_cons hlt, List.flatMap_cons] at hc
    generalize t.states.l[i] = l at hpt hl hc hin1 hrest1
    have hst := stateR_c (g := g) (V := V) P hl.2.1 hl.2.2 hrest1.1 (fun x hx => (hrest1.2 x hx).2) (fun x hx => (hin1 x hx).le (by omega) (by omega)) (b := c) (by omega)
    repeat first | (refine W.ia tblOk rfl rfl rfl rfl rfl rfl ha ?h1 ?h2 ?_; (case h1 => omega); (case h2 => omega)) | refine W.ldV tblOk rfl rfl rfl hV hpt ?_ | refine W.callP rfl rfl rfl rfl hst ?_ | (with_reducible first | refine za ?_ | refine zb ?_ | refine zc ?_) | refine ym zr ?_ | refine yn 0 zr ?_ | refine yn 1 zr ?_ | refine yn 2 zr ?_ | refine yn 3 zr ?_ | (refine yo zr ?_; intro _) | (refine yp zr ?_; intro _) | refine yq zr ?_ | refine ys zr ?_ | refine yu zr ?_ | refine yv zr ?_ | (with_reducible first | refine zd ?_ | refine ze ?_ | refine zf ?_ | refine zg ?_ | refine zh ?_ | refine zi ?_ | refine zj ?_ | refine zk ?_ | refine zl ?_) | refine zz zr ?_ | refine zw (by decide +kernel) ?_ | refine zx zr zr zr ?_ | refine zy zr zr ?_ | refine W.condT zr ?_ | refine W.condF zr ?_
    rw [wN (by omega)]
    refine W.weak _ _ ?_ ?_ (ih ⟨(i + 1, c ++ stS l.l), by show i + 1 ≤ _; omega, by show (c ++ stS l.l) ++ _ = T; rw [← hc]; simp⟩ (by show t.states.l.length - (i + 1) < t.states.l.length - i; omega))
    · exact ⟨rfl, rfl, rfl⟩
    · exact List.Sublist.refl _
  rw [List.drop_eq_nil_of_le (by omega), List.flatMap_nil, List.append_nil] at hc
  subst hc
  clear ih
  have hfv : ∃ s e, frameV c = .tup [.str s, .int .i64 e] := by
    unfold frameV; split <;> exact ⟨_, _, rfl⟩
  obtain ⟨s, e, hfv⟩ := hfv
  rw [hfv] at hfr ⊢
  repeat' first | refine W.callP rfl rfl rfl rfl hfr ?_ | (with_reducible first | refine za ?_ | refine zb ?_ | refine zc ?_) | refine ym zr ?_ | refine yn 0 zr ?_ | refine yn 1 zr ?_ | refine yn 2 zr ?_ | refine yn 3 zr ?_ | (refine yo zr ?_; intro _) | (refine yp zr ?_; intro _) | refine yq zr ?_ | refine ys zr ?_ | refine yu zr ?_ | refine yv zr ?_ | (with_reducible first | refine zd ?_ | refine ze ?_ | refine zf ?_ | refine zg ?_ | refine zh ?_ | refine zi ?_ | refine zj ?_ | refine zk ?_ | refine zl ?_) | refine zz zr ?_ | refine zw (by decide +kernel) ?_ | refine zx zr zr zr ?_ | refine zy zr zr ?_ | (refine W.condP zr ?_ ?_ <;> intro _) | refine W.condT zr ?_ | refine W.condF zr ?_ | (refine W.cond zr ?_ ?_ <;> intro _) | (refine W.gs zr zr zr zr ?_ ?_ <;> intro _) | (refine W.gsB zr zr zr zr ?_ ?_ <;> intro _) | refine W.done zr ?_ | refine W.doneN zr ?_
  rfl
end Go.Proofs.Ythkkphkeonnnfaa.Abs
