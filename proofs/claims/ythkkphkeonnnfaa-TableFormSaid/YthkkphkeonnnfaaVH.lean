/- A table's bytes: the program's Encode. No condition but those that each theorem names. -/
import Derived.Test.YthkkphkeonnnfaaVFa
import Derived.Test.YthkkphkeonnnfaaVG
namespace Go.Proofs.Ythkkphkeonnnfaa.Abs
open Go
set_option linter.unusedVariables false
set_option linter.unusedSimpArgs false
set_option maxRecDepth 100000
set_option maxHeartbeats 4000000
attribute [local irreducible] W Cl Bd
variable {g : Cg} {V : K → Option (List AV)}
theorem encode_c (P : PlainsW g) {t : Table} (ht : t.Ok V) (hr : t.Room) (hck : Cl Try.prog g V 13 [t.v] [] fun o _ => o = .ret (.int .i64 ((checkS t).getD 0))) : Cl Try.prog g V 20 [t.v] [] fun o _ => o = .ret (encodeV t (checkS t)) := by
  refine Cl.enter P.encode Try.func20 rfl ?_
  have hne := checkS_ne (t := t)
  repeat first | refine W.callP rfl rfl rfl rfl hck ?_ | (with_reducible first | refine za ?_ | refine zb ?_ | refine zc ?_) | refine ym zr ?_ | refine yn 0 zr ?_ | refine yn 1 zr ?_ | refine yn 2 zr ?_ | refine yn 3 zr ?_ | (refine yo zr ?_; intro _) | (refine yp zr ?_; intro _) | refine yq zr ?_ | refine ys zr ?_ | refine yu zr ?_ | refine yv zr ?_ | (with_reducible first | refine zd ?_ | refine ze ?_ | refine zf ?_ | refine zg ?_ | refine zh ?_ | refine zi ?_ | refine zj ?_ | refine zk ?_ | refine zl ?_) | refine zz zr ?_ | refine zw (by decide +kernel) ?_ | refine zx zr zr zr ?_ | refine zy zr zr ?_ | refine W.condT zr ?_ | refine W.condF zr ?_
  refine W.condP rfl ?_ ?_ <;> intro hc
  · have hb : encodeV t (checkS t) = .tup [.str [], .int .i64 ((checkS t).getD 0)] := by
      cases h : checkS t with
      | none => rw [h] at hc; exact absurd rfl hc
      | some c => rfl
    rw [hb]
    repeat' first | (with_reducible first | refine za ?_ | refine zb ?_ | refine zc ?_) | refine ym zr ?_ | refine yn 0 zr ?_ | refine yn 1 zr ?_ | refine yn 2 zr ?_ | refine yn 3 zr ?_ | (refine yo zr ?_; intro _) | (refine yp zr ?_; intro _) | refine yq zr ?_ | refine ys zr ?_ | refine yu zr ?_ | refine yv zr ?_ | (with_reducible first | refine zd ?_ | refine ze ?_ | refine zf ?_ | refine zg ?_ | refine zh ?_ | refine zi ?_ | refine zj ?_ | refine zk ?_ | refine zl ?_) | refine zz zr ?_ | refine zw (by decide +kernel) ?_ | refine zx zr zr zr ?_ | refine zy zr zr ?_ | (refine W.condP zr ?_ ?_ <;> intro _) | refine W.condT zr ?_ | refine W.condF zr ?_ | (refine W.cond zr ?_ ?_ <;> intro _) | (refine W.gs zr zr zr zr ?_ ?_ <;> intro _) | (refine W.gsB zr zr zr zr ?_ ?_ <;> intro _) | refine W.done zr ?_ | refine W.doneN zr ?_
    rfl
  have hC : checkS t = none := hne (Classical.not_not.1 hc)
  have hF := checkS_formed hC
  have hin := hF.in
  have hrest := hF.rest
  have hc4 : t.code.l.length ≤ 4096 := hF.1.2.2.2.2.2.1
  have hL := lens ht hF
  have hlen := ht.states.1
  unfold Len at hlen
  obtain ⟨l1, l2, l3, l4, l5, l6⟩ := hL
  have hheads := hF.1
  rw [hC]
  show W _ _ _ _ _ _ _ _ _ fun o _ => o = .ret (frameV (encS t))
  have hTb := encS_byte (t := t) hr.name.2
  have p0 := fun V => putText_c (g := g) (V := V) P.putText P.puts P.put (b := []) (s := t.name) (by simp) (by simp; omega)
  have p1 := putS_len10 (n := t.name.length) (by omega)
  have p2 := nS_len t.slots
  have p3 := nS_len t.code.l.length
  have hfr := fun V => frame_c (g := g) (V := V) P.frame P.putText P.puts P.put P.check P.sum hTb (by omega)
  have hdef : encS t = [] ++ putS t.name.length ++ t.name ++ sgS t.regs.l ++ nS t.slots ++ sgS t.consts.l ++ nS t.code.l.length ++ (t.code.l.flatMap inS ++ (nS t.states.l.length ++ t.states.l.flatMap fun s => stS s.l)) := by
    simp only [encS, List.nil_append, List.append_assoc]
  have hn0 : ∀ c ∈ [] ++ putS t.name.length ++ t.name, c < 256 := app_byte (app_byte (by simp) (putS_byte _)) hr.name.2
  generalize encS t = T at hTb hfr hdef l6
  clear hck hne hc
  have sg1 := fun (k : K) (V : K → Option (List AV)) (h : t.Ok V) => signed_cW (g := g) (V := V) P k (b := [] ++ putS t.name.length ++ t.name) h.regs.2.1 h.regs.2.2 (by have := hheads.2.1; omega) hn0 (by simp only [List.length_append, List.length_nil]; omega)
  have b1 : ∀ c ∈ [] ++ putS t.name.length ++ t.name ++ sgS t.regs.l, c < 256 := app_byte hn0 (sgS_byte _)
  have b2 : ∀ c ∈ [] ++ putS t.name.length ++ t.name ++ sgS t.regs.l ++ nS t.slots, c < 256 := app_byte b1 (nS_byte _)
  have sg2 := fun (k : K) (V : K → Option (List AV)) (h : t.Ok V) => signed_cW (g := g) (V := V) P k (b := [] ++ putS t.name.length ++ t.name ++ sgS t.regs.l ++ nS t.slots) h.consts.2.1 h.consts.2.2 (by have := hheads.2.2.2.2.1; omega) b2 (by simp only [List.length_append, List.length_nil]; omega)
  have b3 : ∀ c ∈ [] ++ putS t.name.length ++ t.name ++ sgS t.regs.l ++ nS t.slots ++ sgS t.consts.l, c < 256 := app_byte b2 (sgS_byte _)
  repeat first | refine W.callP rfl rfl rfl rfl (p0 _) ?_ | (with_reducible first | refine za ?_ | refine zb ?_ | refine zc ?_) | refine ym zr ?_ | refine yn 0 zr ?_ | refine yn 1 zr ?_ | refine yn 2 zr ?_ | refine yn 3 zr ?_ | (refine yo zr ?_; intro _) | (refine yp zr ?_; intro _) | refine yq zr ?_ | refine ys zr ?_ | refine yu zr ?_ | refine yv zr ?_ | (with_reducible first | refine zd ?_ | refine ze ?_ | refine zf ?_ | refine zg ?_ | refine zh ?_ | refine zi ?_ | refine zj ?_ | refine zk ?_ | refine zl ?_) | refine zz zr ?_ | refine zw (by decide +kernel) ?_ | refine zx zr zr zr ?_ | refine zy zr zr ?_ | refine W.condT zr ?_ | refine W.condF zr ?_
  refine W.callR (Δ := [strB _ _]) rfl rfl rfl rfl (sg1 _ V ht) (by rintro v Δ' ⟨h, -⟩; cases h) ?_
  rintro v Δ' ⟨hv, hmem⟩; injection hv with hv; subst hv
  refine W.keep _ hmem ?_
  unfold strB
  repeat first | (refine W.bsl tblOk rfl rfl rfl rfl (by decide) rfl rfl rfl ?_; intro _) | (refine W.callLP rfl rfl rfl rfl (puts1 P b1 ?h1 _) ?_; (case h1 => (simp only [List.length_append, List.length_nil]; omega))) | (with_reducible first | refine za ?_ | refine zb ?_ | refine zc ?_) | refine ym zr ?_ | refine yn 0 zr ?_ | refine yn 1 zr ?_ | refine yn 2 zr ?_ | refine yn 3 zr ?_ | (refine yo zr ?_; intro _) | (refine yp zr ?_; intro _) | refine yq zr ?_ | refine ys zr ?_ | refine yu zr ?_ | refine yv zr ?_ | (with_reducible first | refine zd ?_ | refine ze ?_ | refine zf ?_ | refine zg ?_ | refine zh ?_ | refine zi ?_ | refine zj ?_ | refine zk ?_ | refine zl ?_) | refine zz zr ?_ | refine zw (by decide +kernel) ?_ | refine zx zr zr zr ?_ | refine zy zr zr ?_ | refine W.condT zr ?_ | refine W.condF zr ?_
  refine W.callR (Δ := [strB _ _]) rfl rfl rfl rfl (sg2 _ V ht) (by rintro v Δ' ⟨h, -⟩; cases h) ?_
  rintro v Δ' ⟨hv, hmem⟩; injection hv with hv; subst hv
  refine W.keep _ hmem ?_
  unfold strB
  repeat first | (refine W.bsl tblOk rfl rfl rfl rfl (by decide) rfl rfl rfl ?_; intro _) | (refine W.callLP rfl rfl rfl rfl (puts1 P b3 ?h1 _) ?_; (case h1 => (simp only [List.length_append, List.length_nil]; omega))) | (with_reducible first | refine za ?_ | refine zb ?_ | refine zc ?_) | refine ym zr ?_ | refine yn 0 zr ?_ | refine yn 1 zr ?_ | refine yn 2 zr ?_ | refine yn 3 zr ?_ | (refine yo zr ?_; intro _) | (refine yp zr ?_; intro _) | refine yq zr ?_ | refine ys zr ?_ | refine yu zr ?_ | refine yv zr ?_ | (with_reducible first | refine zd ?_ | refine ze ?_ | refine zf ?_ | refine zg ?_ | refine zh ?_ | refine zi ?_ | refine zj ?_ | refine zk ?_ | refine zl ?_) | refine zz zr ?_ | refine zw (by decide +kernel) ?_ | refine zx zr zr zr ?_ | refine zy zr zr ?_ | refine W.condT zr ?_ | refine W.condF zr ?_
  refine W.loopR (α := { q : Nat × List Nat // q.1 ≤ t.code.l.length ∧ q.2 ++ ((t.code.l.drop q.1).flatMap inS ++ (nS t.states.l.length ++ t.states.l.flatMap fun s => stS s.l)) = T }) (fun q => t.code.l.length - q.1.1) (fun q => [(1, _), (5, _), (48, _), (49, _), (50, .int .i64 (q.1.1 : Int))]) (fun q => [strB _ q.1.2, _]) ⟨(0, [] ++ putS t.name.length ++ t.name ++ sgS t.regs.l ++ nS t.slots ++ sgS t.consts.l ++ nS t.code.l.length), by simp, hdef.symm⟩ ⟨rfl, rfl, rfl, rfl, rfl⟩ (.cons_cons _ (.cons _ (.cons _ (List.Sublist.refl _)))) ?_
  clear hdef p0 sg1 sg2 b1 b2 b3 hn0
  rintro ⟨⟨i, c⟩, hi, hc⟩ ih
  simp only at ih hi hc ⊢
  have hcl : c.length ≤ 200000 := by rw [← hc, List.length_append] at l6; omega
  have hcb : ∀ y ∈ c, y < 256 := fun y hy => hTb y (by rw [← hc]; exact List.mem_append_left _ hy)
  unfold strB
  repeat first | (with_reducible first | refine za ?_ | refine zb ?_ | refine zc ?_) | refine ym zr ?_ | refine yn 0 zr ?_ | refine yn 1 zr ?_ | refine yn 2 zr ?_ | refine yn 3 zr ?_ | (refine yo zr ?_; intro _) | (refine yp zr ?_; intro _) | refine yq zr ?_ | refine ys zr ?_ | refine yu zr ?_ | refine yv zr ?_ | (with_reducible first | refine zd ?_ | refine ze ?_ | refine zf ?_ | refine zg ?_ | refine zh ?_ | refine zi ?_ | refine zj ?_ | refine zk ?_ | refine zl ?_) | refine zz zr ?_ | refine zw (by decide +kernel) ?_ | refine zx zr zr zr ?_ | refine zy zr zr ?_ | refine W.condT zr ?_ | refine W.condF zr ?_
  refine W.condP rfl ?_ ?_ <;> intro hlt
  · have hlt : i < t.code.l.length := by omega
    obtain ⟨jn, o, cs, ha, hV, hpt⟩ := Sl.In.get ht.code.2.1 hlt
    rw [List.drop_eq_getElem_cons hlt, List.flatMap_cons] at hc
    generalize t.code.l[i] = x at hpt hc
    repeat first | (refine W.ia tblOk rfl rfl rfl rfl rfl rfl ha ?h1 ?h2 ?_; (case h1 => omega); (case h2 => omega)) | refine W.ldV tblOk rfl rfl rfl hV hpt ?_ | (refine W.bsl tblOk rfl rfl rfl rfl (by decide) rfl rfl rfl ?_; intro _) | (refine W.callLP rfl rfl rfl rfl (puts2 P hcb ?h1 _ _) ?_; (case h1 => omega)) | (with_reducible first | refine za ?_ | refine zb ?_ | refine zc ?_) | refine ym zr ?_ | refine yn 0 zr ?_ | refine yn 1 zr ?_ | refine yn 2 zr ?_ | refine yn 3 zr ?_ | (refine yo zr ?_; intro _) | (refine yp zr ?_; intro _) | refine yq zr ?_ | refine ys zr ?_ | refine yu zr ?_ | refine yv zr ?_ | (with_reducible first | refine zd ?_ | refine ze ?_ | refine zf ?_ | refine zg ?_ | refine zh ?_ | refine zi ?_ | refine zj ?_ | refine zk ?_ | refine zl ?_) | refine zz zr ?_ | refine zw (by decide +kernel) ?_ | refine zx zr zr zr ?_ | refine zy zr zr ?_ | refine W.condT zr ?_ | refine W.condF zr ?_
    rw [wN (by omega)]
    refine W.weak _ _ ?_ ?_ (ih ⟨(i + 1, c ++ inS x), by show i + 1 ≤ _; omega, by show (c ++ inS x) ++ _ = T; rw [← hc]; simp⟩ (by show t.code.l.length - (i + 1) < t.code.l.length - i; omega))
    · exact ⟨rfl, rfl, rfl, rfl, rfl⟩
    · exact .cons_cons _ (.cons _ (.cons _ (List.Sublist.refl _)))
  rw [List.drop_eq_nil_of_le (by omega), List.flatMap_nil, List.nil_append] at hc
  clear ih
  repeat first | (refine W.bsl tblOk rfl rfl rfl rfl (by decide) rfl rfl rfl ?_; intro _) | (refine W.callLP rfl rfl rfl rfl (puts1 P hcb ?h1 _) ?_; (case h1 => omega)) | (with_reducible first | refine za ?_ | refine zb ?_ | refine zc ?_) | refine ym zr ?_ | refine yn 0 zr ?_ | refine yn 1 zr ?_ | refine yn 2 zr ?_ | refine yn 3 zr ?_ | (refine yo zr ?_; intro _) | (refine yp zr ?_; intro _) | refine yq zr ?_ | refine ys zr ?_ | refine yu zr ?_ | refine yv zr ?_ | (with_reducible first | refine zd ?_ | refine ze ?_ | refine zf ?_ | refine zg ?_ | refine zh ?_ | refine zi ?_ | refine zj ?_ | refine zk ?_ | refine zl ?_) | refine zz zr ?_ | refine zw (by decide +kernel) ?_ | refine zx zr zr zr ?_ | refine zy zr zr ?_ | refine W.condT zr ?_ | refine W.condF zr ?_
  refine W.loopR (α := { q : Nat × List Nat // q.1 ≤ t.states.l.length ∧ q.2 ++ ((t.states.l.drop q.1).flatMap fun s => stS s.l) = T }) (fun q => t.states.l.length - q.1.1) (fun q => [(1, _), (5, _), (72, _), (73, _), (74, .int .i64 (q.1.1 : Int))]) (fun q => [strB _ q.1.2, _]) ⟨(0, c ++ nS t.states.l.length), by simp, by show (c ++ nS t.states.l.length) ++ _ = T; rw [← hc]; simp⟩ ⟨rfl, rfl, rfl, rfl, rfl⟩ (.cons_cons _ (.cons _ (List.Sublist.refl _))) ?_
  clear hc hcl hcb
  rintro ⟨⟨i, c⟩, hi, hc⟩ ih
  simp only at ih hi hc ⊢
  have hcl : c.length ≤ 200000 := by rw [← hc, List.length_append] at l6; omega
  have hcb : ∀ y ∈ c, y < 256 := fun y hy => hTb y (by rw [← hc]; exact List.mem_append_left _ hy)
  unfold strB
  repeat first | (with_reducible first | refine za ?_ | refine zb ?_ | refine zc ?_) | refine ym zr ?_ | refine yn 0 zr ?_ | refine yn 1 zr ?_ | refine yn 2 zr ?_ | refine yn 3 zr ?_ | (refine yo zr ?_; intro _) | (refine yp zr ?_; intro _) | refine yq zr ?_ | refine ys zr ?_ | refine yu zr ?_ | refine yv zr ?_ | (with_reducible first | refine zd ?_ | refine ze ?_ | refine zf ?_ | refine zg ?_ | refine zh ?_ | refine zi ?_ | refine zj ?_ | refine zk ?_ | refine zl ?_) | refine zz zr ?_ | refine zw (by decide +kernel) ?_ | refine zx zr zr zr ?_ | refine zy zr zr ?_ | refine W.condT zr ?_ | refine W.condF zr ?_
  refine W.condP rfl ?_ ?_ <;> intro hlt
  rotate_left
  · rw [List.drop_eq_nil_of_le (by omega), List.flatMap_nil, List.append_nil] at hc
    subst hc
    clear ih
    have hfv : ∃ s e, frameV c = .tup [.str s, .int .i64 e] := by
      unfold frameV; split <;> exact ⟨_, _, rfl⟩
    obtain ⟨s, e, hfv⟩ := hfv
    have hfr := hfr V
    rw [hfv] at hfr ⊢
    repeat' first | refine W.callP rfl rfl rfl rfl hfr ?_ | (with_reducible first | refine za ?_ | refine zb ?_ | refine zc ?_) | refine ym zr ?_ | refine yn 0 zr ?_ | refine yn 1 zr ?_ | refine yn 2 zr ?_ | refine yn 3 zr ?_ | (refine yo zr ?_; intro _) | (refine yp zr ?_; intro _) | refine yq zr ?_ | refine ys zr ?_ | refine yu zr ?_ | refine yv zr ?_ | (with_reducible first | refine zd ?_ | refine ze ?_ | refine zf ?_ | refine zg ?_ | refine zh ?_ | refine zi ?_ | refine zj ?_ | refine zk ?_ | refine zl ?_) | refine zz zr ?_ | refine zw (by decide +kernel) ?_ | refine zx zr zr zr ?_ | refine zy zr zr ?_ | (refine W.condP zr ?_ ?_ <;> intro _) | refine W.condT zr ?_ | refine W.condF zr ?_ | (refine W.cond zr ?_ ?_ <;> intro _) | (refine W.gs zr zr zr zr ?_ ?_ <;> intro _) | (refine W.gsB zr zr zr zr ?_ ?_ <;> intro _) | refine W.done zr ?_ | refine W.doneN zr ?_
    rfl
  have hlt : i < t.states.l.length := by omega
  obtain ⟨jn, o, cs, ha, hV, hpt⟩ := Sl.In.get ht.states.2.1 hlt
  have hl := ht.states.2.2 _ (List.getElem_mem hlt)
  have hin1 := hin _ (List.getElem_mem hlt)
  have hrest1 := hrest _ (List.getElem_mem hlt)
  rw [List.drop_eq_getElem_cons hlt, List.flatMap_cons] at hc
  generalize t.states.l[i] = l at hpt hl hc hin1 hrest1
  have hl12 := hrest1.1
  repeat first | (refine W.ia tblOk rfl rfl rfl rfl rfl rfl ha ?h1 ?h2 ?_; (case h1 => omega); (case h2 => omega)) | refine W.ldV tblOk rfl rfl rfl hV hpt ?_ | (refine W.bsl tblOk rfl rfl rfl rfl (by decide) rfl rfl rfl ?_; intro _) | (refine W.callLP rfl rfl rfl rfl (puts1 P hcb ?h1 _) ?_; (case h1 => omega)) | (with_reducible first | refine za ?_ | refine zb ?_ | refine zc ?_) | refine ym zr ?_ | refine yn 0 zr ?_ | refine yn 1 zr ?_ | refine yn 2 zr ?_ | refine yn 3 zr ?_ | (refine yo zr ?_; intro _) | (refine yp zr ?_; intro _) | refine yq zr ?_ | refine ys zr ?_ | refine yu zr ?_ | refine yv zr ?_ | (with_reducible first | refine zd ?_ | refine ze ?_ | refine zf ?_ | refine zg ?_ | refine zh ?_ | refine zi ?_ | refine zj ?_ | refine zk ?_ | refine zl ?_) | refine zz zr ?_ | refine zw (by decide +kernel) ?_ | refine zx zr zr zr ?_ | refine zy zr zr ?_ | refine W.condT zr ?_ | refine W.condF zr ?_
  refine W.loopR (α := { q : Nat × List Nat // q.1 ≤ l.l.length ∧ q.2 ++ ((l.l.drop q.1).flatMap gdS ++ (t.states.l.drop (i + 1)).flatMap fun s => stS s.l) = T }) (fun q => l.l.length - q.1.1) (fun q => [(1, _), (5, _), (72, _), (73, _), (74, .int .i64 (i : Int)), (84, _), (85, _), (86, .int .i64 (q.1.1 : Int))]) (fun q => [strB _ q.1.2, _]) ⟨(0, c ++ nS l.l.length), by simp, by show (c ++ nS l.l.length) ++ _ = T; rw [← hc]; simp [stS]⟩ ⟨rfl, rfl, rfl, rfl, rfl, rfl, rfl, rfl⟩ (.cons_cons _ (.cons _ (List.Sublist.refl _))) ?_
  clear hc hcl hcb
  rintro ⟨⟨k, c⟩, hk, hc⟩ ih2
  simp only at ih2 hk hc ⊢
  have hcl : c.length ≤ 200000 := by rw [← hc, List.length_append] at l6; omega
  have hcb : ∀ y ∈ c, y < 256 := fun y hy => hTb y (by rw [← hc]; exact List.mem_append_left _ hy)
  unfold strB
  repeat first | (with_reducible first | refine za ?_ | refine zb ?_ | refine zc ?_) | refine ym zr ?_ | refine yn 0 zr ?_ | refine yn 1 zr ?_ | refine yn 2 zr ?_ | refine yn 3 zr ?_ | (refine yo zr ?_; intro _) | (refine yp zr ?_; intro _) | refine yq zr ?_ | refine ys zr ?_ | refine yu zr ?_ | refine yv zr ?_ | (with_reducible first | refine zd ?_ | refine ze ?_ | refine zf ?_ | refine zg ?_ | refine zh ?_ | refine zi ?_ | refine zj ?_ | refine zk ?_ | refine zl ?_) | refine zz zr ?_ | refine zw (by decide +kernel) ?_ | refine zx zr zr zr ?_ | refine zy zr zr ?_ | refine W.condT zr ?_ | refine W.condF zr ?_
  refine W.condP rfl ?_ ?_ <;> intro hlt2
  rotate_left
  · clear ih2
    rw [show l.l.drop k = [] from List.drop_eq_nil_of_le (by omega), List.flatMap_nil, List.nil_append] at hc
    repeat first | (with_reducible first | refine za ?_ | refine zb ?_ | refine zc ?_) | refine ym zr ?_ | refine yn 0 zr ?_ | refine yn 1 zr ?_ | refine yn 2 zr ?_ | refine yn 3 zr ?_ | (refine yo zr ?_; intro _) | (refine yp zr ?_; intro _) | refine yq zr ?_ | refine ys zr ?_ | refine yu zr ?_ | refine yv zr ?_ | (with_reducible first | refine zd ?_ | refine ze ?_ | refine zf ?_ | refine zg ?_ | refine zh ?_ | refine zi ?_ | refine zj ?_ | refine zk ?_ | refine zl ?_) | refine zz zr ?_ | refine zw (by decide +kernel) ?_ | refine zx zr zr zr ?_ | refine zy zr zr ?_ | refine W.condT zr ?_ | refine W.condF zr ?_
    rw [wN (by omega)]
    refine W.weak _ _ ?_ ?_ (ih ⟨(i + 1, c), by show i + 1 ≤ _; omega, hc⟩ (by show t.states.l.length - (i + 1) < t.states.l.length - i; omega))
    · exact ⟨rfl, rfl, rfl, rfl, rfl⟩
    · exact List.Sublist.refl _
  have hlt2 : k < l.l.length := by omega
  obtain ⟨jn2, o2, cs2, ha2, hV2, hpt2⟩ := Sl.In.get hl.2.1 hlt2
  have hg := hl.2.2 _ (List.getElem_mem hlt2)
  have hin2 := hin1 _ (List.getElem_mem hlt2)
  have hrest2 := hrest1.2 _ (List.getElem_mem hlt2)
  rw [List.drop_eq_getElem_cons hlt2, List.flatMap_cons] at hc
  generalize l.l[k] = x at hpt2 hg hc hin2 hrest2
  obtain ⟨hw0, hrows⟩ := hin2
  have hx8 := hrest2.2
  have e1 : IntKind.i64.wrap (x.when.t - x.when.f) = x.when.t - x.when.f := w64 (by omega) (by omega)
  repeat first | (refine W.ia tblOk rfl rfl rfl rfl rfl rfl ha2 ?h1 ?h2 ?_; (case h1 => omega); (case h2 => omega)) | refine W.ldV tblOk rfl rfl rfl hV2 hpt2 ?_ | (refine W.bsl tblOk rfl rfl rfl rfl (by decide) rfl rfl rfl ?_; intro _) | (refine W.callLP rfl rfl rfl rfl (puts2 P hcb ?h1 _ _) ?_; (case h1 => omega)) | (with_reducible first | refine za ?_ | refine zb ?_ | refine zc ?_) | refine ym zr ?_ | refine yn 0 zr ?_ | refine yn 1 zr ?_ | refine yn 2 zr ?_ | refine yn 3 zr ?_ | (refine yo zr ?_; intro _) | (refine yp zr ?_; intro _) | refine yq zr ?_ | refine ys zr ?_ | refine yu zr ?_ | refine yv zr ?_ | (with_reducible first | refine zd ?_ | refine ze ?_ | refine zf ?_ | refine zg ?_ | refine zh ?_ | refine zi ?_ | refine zj ?_ | refine zk ?_ | refine zl ?_) | refine zz zr ?_ | refine zw (by decide +kernel) ?_ | refine zx zr zr zr ?_ | refine zy zr zr ?_ | refine W.condT zr ?_ | refine W.condF zr ?_
  rw [e1]
  refine W.loopR (α := { q : Nat × List Nat // q.1 ≤ x.rows.l.length ∧ q.2 ++ ((x.rows.l.drop q.1).flatMap rwS ++ ((l.l.drop (k + 1)).flatMap gdS ++ (t.states.l.drop (i + 1)).flatMap fun s => stS s.l)) = T }) (fun q => x.rows.l.length - q.1.1) (fun q => [(1, _), (5, _), (72, _), (73, _), (74, .int .i64 (i : Int)), (84, _), (85, _), (86, .int .i64 (k : Int)), (106, _), (107, _), (108, .int .i64 (q.1.1 : Int))]) (fun q => [strB _ q.1.2, _]) ⟨(0, c ++ (nS (x.when.t - x.when.f) ++ nS x.rows.l.length)), by simp, by show (c ++ (nS (x.when.t - x.when.f) ++ nS x.rows.l.length)) ++ _ = T; rw [← hc]; simp [gdS, spS]⟩ ⟨rfl, rfl, rfl, rfl, rfl, rfl, rfl, rfl, rfl, rfl, rfl⟩ (.cons_cons _ (.cons _ (.cons _ (List.Sublist.refl _)))) ?_
  clear hc hcl hcb
  rintro ⟨⟨j, c⟩, hj, hc⟩ ih3
  simp only at ih3 hj hc ⊢
  have hcl : c.length ≤ 200000 := by rw [← hc, List.length_append] at l6; omega
  have hcb : ∀ y ∈ c, y < 256 := fun y hy => hTb y (by rw [← hc]; exact List.mem_append_left _ hy)
  unfold strB
  repeat first | (with_reducible first | refine za ?_ | refine zb ?_ | refine zc ?_) | refine ym zr ?_ | refine yn 0 zr ?_ | refine yn 1 zr ?_ | refine yn 2 zr ?_ | refine yn 3 zr ?_ | (refine yo zr ?_; intro _) | (refine yp zr ?_; intro _) | refine yq zr ?_ | refine ys zr ?_ | refine yu zr ?_ | refine yv zr ?_ | (with_reducible first | refine zd ?_ | refine ze ?_ | refine zf ?_ | refine zg ?_ | refine zh ?_ | refine zi ?_ | refine zj ?_ | refine zk ?_ | refine zl ?_) | refine zz zr ?_ | refine zw (by decide +kernel) ?_ | refine zx zr zr zr ?_ | refine zy zr zr ?_ | refine W.condT zr ?_ | refine W.condF zr ?_
  refine W.condP rfl ?_ ?_ <;> intro hlt3
  rotate_left
  · clear ih3
    rw [show x.rows.l.drop j = [] from List.drop_eq_nil_of_le (by omega), List.flatMap_nil, List.nil_append] at hc
    repeat first | (with_reducible first | refine za ?_ | refine zb ?_ | refine zc ?_) | refine ym zr ?_ | refine yn 0 zr ?_ | refine yn 1 zr ?_ | refine yn 2 zr ?_ | refine yn 3 zr ?_ | (refine yo zr ?_; intro _) | (refine yp zr ?_; intro _) | refine yq zr ?_ | refine ys zr ?_ | refine yu zr ?_ | refine yv zr ?_ | (with_reducible first | refine zd ?_ | refine ze ?_ | refine zf ?_ | refine zg ?_ | refine zh ?_ | refine zi ?_ | refine zj ?_ | refine zk ?_ | refine zl ?_) | refine zz zr ?_ | refine zw (by decide +kernel) ?_ | refine zx zr zr zr ?_ | refine zy zr zr ?_ | refine W.condT zr ?_ | refine W.condF zr ?_
    rw [wN (by omega)]
    refine W.weak _ _ ?_ ?_ (ih2 ⟨(k + 1, c), by show k + 1 ≤ _; omega, hc⟩ (by show l.l.length - (k + 1) < l.l.length - k; omega))
    · exact ⟨rfl, rfl, rfl, rfl, rfl, rfl, rfl, rfl⟩
    · exact List.Sublist.refl _
  have hlt3 : j < x.rows.l.length := by omega
  obtain ⟨jn3, o3, cs3, ha3, hV3, hpt3⟩ := Sl.In.get hg.2.2.2.2.1 hlt3
  have hrow := hrows _ (List.getElem_mem hlt3)
  rw [List.drop_eq_getElem_cons hlt3, List.flatMap_cons] at hc
  generalize x.rows.l[j] = r at hpt3 hrow hc
  have hnext := fun (c' : List Nat) (hc' : c' = c ++ rwS r) => ih3 ⟨(j + 1, c'), by show j + 1 ≤ _; omega, by rw [hc', ← hc]; simp⟩ (by show x.rows.l.length - (j + 1) < x.rows.l.length - j; omega)
  clear ih ih2 ih3 hfr
  repeat first | (refine W.ia tblOk rfl rfl rfl rfl rfl rfl ha3 ?h1 ?h2 ?_; (case h1 => omega); (case h2 => omega)) | refine W.ldV tblOk rfl rfl rfl hV3 hpt3 ?_ | (refine W.bsl tblOk rfl rfl rfl rfl (by decide) rfl rfl rfl ?_; intro _) | (refine W.callLP rfl rfl rfl rfl (puts3 P hcb ?h1 _ _ _) ?_; (case h1 => omega)) | (with_reducible first | refine za ?_ | refine zb ?_ | refine zc ?_) | refine ym zr ?_ | refine yn 0 zr ?_ | refine yn 1 zr ?_ | refine yn 2 zr ?_ | refine yn 3 zr ?_ | (refine yo zr ?_; intro _) | (refine yp zr ?_; intro _) | refine yq zr ?_ | refine ys zr ?_ | refine yu zr ?_ | refine yv zr ?_ | (with_reducible first | refine zd ?_ | refine ze ?_ | refine zf ?_ | refine zg ?_ | refine zh ?_ | refine zi ?_ | refine zj ?_ | refine zk ?_ | refine zl ?_) | refine zz zr ?_ | refine zw (by decide +kernel) ?_ | refine zx zr zr zr ?_ | refine zy zr zr ?_ | refine W.condT zr ?_ | refine W.condF zr ?_
  have hcb1 : ∀ y ∈ c ++ (nS r.k ++ (nS r.o ++ nS r.i)), y < 256 := app_byte hcb (app_byte (nS_byte _) (app_byte (nS_byte _) (nS_byte _)))
  have hcl1 : (c ++ (nS r.k ++ (nS r.o ++ nS r.i))).length ≤ 200030 := by
    have w1 := nS_len r.k
    have w2 := nS_len r.o
    have w3 := nS_len r.i
    simp only [List.length_append]; omega
  have hcd : c ++ rwS r = (c ++ (nS r.k ++ (nS r.o ++ nS r.i))) ++ r.spans.flatMap spS := by simp [rwS]
  generalize c ++ (nS r.k ++ (nS r.o ++ nS r.i)) = c1 at hcb1 hcl1 hcd ⊢
  refine W.fr2 ?_
  refine W.callR (Δ := [rowK _ r]) rfl rfl rfl rfl (spans_c P.spans _ r) ?_ ?_
  · intro v Δ' h; exfalso; split at h
    · cases h.1
    · obtain ⟨i, h, -⟩ := h; cases h
  intro v Δ' h
  have hcase : (r.k = 1 ∧ r.o = 2) ∨ (r.k = 1 ∧ ¬ r.o = 2) ∨ r.k = 2 ∨ r.k = 4 ∨ (¬ r.k = 1 ∧ ¬ r.k = 2 ∧ ¬ r.k = 4) := by omega
  rcases hcase with ⟨hk', ho'⟩ | ⟨hk', ho'⟩ | hk' | hk' | ⟨hk1', hk2', hk4'⟩
  · have hl2 : r.spans = [r.side, r.qty] := by simp [Row.spans, hk', ho']
    have hf0 := hrow r.side (by rw [hl2]; simp)
    have ef0 : IntKind.i64.wrap (r.side.t - r.side.f) = r.side.t - r.side.f := w64 (by omega) (by omega)
    have w0 := nS_len (IntKind.i64.wrap (r.side.t - r.side.f))
    have hf1 := hrow r.qty (by rw [hl2]; simp)
    have ef1 : IntKind.i64.wrap (r.qty.t - r.qty.f) = r.qty.t - r.qty.f := w64 (by omega) (by omega)
    have w1 := nS_len (IntKind.i64.wrap (r.qty.t - r.qty.f))
    rw [offs_a hk' ho'] at h
    rw [if_neg (by simp)] at h
    obtain ⟨i5, hv, rfl⟩ := h
    injection hv with hv; subst hv
    repeat' first | refine W.condDT rfl (by decide) ?_ | refine W.condDF rfl (by decide) ?_ | with_reducible refine W.loop (a := .seq (.region 29 _ _) _) ?_ | (refine W.ia tblOk rfl rfl rfl rfl rfl rfl rfl (by decide) (by decide) ?_) | refine W.ldO tblOk 4 rfl rfl rfl rfl rfl rfl ?_ | refine W.ldO tblOk 5 rfl rfl rfl rfl rfl rfl ?_ | refine W.ldO tblOk 6 rfl rfl rfl rfl rfl rfl ?_ | (refine W.drawH (os := #[]) (p := 2) _ 11 12 ?hs tbl tblOk rfl rfl rfl rfl rfl rfl rfl (sameStr _) ?_ ?_; (case hs => decide +kernel)) | (refine W.drawH (os := #[]) (p := 0) _ 11 12 ?hs tbl tblOk rfl rfl rfl rfl rfl rfl rfl (sameStr _) ?_ ?_; (case hs => decide +kernel)) | (intro j_ ha_ hb_; (obtain rfl | rfl : j_ = 11 ∨ j_ = 12 := by omega) <;> first | show W _ _ _ _ _ [.o true _ [_, _, _, _, _, _, _, _, _, _, _]] _ _ _ _ | show W _ _ _ _ _ [.o true _ [_, _, _, _, _, _, _, _, _, _, _, _]] _ _ _ _) | (refine W.bsl tblOk rfl rfl rfl rfl (by decide) rfl rfl rfl ?_; intro _) | (refine W.callLP rfl rfl rfl rfl (puts1 P ?hb ?h1 _) ?_; (case hb => (repeat' first | exact hcb1 | exact nS_byte _ | refine app_byte ?_ ?_)); (case h1 => (first | omega | (simp only [List.length_append]; omega)))) | (with_reducible first | refine za ?_ | refine zb ?_ | refine zc ?_) | refine ym zr ?_ | refine yn 0 zr ?_ | refine yn 1 zr ?_ | refine yn 2 zr ?_ | refine yn 3 zr ?_ | (refine yo zr ?_; intro _) | (refine yp zr ?_; intro _) | refine yq zr ?_ | refine ys zr ?_ | refine yu zr ?_ | refine yv zr ?_ | (with_reducible first | refine zd ?_ | refine ze ?_ | refine zf ?_ | refine zg ?_ | refine zh ?_ | refine zi ?_ | refine zj ?_ | refine zk ?_ | refine zl ?_) | refine zz zr ?_ | refine zw (by decide +kernel) ?_ | refine zx zr zr zr ?_ | refine zy zr zr ?_ | (refine W.condP zr ?_ ?_ <;> intro _) | refine W.condT zr ?_ | refine W.condF zr ?_ | (refine W.cond zr ?_ ?_ <;> intro _) | (refine W.gs zr zr zr zr ?_ ?_ <;> intro _) | (refine W.gsB zr zr zr zr ?_ ?_ <;> intro _) | refine W.done zr ?_ | refine W.doneN zr ?_
    all_goals first
      | with_reducible refine W.id ?_
      | exact ⟨rfl, by simp⟩
    rw [ef0, ef1, wN (by omega)]
    refine W.weak _ _ ?_ ?_ (hnext (c1 ++ nS (r.side.t - r.side.f) ++ nS (r.qty.t - r.qty.f)) (by rw [hcd, hl2]; simp [spS]))
    · exact ⟨rfl, rfl, rfl, rfl, rfl, rfl, rfl, rfl, rfl, rfl, rfl⟩
    · unfold strB
      repeat (first | exact List.Sublist.refl _ | exact .cons_cons _ (List.Sublist.refl _) | exact .cons_cons _ (.cons _ (List.Sublist.refl _)) | exact .cons_cons _ (.cons _ (.cons _ (List.Sublist.refl _))) | exact .cons_cons _ (.cons _ (.cons _ (.cons _ (List.Sublist.refl _)))) | exact .cons_cons _ (.cons _ (.cons _ (.cons _ (.cons _ (List.Sublist.refl _))))) | exact .cons_cons _ (.cons _ (.cons _ (.cons _ (.cons _ (.cons _ (List.Sublist.refl _)))))) | exact .cons_cons _ (.cons _ (.cons _ (.cons _ (.cons _ (.cons _ (.cons _ (List.Sublist.refl _))))))) | refine .cons _ ?_)
  · have hl2 : r.spans = [r.side, r.qty, r.price] := by simp [Row.spans, hk', ho']
    have hf0 := hrow r.side (by rw [hl2]; simp)
    have ef0 : IntKind.i64.wrap (r.side.t - r.side.f) = r.side.t - r.side.f := w64 (by omega) (by omega)
    have w0 := nS_len (IntKind.i64.wrap (r.side.t - r.side.f))
    have hf1 := hrow r.qty (by rw [hl2]; simp)
    have ef1 : IntKind.i64.wrap (r.qty.t - r.qty.f) = r.qty.t - r.qty.f := w64 (by omega) (by omega)
    have w1 := nS_len (IntKind.i64.wrap (r.qty.t - r.qty.f))
    have hf2 := hrow r.price (by rw [hl2]; simp)
    have ef2 : IntKind.i64.wrap (r.price.t - r.price.f) = r.price.t - r.price.f := w64 (by omega) (by omega)
    have w2 := nS_len (IntKind.i64.wrap (r.price.t - r.price.f))
    rw [offs_b hk' ho'] at h
    rw [if_neg (by simp)] at h
    obtain ⟨i5, hv, rfl⟩ := h
    injection hv with hv; subst hv
    repeat' first | refine W.condDT rfl (by decide) ?_ | refine W.condDF rfl (by decide) ?_ | with_reducible refine W.loop (a := .seq (.region 29 _ _) _) ?_ | (refine W.ia tblOk rfl rfl rfl rfl rfl rfl rfl (by decide) (by decide) ?_) | refine W.ldO tblOk 4 rfl rfl rfl rfl rfl rfl ?_ | refine W.ldO tblOk 5 rfl rfl rfl rfl rfl rfl ?_ | refine W.ldO tblOk 6 rfl rfl rfl rfl rfl rfl ?_ | (refine W.drawH (os := #[]) (p := 2) _ 11 12 ?hs tbl tblOk rfl rfl rfl rfl rfl rfl rfl (sameStr _) ?_ ?_; (case hs => decide +kernel)) | (refine W.drawH (os := #[]) (p := 0) _ 11 12 ?hs tbl tblOk rfl rfl rfl rfl rfl rfl rfl (sameStr _) ?_ ?_; (case hs => decide +kernel)) | (intro j_ ha_ hb_; (obtain rfl | rfl : j_ = 11 ∨ j_ = 12 := by omega) <;> first | show W _ _ _ _ _ [.o true _ [_, _, _, _, _, _, _, _, _, _, _]] _ _ _ _ | show W _ _ _ _ _ [.o true _ [_, _, _, _, _, _, _, _, _, _, _, _]] _ _ _ _) | (refine W.bsl tblOk rfl rfl rfl rfl (by decide) rfl rfl rfl ?_; intro _) | (refine W.callLP rfl rfl rfl rfl (puts1 P ?hb ?h1 _) ?_; (case hb => (repeat' first | exact hcb1 | exact nS_byte _ | refine app_byte ?_ ?_)); (case h1 => (first | omega | (simp only [List.length_append]; omega)))) | (with_reducible first | refine za ?_ | refine zb ?_ | refine zc ?_) | refine ym zr ?_ | refine yn 0 zr ?_ | refine yn 1 zr ?_ | refine yn 2 zr ?_ | refine yn 3 zr ?_ | (refine yo zr ?_; intro _) | (refine yp zr ?_; intro _) | refine yq zr ?_ | refine ys zr ?_ | refine yu zr ?_ | refine yv zr ?_ | (with_reducible first | refine zd ?_ | refine ze ?_ | refine zf ?_ | refine zg ?_ | refine zh ?_ | refine zi ?_ | refine zj ?_ | refine zk ?_ | refine zl ?_) | refine zz zr ?_ | refine zw (by decide +kernel) ?_ | refine zx zr zr zr ?_ | refine zy zr zr ?_ | (refine W.condP zr ?_ ?_ <;> intro _) | refine W.condT zr ?_ | refine W.condF zr ?_ | (refine W.cond zr ?_ ?_ <;> intro _) | (refine W.gs zr zr zr zr ?_ ?_ <;> intro _) | (refine W.gsB zr zr zr zr ?_ ?_ <;> intro _) | refine W.done zr ?_ | refine W.doneN zr ?_
    all_goals first
      | with_reducible refine W.id ?_
      | exact ⟨rfl, by simp⟩
    rw [ef0, ef1, ef2, wN (by omega)]
    refine W.weak _ _ ?_ ?_ (hnext (c1 ++ nS (r.side.t - r.side.f) ++ nS (r.qty.t - r.qty.f) ++ nS (r.price.t - r.price.f)) (by rw [hcd, hl2]; simp [spS]))
    · exact ⟨rfl, rfl, rfl, rfl, rfl, rfl, rfl, rfl, rfl, rfl, rfl⟩
    · unfold strB
      repeat (first | exact List.Sublist.refl _ | exact .cons_cons _ (List.Sublist.refl _) | exact .cons_cons _ (.cons _ (List.Sublist.refl _)) | exact .cons_cons _ (.cons _ (.cons _ (List.Sublist.refl _))) | exact .cons_cons _ (.cons _ (.cons _ (.cons _ (List.Sublist.refl _)))) | exact .cons_cons _ (.cons _ (.cons _ (.cons _ (.cons _ (List.Sublist.refl _))))) | exact .cons_cons _ (.cons _ (.cons _ (.cons _ (.cons _ (.cons _ (List.Sublist.refl _)))))) | exact .cons_cons _ (.cons _ (.cons _ (.cons _ (.cons _ (.cons _ (.cons _ (List.Sublist.refl _))))))) | refine .cons _ ?_)
  · have hl2 : r.spans = [r.qty, r.price] := by simp [Row.spans, hk']
    have hf0 := hrow r.qty (by rw [hl2]; simp)
    have ef0 : IntKind.i64.wrap (r.qty.t - r.qty.f) = r.qty.t - r.qty.f := w64 (by omega) (by omega)
    have w0 := nS_len (IntKind.i64.wrap (r.qty.t - r.qty.f))
    have hf1 := hrow r.price (by rw [hl2]; simp)
    have ef1 : IntKind.i64.wrap (r.price.t - r.price.f) = r.price.t - r.price.f := w64 (by omega) (by omega)
    have w1 := nS_len (IntKind.i64.wrap (r.price.t - r.price.f))
    rw [offs_c hk'] at h
    rw [if_neg (by simp)] at h
    obtain ⟨i5, hv, rfl⟩ := h
    injection hv with hv; subst hv
    repeat' first | refine W.condDT rfl (by decide) ?_ | refine W.condDF rfl (by decide) ?_ | with_reducible refine W.loop (a := .seq (.region 29 _ _) _) ?_ | (refine W.ia tblOk rfl rfl rfl rfl rfl rfl rfl (by decide) (by decide) ?_) | refine W.ldO tblOk 4 rfl rfl rfl rfl rfl rfl ?_ | refine W.ldO tblOk 5 rfl rfl rfl rfl rfl rfl ?_ | refine W.ldO tblOk 6 rfl rfl rfl rfl rfl rfl ?_ | (refine W.drawH (os := #[]) (p := 2) _ 11 12 ?hs tbl tblOk rfl rfl rfl rfl rfl rfl rfl (sameStr _) ?_ ?_; (case hs => decide +kernel)) | (refine W.drawH (os := #[]) (p := 0) _ 11 12 ?hs tbl tblOk rfl rfl rfl rfl rfl rfl rfl (sameStr _) ?_ ?_; (case hs => decide +kernel)) | (intro j_ ha_ hb_; (obtain rfl | rfl : j_ = 11 ∨ j_ = 12 := by omega) <;> first | show W _ _ _ _ _ [.o true _ [_, _, _, _, _, _, _, _, _, _, _]] _ _ _ _ | show W _ _ _ _ _ [.o true _ [_, _, _, _, _, _, _, _, _, _, _, _]] _ _ _ _) | (refine W.bsl tblOk rfl rfl rfl rfl (by decide) rfl rfl rfl ?_; intro _) | (refine W.callLP rfl rfl rfl rfl (puts1 P ?hb ?h1 _) ?_; (case hb => (repeat' first | exact hcb1 | exact nS_byte _ | refine app_byte ?_ ?_)); (case h1 => (first | omega | (simp only [List.length_append]; omega)))) | (with_reducible first | refine za ?_ | refine zb ?_ | refine zc ?_) | refine ym zr ?_ | refine yn 0 zr ?_ | refine yn 1 zr ?_ | refine yn 2 zr ?_ | refine yn 3 zr ?_ | (refine yo zr ?_; intro _) | (refine yp zr ?_; intro _) | refine yq zr ?_ | refine ys zr ?_ | refine yu zr ?_ | refine yv zr ?_ | (with_reducible first | refine zd ?_ | refine ze ?_ | refine zf ?_ | refine zg ?_ | refine zh ?_ | refine zi ?_ | refine zj ?_ | refine zk ?_ | refine zl ?_) | refine zz zr ?_ | refine zw (by decide +kernel) ?_ | refine zx zr zr zr ?_ | refine zy zr zr ?_ | (refine W.condP zr ?_ ?_ <;> intro _) | refine W.condT zr ?_ | refine W.condF zr ?_ | (refine W.cond zr ?_ ?_ <;> intro _) | (refine W.gs zr zr zr zr ?_ ?_ <;> intro _) | (refine W.gsB zr zr zr zr ?_ ?_ <;> intro _) | refine W.done zr ?_ | refine W.doneN zr ?_
    all_goals first
      | with_reducible refine W.id ?_
      | exact ⟨rfl, by simp⟩
    rw [ef0, ef1, wN (by omega)]
    refine W.weak _ _ ?_ ?_ (hnext (c1 ++ nS (r.qty.t - r.qty.f) ++ nS (r.price.t - r.price.f)) (by rw [hcd, hl2]; simp [spS]))
    · exact ⟨rfl, rfl, rfl, rfl, rfl, rfl, rfl, rfl, rfl, rfl, rfl⟩
    · unfold strB
      repeat (first | exact List.Sublist.refl _ | exact .cons_cons _ (List.Sublist.refl _) | exact .cons_cons _ (.cons _ (List.Sublist.refl _)) | exact .cons_cons _ (.cons _ (.cons _ (List.Sublist.refl _))) | exact .cons_cons _ (.cons _ (.cons _ (.cons _ (List.Sublist.refl _)))) | exact .cons_cons _ (.cons _ (.cons _ (.cons _ (.cons _ (List.Sublist.refl _))))) | exact .cons_cons _ (.cons _ (.cons _ (.cons _ (.cons _ (.cons _ (List.Sublist.refl _)))))) | exact .cons_cons _ (.cons _ (.cons _ (.cons _ (.cons _ (.cons _ (.cons _ (List.Sublist.refl _))))))) | refine .cons _ ?_)
  · have hl2 : r.spans = [r.value] := by simp [Row.spans, hk']
    have hf0 := hrow r.value (by rw [hl2]; simp)
    have ef0 : IntKind.i64.wrap (r.value.t - r.value.f) = r.value.t - r.value.f := w64 (by omega) (by omega)
    have w0 := nS_len (IntKind.i64.wrap (r.value.t - r.value.f))
    rw [offs_d hk'] at h
    rw [if_neg (by simp)] at h
    obtain ⟨i5, hv, rfl⟩ := h
    injection hv with hv; subst hv
    repeat' first | refine W.condDT rfl (by decide) ?_ | refine W.condDF rfl (by decide) ?_ | with_reducible refine W.loop (a := .seq (.region 29 _ _) _) ?_ | (refine W.ia tblOk rfl rfl rfl rfl rfl rfl rfl (by decide) (by decide) ?_) | refine W.ldO tblOk 4 rfl rfl rfl rfl rfl rfl ?_ | refine W.ldO tblOk 5 rfl rfl rfl rfl rfl rfl ?_ | refine W.ldO tblOk 6 rfl rfl rfl rfl rfl rfl ?_ | (refine W.drawH (os := #[]) (p := 2) _ 11 12 ?hs tbl tblOk rfl rfl rfl rfl rfl rfl rfl (sameStr _) ?_ ?_; (case hs => decide +kernel)) | (refine W.drawH (os := #[]) (p := 0) _ 11 12 ?hs tbl tblOk rfl rfl rfl rfl rfl rfl rfl (sameStr _) ?_ ?_; (case hs => decide +kernel)) | (intro j_ ha_ hb_; (obtain rfl | rfl : j_ = 11 ∨ j_ = 12 := by omega) <;> first | show W _ _ _ _ _ [.o true _ [_, _, _, _, _, _, _, _, _, _, _]] _ _ _ _ | show W _ _ _ _ _ [.o true _ [_, _, _, _, _, _, _, _, _, _, _, _]] _ _ _ _) | (refine W.bsl tblOk rfl rfl rfl rfl (by decide) rfl rfl rfl ?_; intro _) | (refine W.callLP rfl rfl rfl rfl (puts1 P ?hb ?h1 _) ?_; (case hb => (repeat' first | exact hcb1 | exact nS_byte _ | refine app_byte ?_ ?_)); (case h1 => (first | omega | (simp only [List.length_append]; omega)))) | (with_reducible first | refine za ?_ | refine zb ?_ | refine zc ?_) | refine ym zr ?_ | refine yn 0 zr ?_ | refine yn 1 zr ?_ | refine yn 2 zr ?_ | refine yn 3 zr ?_ | (refine yo zr ?_; intro _) | (refine yp zr ?_; intro _) | refine yq zr ?_ | refine ys zr ?_ | refine yu zr ?_ | refine yv zr ?_ | (with_reducible first | refine zd ?_ | refine ze ?_ | refine zf ?_ | refine zg ?_ | refine zh ?_ | refine zi ?_ | refine zj ?_ | refine zk ?_ | refine zl ?_) | refine zz zr ?_ | refine zw (by decide +kernel) ?_ | refine zx zr zr zr ?_ | refine zy zr zr ?_ | (refine W.condP zr ?_ ?_ <;> intro _) | refine W.condT zr ?_ | refine W.condF zr ?_ | (refine W.cond zr ?_ ?_ <;> intro _) | (refine W.gs zr zr zr zr ?_ ?_ <;> intro _) | (refine W.gsB zr zr zr zr ?_ ?_ <;> intro _) | refine W.done zr ?_ | refine W.doneN zr ?_
    all_goals first
      | with_reducible refine W.id ?_
      | exact ⟨rfl, by simp⟩
    rw [ef0, wN (by omega)]
    refine W.weak _ _ ?_ ?_ (hnext (c1 ++ nS (r.value.t - r.value.f)) (by rw [hcd, hl2]; simp [spS]))
    · exact ⟨rfl, rfl, rfl, rfl, rfl, rfl, rfl, rfl, rfl, rfl, rfl⟩
    · unfold strB
      repeat (first | exact List.Sublist.refl _ | exact .cons_cons _ (List.Sublist.refl _) | exact .cons_cons _ (.cons _ (List.Sublist.refl _)) | exact .cons_cons _ (.cons _ (.cons _ (List.Sublist.refl _))) | exact .cons_cons _ (.cons _ (.cons _ (.cons _ (List.Sublist.refl _)))) | exact .cons_cons _ (.cons _ (.cons _ (.cons _ (.cons _ (List.Sublist.refl _))))) | exact .cons_cons _ (.cons _ (.cons _ (.cons _ (.cons _ (.cons _ (List.Sublist.refl _)))))) | exact .cons_cons _ (.cons _ (.cons _ (.cons _ (.cons _ (.cons _ (.cons _ (List.Sublist.refl _))))))) | refine .cons _ ?_)
  · have hl2 : r.spans = [] := by simp [Row.spans, hk1', hk2', hk4']
    rw [offs_e hk1' hk2' hk4'] at h
    rw [if_pos rfl] at h
    obtain ⟨hv, rfl⟩ := h
    injection hv with hv; subst hv
    repeat' first | refine W.condDT rfl (by decide) ?_ | refine W.condDF rfl (by decide) ?_ | with_reducible refine W.loop (a := .seq (.region 29 _ _) _) ?_ | (refine W.ia tblOk rfl rfl rfl rfl rfl rfl rfl (by decide) (by decide) ?_) | refine W.ldO tblOk 4 rfl rfl rfl rfl rfl rfl ?_ | refine W.ldO tblOk 5 rfl rfl rfl rfl rfl rfl ?_ | refine W.ldO tblOk 6 rfl rfl rfl rfl rfl rfl ?_ | (refine W.drawH (os := #[]) (p := 2) _ 11 12 ?hs tbl tblOk rfl rfl rfl rfl rfl rfl rfl (sameStr _) ?_ ?_; (case hs => decide +kernel)) | (refine W.drawH (os := #[]) (p := 0) _ 11 12 ?hs tbl tblOk rfl rfl rfl rfl rfl rfl rfl (sameStr _) ?_ ?_; (case hs => decide +kernel)) | (intro j_ ha_ hb_; (obtain rfl | rfl : j_ = 11 ∨ j_ = 12 := by omega) <;> first | show W _ _ _ _ _ [.o true _ [_, _, _, _, _, _, _, _, _, _, _]] _ _ _ _ | show W _ _ _ _ _ [.o true _ [_, _, _, _, _, _, _, _, _, _, _, _]] _ _ _ _) | (refine W.bsl tblOk rfl rfl rfl rfl (by decide) rfl rfl rfl ?_; intro _) | (refine W.callLP rfl rfl rfl rfl (puts1 P ?hb ?h1 _) ?_; (case hb => (repeat' first | exact hcb1 | exact nS_byte _ | refine app_byte ?_ ?_)); (case h1 => (first | omega | (simp only [List.length_append]; omega)))) | (with_reducible first | refine za ?_ | refine zb ?_ | refine zc ?_) | refine ym zr ?_ | refine yn 0 zr ?_ | refine yn 1 zr ?_ | refine yn 2 zr ?_ | refine yn 3 zr ?_ | (refine yo zr ?_; intro _) | (refine yp zr ?_; intro _) | refine yq zr ?_ | refine ys zr ?_ | refine yu zr ?_ | refine yv zr ?_ | (with_reducible first | refine zd ?_ | refine ze ?_ | refine zf ?_ | refine zg ?_ | refine zh ?_ | refine zi ?_ | refine zj ?_ | refine zk ?_ | refine zl ?_) | refine zz zr ?_ | refine zw (by decide +kernel) ?_ | refine zx zr zr zr ?_ | refine zy zr zr ?_ | (refine W.condP zr ?_ ?_ <;> intro _) | refine W.condT zr ?_ | refine W.condF zr ?_ | (refine W.cond zr ?_ ?_ <;> intro _) | (refine W.gs zr zr zr zr ?_ ?_ <;> intro _) | (refine W.gsB zr zr zr zr ?_ ?_ <;> intro _) | refine W.done zr ?_ | refine W.doneN zr ?_
    all_goals first
      | with_reducible refine W.id ?_
      | exact ⟨rfl, by simp⟩
    rw [wN (by omega)]
    refine W.weak _ _ ?_ ?_ (hnext (c1) (by rw [hcd, hl2]; simp [spS]))
    · exact ⟨rfl, rfl, rfl, rfl, rfl, rfl, rfl, rfl, rfl, rfl, rfl⟩
    · unfold strB
      repeat (first | exact List.Sublist.refl _ | exact .cons_cons _ (List.Sublist.refl _) | exact .cons_cons _ (.cons _ (List.Sublist.refl _)) | exact .cons_cons _ (.cons _ (.cons _ (List.Sublist.refl _))) | exact .cons_cons _ (.cons _ (.cons _ (.cons _ (List.Sublist.refl _)))) | exact .cons_cons _ (.cons _ (.cons _ (.cons _ (.cons _ (List.Sublist.refl _))))) | exact .cons_cons _ (.cons _ (.cons _ (.cons _ (.cons _ (.cons _ (List.Sublist.refl _)))))) | exact .cons_cons _ (.cons _ (.cons _ (.cons _ (.cons _ (.cons _ (.cons _ (List.Sublist.refl _))))))) | refine .cons _ ?_)
end Go.Proofs.Ythkkphkeonnnfaa.Abs
