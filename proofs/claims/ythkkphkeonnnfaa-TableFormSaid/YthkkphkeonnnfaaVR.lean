/- A table is read: plain; and rules for it. No condition but those that each theorem names. -/
import Derived.Test.YthkkphkeonnnfaaDB
import Derived.Test.YthkkphkeonnnfaaTYa
namespace Go.Proofs.Ythkkphkeonnnfaa.Abs
open Go
set_option linter.unusedVariables false
set_option linter.unusedSimpArgs false
set_option maxRecDepth 100000
/-- What reads one thing: told which instruction is next, and what is left of the bytes. -/
abbrev Rd (α : Type) := Int → List Nat → Option (α × Int × List Nat)
def listP {α : Type} (p : Rd α) : Nat → Rd (List α)
  | 0, nx, l => some ([], nx, l)
  | k + 1, nx, l => match p nx l with
    | some (x, nx1, r) => match listP p k nx1 r with
      | some (xs, nx2, r2) => some (x :: xs, nx2, r2)
      | none => none
    | none => none
def preP {α : Type} (xs : List α) : Option (List α × Int × List Nat) → Option (List α × Int × List Nat)
  | some (ys, q) => some (xs ++ ys, q)
  | none => none
theorem preP_nil {α : Type} (o : Option (List α × Int × List Nat)) : preP [] o = o := by cases o <;> rfl
theorem listP_some {α : Type} {p : Rd α} {k : Nat} {nx nx1 : Int} {l r : List Nat} {x : α} (xs : List α) (h : p nx l = some (x, nx1, r)) : preP xs (listP p (k + 1) nx l) = preP (xs ++ [x]) (listP p k nx1 r) := by
  simp only [listP, h]
  cases listP p k nx1 r with
  | none => rfl
  | some q => obtain ⟨ys, q⟩ := q; simp [preP]
theorem listP_none {α : Type} {p : Rd α} {k : Nat} {nx : Int} {l : List Nat} (xs : List α) (h : p nx l = none) : preP xs (listP p (k + 1) nx l) = none := by simp only [listP, h]; rfl
def spanP : Rd Span := fun nx l => match numP 4096 l with
  | some (n, r) => some (⟨nx, nx + (n : Int)⟩, nx + (n : Int), r)
  | none => none
def instrP : Rd Instr := fun nx l => match numP 9 l with
  | some (k, r) => match numP 4096 r with
    | some (a, r2) => some (⟨(k : Int), (a : Int)⟩, nx, r2)
    | none => none
  | none => none
def Row.put (x : Row) (p : Nat) (s : Span) : Row := if p = 3 then { x with side := s } else if p = 5 then { x with qty := s } else if p = 7 then { x with price := s } else { x with value := s }
def spansP : List Nat → Row → Rd Row
  | [], x, nx, l => some (x, nx, l)
  | p :: ps, x, nx, l => match spanP nx l with
    | some (s, nx1, r) => spansP ps (x.put p s) nx1 r
    | none => none
def zsp : Span := ⟨0, 0⟩
def rowP : Rd Row := fun nx l => match numP 6 l with
  | some (k, r1) => match numP 5 r1 with
    | some (o, r2) => match numP 4096 r2 with
      | some (i, r3) => spansP (offs k o) ⟨(k : Int), (o : Int), (i : Int), zsp, zsp, zsp, zsp⟩ nx r3
      | none => none
    | none => none
  | none => none
/-- What the instructions of a span read. -/
noncomputable def rdsL (c : List Instr) (f z : Int) : Int × Int := readsS (fun i => c.getD i.toNat ⟨0, 0⟩) (min z c.length - max f 0).toNat (max f 0) 0 0
/-- A row that lies nowhere. -/
def mkS {α : Type} (l : List α) : Sl α := ⟨none, .ex 0, l⟩
noncomputable def guardP (c : List Instr) : Rd Guard := fun nx l => match spanP nx l with
  | some (s, nx1, r1) => match numP 8 r1 with
    | some (k, r2) => match listP rowP k nx1 r2 with
      | some (xs, nx2, r3) => some (⟨s, (rdsL c s.f s.t).1, (rdsL c s.f s.t).2, mkS xs⟩, nx2, r3)
      | none => none
    | none => none
  | none => none
noncomputable def stateP (c : List Instr) : Rd (Sl Guard) := fun nx l => match numP 12 l with
  | some (k, r) => match listP (guardP c) k nx r with
    | some (xs, nx1, r1) => some (mkS xs, nx1, r1)
    | none => none
  | none => none
noncomputable def tableP (l : List Nat) : Option Table := match textP l with
  | some (name, r1) => match signedP 12 r1 with
    | some (regs, r2) => match numP 4 r2 with
      | some (slots, r3) => match signedP 1024 r3 with
        | some (consts, r4) => match numP 4096 r4 with
          | some (n, r5) => match listP instrP n 0 r5 with
            | some (code, nx, r6) => match numP 12 r6 with
              | some (m, r7) => match listP (stateP code) m nx r7 with
                | some (sts, _, r8) => if r8 = [] then some ⟨name, mkS regs, (slots : Int), mkS consts, mkS code, mkS sts⟩ else none
                | none => none
              | none => none
            | none => none
          | none => none
        | none => none
      | none => none
    | none => none
  | none => none
/-! ### how far it can come -/
/-- What is left is an end of the bytes; the instructions told so far are few. -/
structure At (b : List Nat) (nx : Int) (l : List Nat) : Prop where
  e : EndOf b l
  z : 0 ≤ nx
  r : nx + 4096 * (l.length : Int) ≤ 4096 * (b.length : Int)
theorem At.all (b : List Nat) : At b 0 b := ⟨EndOf.all b, Int.le_refl _, by omega⟩
theorem At.le {b l : List Nat} {nx : Int} (h : At b nx l) (hl : b.length ≤ 65536) : 0 ≤ nx ∧ nx ≤ 1000000000000 := ⟨h.z, by have := h.r; omega⟩
theorem At.le9 {b l : List Nat} {nx : Int} (h : At b nx l) (hl : b.length ≤ 65536) : nx ≤ 1000000000 := by have := h.r; omega
theorem At.num {b l r : List Nat} {nx : Int} {most n : Nat} (h : At b nx l) (e : numP most l = some (n, r)) : At b nx r :=
  ⟨h.e.num e, h.z, by have := (takeP_drop (numP_take e).1).2; have := h.r; omega⟩
theorem At.sp {b l r : List Nat} {nx : Int} {n : Nat} (h : At b nx l) (e : numP 4096 l = some (n, r)) : At b (nx + (n : Int)) r :=
  ⟨h.e.num e, by have := h.z; omega, by have := (takeP_drop (numP_take e).1).2; have := (numP_take e).2; have := h.r; omega⟩
def Fair {α : Type} (p : Rd α) : Prop := ∀ {b : List Nat} {nx : Int} {l : List Nat} {x : α} {nx1 : Int} {r : List Nat}, At b nx l → p nx l = some (x, nx1, r) → At b nx1 r
theorem fair_span : Fair spanP := fun {b nx l x nx1 r} h e => by
  unfold spanP at e
  split at e
  · rename_i n q hq
    injection e with e; injection e with e1 e; injection e with e2 e3
    rw [← e2, ← e3]; exact h.sp hq
  · cases e
theorem fair_instr : Fair instrP := fun {b nx l x nx1 r} h e => by
  unfold instrP at e
  split at e
  · rename_i n q hq
    split at e
    · rename_i n2 q2 hq2
      injection e with e; injection e with e1 e; injection e with e2 e3
      rw [← e2, ← e3]; exact (h.num hq).num hq2
    · cases e
  · cases e
theorem fair_list {α : Type} {p : Rd α} (hp : Fair p) : ∀ k, Fair (listP p k)
  | 0, b, nx, l, x, nx1, r, h, e => by
    injection e with e; injection e with e1 e; injection e with e2 e3
    rw [← e2, ← e3]; exact h
  | k + 1, b, nx, l, x, nx1, r, h, e => by
    rw [listP] at e
    split at e
    · rename_i y nx2 q hq
      split at e
      · rename_i ys nx3 q3 hq3
        injection e with e; injection e with e1 e; injection e with e2 e3
        rw [← e2, ← e3]; exact fair_list hp k (hp h hq) hq3
      · cases e
    · cases e
theorem listP_len {α : Type} {p : Rd α} : ∀ (k : Nat) {nx nx1 : Int} {l r : List Nat} {xs : List α}, listP p k nx l = some (xs, nx1, r) → xs.length = k
  | 0, nx, nx1, l, r, xs, e => by injection e with e; injection e with e1 e; rw [← e1]; rfl
  | k + 1, nx, nx1, l, r, xs, e => by
    rw [listP] at e
    split at e
    · rename_i y nx2 q hq
      split at e
      · rename_i ys nx3 q3 hq3
        injection e with e; injection e with e1 e
        rw [← e1, List.length_cons, listP_len k hq3]
      · cases e
    · cases e
theorem fair_spans : ∀ (ps : List Nat) (x : Row), Fair (spansP ps x)
  | [], x, b, nx, l, y, nx1, r, h, e => by
    injection e with e; injection e with e1 e; injection e with e2 e3
    rw [← e2, ← e3]; exact h
  | p :: ps, x, b, nx, l, y, nx1, r, h, e => by
    rw [spansP] at e
    split at e
    · rename_i s nx2 q hq
      exact fair_spans ps _ (fair_span h hq) e
    · cases e
theorem fair_row : Fair rowP := fun {b nx l x nx1 r} h e => by
  unfold rowP at e
  split at e
  · rename_i n q hq
    split at e
    · rename_i n2 q2 hq2
      split at e
      · rename_i n3 q3 hq3
        exact fair_spans _ _ (((h.num hq).num hq2).num hq3) e
      · cases e
    · cases e
  · cases e
theorem fair_guard (c : List Instr) : Fair (guardP c) := fun {b nx l x nx1 r} h e => by
  unfold guardP at e
  split at e
  · rename_i s nx2 q hq
    split at e
    · rename_i n2 q2 hq2
      split at e
      · rename_i xs nx3 q3 hq3
        injection e with e; injection e with e1 e; injection e with e2 e3
        rw [← e2, ← e3]; exact fair_list fair_row _ ((fair_span h hq).num hq2) hq3
      · cases e
    · cases e
  · cases e
theorem fair_state (c : List Instr) : Fair (stateP c) := fun {b nx l x nx1 r} h e => by
  unfold stateP at e
  split at e
  · rename_i n q hq
    split at e
    · rename_i xs nx3 q3 hq3
      injection e with e; injection e with e1 e; injection e with e2 e3
      rw [← e2, ← e3]; exact fair_list (fair_guard c) _ (h.num hq) hq3
    · cases e
  · cases e
theorem numP_len {most n : Nat} {l r : List Nat} (e : numP most l = some (n, r)) : n ≤ most := (numP_take e).2
/-! ### rules -/
section
variable {P : Program} {g : Cg} {n : Nat} {V : K → Option (List AV)} {rs : List ResultVar} {st : List Fr} {Γ : Gm} {Δ : Dm} {Q : RO → Dm → Prop} {b : Bool} {all rest : List Oper} {ty : TypeId} {pos : String} {after : Array Edge} {gd : Option (Nat × Bool)}
/-- A call that is handed some blocks, and to which the others are lent. -/
theorem W.callH {dst : Option Nat} {fx : Operand} {xs : Array Operand} {tys : Array TypeId} {f : Nat} {first caps vs : List AV} {R : Dm} {Q1 : RO → Dm → Prop} (hf : eg Γ fx = some (.func f first caps)) (ha : egs Γ xs.toList = some vs)
    (hd : dstOk n dst = true) (hw : wantG all Γ ⟨dst, .call ⟨.value fx, xs, tys⟩, ty, pos, after, gd⟩ = some true)
    (hc : Cl P g (withV V R) f (first ++ vs ++ caps) Δ Q1)
    (hp : ∀ v Δ', Q1 (.pan v) Δ' → panOk P b all ⟨dst, .call ⟨.value fx, xs, tys⟩, ty, pos, after, gd⟩ rest = true ∧ Q (.pan v) (Δ' ++ R))
    (h : ∀ v Δ', Q1 (.ret v) Δ' → W P g n V rs (.o b all rest :: st) .nrm (dstG dst v Γ) (Δ' ++ R) Q) : W P g n V rs (.o b all (⟨dst, .call ⟨.value fx, xs, tys⟩, ty, pos, after, gd⟩ :: rest) :: st) .nrm Γ (Δ ++ R) Q :=
  W.opX hw hd fun F s tm hM hG => by
    obtain ⟨o, Δ1, s', h1, h2, k0, h3⟩ := hc _ s hM.lend
    have hj := h2.unlend hM.nodupR (fun x hx => hM.ownB x (by simp [hx])) (fun i hi => hM.apart i (by simp only [names, List.map_append, List.mem_append]; exact .inr hi)) (fun i hi => hM.vapart i (by simp only [names, List.map_append, List.mem_append]; exact .inr hi))
    have hop : ∀ k, k0 ≤ k → opA (.call ⟨.value fx, xs, tys⟩) P (callA P g (exec P g k)) tm s = o.cr s' := fun k hk => by
      show opCall P _ _ tm s = _
      unfold opCall
      simp only [hG.egs ha, hG.eg hf]
      exact h3 k hk
    cases o with
    | ret v => exact .inl ⟨v, s', Δ1 ++ R, ⟨k0, hop⟩, hj, h v Δ1 h1⟩
    | pan v => exact .inr ⟨v, s', Δ1 ++ R, ⟨k0, hop⟩, hj, hp v Δ1 h1⟩
/-- A call of a number, whatever it comes to. -/
theorem W.callT {d : Nat} {fx : Operand} {xs : Array Operand} {tys : Array TypeId} {f : Nat} {first caps vs : List AV} {R : Dm} {k : K} {bs : List Nat} {a : Nat} {nx : Int} (hf : eg Γ fx = some (.func f first caps)) (ha : egs Γ xs.toList = some vs)
    (hn : Nat.ble (d + 1) n = true) (hw : wantG all Γ ⟨some d, .call ⟨.value fx, xs, tys⟩, ty, pos, after, gd⟩ = some true)
    (hc : Cl P g V f (first ++ vs ++ caps) [rdB k bs a nx] fun o Δ => (∃ m a', a' ≤ bs.length ∧ o = .ret (.int .i64 m) ∧ Δ = [rdB k bs a' nx]) ∨ ∃ v, o = .pan v)
    (hb : panOk P b all ⟨some d, .call ⟨.value fx, xs, tys⟩, ty, pos, after, gd⟩ rest = true)
    (h : ∀ m a', a' ≤ bs.length → W P g n V rs (.o b all rest :: st) .nrm ((d, .int .i64 m) :: Γ) (rdB k bs a' nx :: R) fun _ _ => True) : W P g n V rs (.o b all (⟨some d, .call ⟨.value fx, xs, tys⟩, ty, pos, after, gd⟩ :: rest) :: st) .nrm Γ (rdB k bs a nx :: R) fun _ _ => True :=
  W.callR (Δ := [_]) (R := R) hf ha hn hw hc (fun _ _ _ => ⟨hb, trivial⟩) fun u Δ' hq => by
    rcases hq with ⟨m, a', h1, h2, rfl⟩ | ⟨v, h2⟩
    · injection h2 with h2; subst h2
      exact h m a' h1
    · cases h2
end
section
variable {P : Program} {g : Cg} {n : Nat} {V : K → Option (List AV)} {rs : List ResultVar} {st : List Fr} {Γ : Gm} {Δ : Dm} {Q : RO → Dm → Prop} {b : Bool} {all rest : List Oper} {ty : TypeId} {pos : String} {after : Array Edge} {gd : Option (Nat × Bool)}
/-- A call that is handed the first block, leaves it changed, and nothing else. -/
theorem W.callB {dst : Option Nat} {fx : Operand} {xs : Array Operand} {tys : Array TypeId} {f : Nat} {first caps vs : List AV} {R : Dm} {x0 x1 : K × Bk} {v : AV} (hf : eg Γ fx = some (.func f first caps)) (ha : egs Γ xs.toList = some vs)
    (hd : dstOk n dst = true) (hw : wantG all Γ ⟨dst, .call ⟨.value fx, xs, tys⟩, ty, pos, after, gd⟩ = some true)
    (hc : Cl P g V f (first ++ vs ++ caps) [x0] fun o Δ' => o = .ret v ∧ Δ' = [x1])
    (h : W P g n V rs (.o b all rest :: st) .nrm (dstG dst v Γ) (x1 :: R) Q) : W P g n V rs (.o b all (⟨dst, .call ⟨.value fx, xs, tys⟩, ty, pos, after, gd⟩ :: rest) :: st) .nrm Γ (x0 :: R) Q :=
  W.callR (Δ := [x0]) (R := R) hf ha hd hw hc (fun _ _ h => by obtain ⟨h, -⟩ := h; cases h) fun u Δ' hq => by
    obtain ⟨h1, rfl⟩ := hq
    injection h1 with h1; subst h1
    exact h
/-- A call that is handed the first block, and panics. -/
theorem W.callPan {dst : Option Nat} {fx : Operand} {xs : Array Operand} {tys : Array TypeId} {f : Nat} {first caps vs : List AV} {R : Dm} {x0 : K × Bk} {u : AV} (hf : eg Γ fx = some (.func f first caps)) (ha : egs Γ xs.toList = some vs)
    (hd : dstOk n dst = true) (hw : wantG all Γ ⟨dst, .call ⟨.value fx, xs, tys⟩, ty, pos, after, gd⟩ = some true)
    (hc : Cl P g V f (first ++ vs ++ caps) [x0] fun o _ => o = .pan u) (hb : panOk P b all ⟨dst, .call ⟨.value fx, xs, tys⟩, ty, pos, after, gd⟩ rest = true)
    (hq : ∀ Δ', Q (.pan u) (Δ' ++ R)) : W P g n V rs (.o b all (⟨dst, .call ⟨.value fx, xs, tys⟩, ty, pos, after, gd⟩ :: rest) :: st) .nrm Γ (x0 :: R) Q :=
  W.callR (Δ := [x0]) (R := R) hf ha hd hw hc (fun v _ h => by injection h with h; subst h; exact ⟨hb, hq _⟩) fun _ _ h => by cases h
end
variable {g : Cg} {V : K → Option (List AV)}
theorem numT (G : ReadG g) {b : List Nat} (hb : ∀ c ∈ b, c < 256) (hl : b.length ≤ 281474976710656) {a : Nat} (ha : a ≤ b.length) (k : K) (nx : Int) (most : Nat) (hmost : most ≤ 1000000) :
    Cl Try.prog g V 69 [.ptr (some (k, 0)), .int .i64 (most : Int)] [rdB k b a nx] fun o Δ => (∃ m a', a' ≤ b.length ∧ o = .ret (.int .i64 m) ∧ Δ = [rdB k b a' nx]) ∨ ∃ v, o = .pan v := by
  refine (number_c (V := V) G.num G.wide G.must G.take hb hl ha k nx most hmost).mono fun o Δ hq => ?_
  cases hr : takeP (b.drop a) with
  | none => rw [hr] at hq; exact .inr ⟨_, hq.1⟩
  | some q =>
    obtain ⟨n, r⟩ := q
    rw [hr] at hq
    simp only at hq
    by_cases hn : n ≤ most
    · rw [if_pos hn] at hq; exact .inl ⟨_, _, Nat.sub_le _ _, hq.1, hq.2⟩
    · rw [if_neg hn] at hq; exact .inr ⟨_, hq.1⟩
/-! ### the spans of a row that is being read -/
theorem perm_sp (S : Dm) (X A B C : K × Bk) (G : Dm) : (X :: A :: B :: C :: (S ++ G)).Perm ((S ++ [X]) ++ (A :: B :: C :: G)) := by
  rw [List.append_assoc]
  show (([X, A, B, C] : Dm) ++ (S ++ G)).Perm (S ++ (([X, A, B, C] : Dm) ++ G))
  rw [← List.append_assoc, ← List.append_assoc]
  exact List.Perm.append_right _ List.perm_append_comm
theorem W.dropD {P : Program} {g : Cg} {n : Nat} {V : K → Option (List AV)} {rs : List ResultVar} {st : List Fr} {e : Ex} {Γ : Gm} {Δ : Dm} {Q : RO → Dm → Prop} (Δ' : Dm) (hd : Δ'.Sublist Δ) (h : W P g n V rs st e Γ Δ' Q) : W P g n V rs st e Γ Δ Q := fun F s tm hM hT => h F s tm (hM.drop hd) hT
def spA (i : K) : List Nat → Option (K × Nat)
  | [] => none
  | _ :: _ => some (i, 0)
abbrev spV (i : K) (ps : List Nat) : AV := .slice (spA i ps) ps.length (.ex ps.length)
def spB (i : K) (r : K) : List Nat → Dm
  | [] => []
  | p :: ps => [(i, .cells ((p :: ps).map fun p => .ptr (some (r, p))) 71 1 true)]
theorem spans_d (hp : Plain g 30 = true) (r : K) (x : Row) : Cl Try.prog g V 30 [.ptr (some (r, 0))] [rowK r x] fun o Δ => ∃ i, o = .ret (spV i (offs x.k x.o)) ∧ Δ = spB i r (offs x.k x.o) ++ [rowK r x] :=
  (spans_c hp r x).mono fun o Δ h => by
    cases ho : offs x.k x.o with
    | nil => rw [ho, if_pos rfl] at h; exact ⟨.z, h⟩
    | cons p ps =>
      rw [ho, if_neg (by simp)] at h
      exact h
end Go.Proofs.Ythkkphkeonnnfaa.Abs
