/- An abstract machine over the model's code: its operations. No condition: these are definitions. -/
import Derived.Test.YthkkphkeonnnfaaAbsA
namespace Go.Proofs.Ythkkphkeonnnfaa.Abs
open Go

/-! ### types -/
def tagg (P : Program) (t : TypeId) : Option (Bool × Nat) :=
  match P.underlying t with
  | some (.struct _) | some (.array _ _) => match P.info? t with
    | some i => some (true, i.size)
    | none => none
  | some _ => some (false, 1)
  | none => none
def tsize (P : Program) (t : TypeId) : Option Nat := match P.info? t with
  | some i => some i.size
  | none => none
noncomputable def zeroA (P : Program) (t : TypeId) : Option AV := match P.info? t with
  | some i => match i.zero with
    | some z => ofV z
    | none => none
  | none => none
noncomputable def ev (tm : Tm) (x : Operand) : Option AV := @Operand.rec (fun _ => T AV → Option AV) (fun i t => T.get t (K.of i)) (fun v _ => ofV v) (fun _ _ => none) (fun f _ => some (.func f [] [])) x tm
noncomputable def cons2 {α : Type} (x : Option α) (o : Option (List α)) : Option (List α) := @Option.rec α (fun _ => Option (List α)) none (fun v => consO v o) x
noncomputable def evs (tm : Tm) (l : List Operand) : Option (List AV) := @List.rec Operand (fun _ => Option (List AV)) (some []) (fun x _ ih => cons2 (ev tm x) ih) l
noncomputable def lenL {α : Type} (l : List α) : Nat := @List.rec α (fun _ => Nat) 0 (fun _ _ ih => Nat.succ ih) l
theorem lenL_eq {α : Type} : ∀ (l : List α), lenL l = l.length
  | [] => rfl
  | _ :: xs => by rw [List.length_cons, ← lenL_eq xs]; rfl
theorem cons2_some {α : Type} {x : Option α} {o : Option (List α)} {r : List α} (h : cons2 x o = some r) : ∃ v l, x = some v ∧ o = some l ∧ r = v :: l := by
  cases x with
  | none => cases h
  | some v =>
    obtain ⟨l, h1, h2⟩ := consO_some (show consO v o = some r from h)
    exact ⟨v, l, rfl, h1, h2⟩
/-- What needs no memory of the model's own operations. -/
noncomputable def pureRun {α : Type} (P : Program) : Sem α → Option α
  | .pure a => some a
  | .program k => pureRun P (k P)
  | _ => none
noncomputable def none0 : K → Option Loc := fun _ => none

/-! ### looks into a value (closed arms: so the kernel runs them quickest) -/
noncomputable def optK {α β : Type} (k : α → Option β) (x : Option α) : Option β := @Option.rec α (fun _ => Option β) none k x
noncomputable def asPtr (v : AV) : Option (K × Nat) := @AV.rec (fun _ => Option (K × Nat)) (fun _ => PUnit) (fun _ => none) (fun _ _ => none) (fun _ => none) (fun a => a) (fun _ _ _ => none) (fun _ => none) (fun _ _ _ _ _ => none) none (fun _ _ _ => none) none (fun _ _ => none) (fun _ _ => none) PUnit.unit (fun _ _ _ _ => PUnit.unit) v
noncomputable def asAgg (v : AV) : Option (List AV) := @AV.rec (fun _ => Option (List AV)) (fun _ => PUnit) (fun _ => none) (fun _ _ => none) (fun _ => none) (fun _ => none) (fun _ _ _ => none) (fun _ => none) (fun _ _ _ _ _ => none) none (fun _ _ _ => none) none (fun l _ => some l) (fun _ _ => none) PUnit.unit (fun _ _ _ _ => PUnit.unit) v
noncomputable def asInt (v : AV) : Option (IntKind × Int) := @AV.rec (fun _ => Option (IntKind × Int)) (fun _ => PUnit) (fun _ => none) (fun k n => some (k, n)) (fun _ => none) (fun _ => none) (fun _ _ _ => none) (fun _ => none) (fun _ _ _ _ _ => none) none (fun _ _ _ => none) none (fun _ _ => none) (fun _ _ => none) PUnit.unit (fun _ _ _ _ => PUnit.unit) v
noncomputable def asBool (v : AV) : Option Bool := @AV.rec (fun _ => Option Bool) (fun _ => PUnit) (fun b => some b) (fun _ _ => none) (fun _ => none) (fun _ => none) (fun _ _ _ => none) (fun _ => none) (fun _ _ _ _ _ => none) none (fun _ _ _ => none) none (fun _ _ => none) (fun _ _ => none) PUnit.unit (fun _ _ _ _ => PUnit.unit) v
theorem asPtr_some {v : AV} {p : K × Nat} (h : asPtr v = some p) : v = .ptr (some p) := by
  cases v with
  | ptr a => exact congrArg AV.ptr h
  | _ => cases h
theorem asAgg_some {v : AV} {l : List AV} (h : asAgg v = some l) : v = .agg l := by
  cases v with
  | agg a => injection h with h; rw [h]
  | _ => cases h
theorem asInt_some {v : AV} {p : IntKind × Int} (h : asInt v = some p) : v = .int p.1 p.2 := by
  cases v with
  | int k n => injection h with h; rw [← h]
  | _ => cases h
theorem asBool_some {v : AV} {b : Bool} (h : asBool v = some b) : v = .bool b := by
  cases v with
  | bool a => injection h with h; rw [h]
  | _ => cases h
theorem optK_some {α β : Type} {k : α → Option β} {x : Option α} {r : β} (h : optK k x = some r) : ∃ a, x = some a ∧ k a = some r := by
  cases x with
  | none => cases h
  | some a => exact ⟨a, rfl, h⟩

/-! ### memory -/
noncomputable def rdl (b : Bk) : Option (List AV) := @Bk.rec (fun _ => Option (List AV)) (fun l _ _ _ => some l) (fun l => some l) (fun _ _ => none) b
noncomputable def cellsAt (h : T Bk) (i : K) : Option (List AV) := optK rdl (T.get h i)
noncomputable def newB (s : St) (b : Bk) : St := ⟨T.set s.hp s.nx b, K.succ s.nx⟩
noncomputable def setB (s : St) (i : K) (b : Bk) : St := ⟨T.set s.hp i b, s.nx⟩
noncomputable def aggO (x : Option (List AV)) : Option AV := optK (fun r => some (.agg r)) x
noncomputable def partB (l : List AV) (o : Nat) (x : Bool × Nat) : Option AV := @Bool.rec (fun _ => Option AV) (getL l o) (aggO (subL l o x.2)) x.1
noncomputable def partA (P : Program) (t : TypeId) (l : List AV) (o : Nat) : Option AV := optK (partB l o) (tagg P t)
noncomputable def loadAt (P : Program) (t : TypeId) (h : T Bk) (p : K × Nat) : Option AV := optK (fun l => partA P t l p.2) (cellsAt h p.1)
noncomputable def opLoad (P : Program) (t : TypeId) (a : Option AV) (s : St) : Option AV := optK (loadAt P t s.hp) (optK asPtr a)
noncomputable def allLeaf (l : List AV) : Bool := @List.rec AV (fun _ => Bool) true (fun v _ ih => @Bool.rec (fun _ => Bool) false ih v.leaf) l
noncomputable def opStore (P : Program) (t : TypeId) (a x : Option AV) (s : St) : Option St := match a, x with
  | some (.ptr (some (i, o))), some v => match T.get s.hp i with
    | some (.cells l e z f) => match tsize P t with
      | some n => match Nat.beq (lenL v.parts) n, allLeaf v.parts with
        | true, true => match setLs l o v.parts with
          | some l' => some (setB s i (.cells l' e z f))
          | none => none
        | _, _ => none
      | none => none
    | _ => none
  | _, _ => none
noncomputable def opAlloc (P : Program) (t : TypeId) (s : St) : Option (AV × St) := match zeroA P t with
  | some z => some (.ptr (some (s.nx, 0)), newB s (.cells z.parts t (lenL z.parts) true))
  | none => none
noncomputable def opBox (t : TypeId) (x : Option AV) (s : St) : Option (AV × St) := match x with
  | some v => some (.ptr (some (s.nx, 0)), newB s (.cells v.parts t (lenL v.parts) true))
  | none => none

/-! ### numbers, texts -/
noncomputable def eqN (l : List Nat) : List Nat → Bool := @List.rec Nat (fun _ => List Nat → Bool) (fun m => @List.casesOn Nat (fun _ => Bool) m true (fun _ _ => false))
  (fun x _ ih m => @List.casesOn Nat (fun _ => Bool) m false (fun y ys => @Bool.rec (fun _ => Bool) false (ih ys) (Nat.beq (Nat.mod x 256) (Nat.mod y 256)))) l
noncomputable def ltN : List Nat → List Nat → Bool
  | _, [] => false
  | [], _ :: _ => true
  | x :: xs, y :: ys => match Nat.blt (x % 256) (y % 256) with
    | true => true
    | false => match Nat.beq (x % 256) (y % 256) with
      | true => ltN xs ys
      | false => false
def kidx : IntKind → Nat
  | .i8 => 0 | .i16 => 1 | .i32 => 2 | .i64 => 3 | .u8 => 4 | .u16 => 5 | .u32 => 6 | .u64 => 7
def kindEq (k k' : IntKind) : Bool := Nat.beq (kidx k) (kidx k')
def lim : IntKind → Nat
  | .i8 => 128 | .i16 => 32768 | .i32 => 2147483648 | .i64 => 9223372036854775808 | .u8 => 256 | .u16 => 65536 | .u32 => 4294967296 | .u64 => 18446744073709551616
def isSig : IntKind → Bool
  | .i8 => true | .i16 => true | .i32 => true | .i64 => true | .u8 => false | .u16 => false | .u32 => false | .u64 => false
/-- wrap, by a look. -/
def wrapF (k : IntKind) : Int → Int
  | .ofNat m => match Nat.blt m (lim k) with
    | true => .ofNat m
    | false => k.wrap (.ofNat m)
  | .negSucc m => match isSig k && Nat.blt m (lim k) with
    | true => .negSucc m
    | false => k.wrap (.negSucc m)
def ieqb : Int → Int → Bool
  | .ofNat a, .ofNat b => Nat.beq a b
  | .negSucc a, .negSucc b => Nat.beq a b
  | _, _ => false
def iltb : Int → Int → Bool
  | .ofNat a, .ofNat b => Nat.blt a b
  | .ofNat _, .negSucc _ => false
  | .negSucc _, .ofNat _ => true
  | .negSucc a, .negSucc b => Nat.blt b a
def ileb : Int → Int → Bool
  | .ofNat a, .ofNat b => Nat.ble a b
  | .ofNat _, .negSucc _ => false
  | .negSucc _, .ofNat _ => true
  | .negSucc a, .negSucc b => Nat.ble b a
def iadd : Int → Int → Int
  | .ofNat a, .ofNat b => .ofNat (Nat.add a b)
  | a, b => Int.add a b
theorem kindEq_eq {k k' : IntKind} (h : kindEq k k' = true) : k = k' := by
  cases k <;> cases k' <;> first | rfl | (simp [kindEq, kidx] at h)
theorem wrap_in (k : IntKind) (n : Int) (h0 : (if isSig k = true then -(lim k : Int) else 0) ≤ n) (h1 : n < lim k) : k.wrap n = n := by
  cases k <;> simp only [lim, isSig, if_true, Bool.false_eq_true, if_false] at h0 h1 <;> simp only [IntKind.wrap, IntKind.bits, IntKind.signed, Bool.true_and, Bool.false_and, Bool.false_eq_true, if_false, decide_eq_true_eq, Int.reducePow, Nat.reduceSub, ge_iff_le] <;> omega
theorem wrapF_eq (k : IntKind) (n : Int) : wrapF k n = k.wrap n := by
  cases n with
  | ofNat m =>
    simp only [wrapF]
    cases h : Nat.blt m (lim k)
    · rfl
    · have h : m < lim k := by simpa [Nat.blt_eq] using h
      refine (wrap_in k _ ?_ ?_).symm
      · split <;> simp <;> omega
      · simp; omega
  | negSucc m =>
    simp only [wrapF]
    cases h : (isSig k && Nat.blt m (lim k))
    · rfl
    · simp only [Bool.and_eq_true] at h
      have h2 : m < lim k := by simpa [Nat.blt_eq] using h.2
      refine (wrap_in k (Int.negSucc m) ?_ ?_).symm
      · rw [if_pos h.1]; omega
      · omega
theorem ieqb_eq (a b : Int) : ieqb a b = (a == b) := by
  cases a <;> cases b <;> simp only [ieqb] <;> rw [Bool.eq_iff_iff] <;> simp [Nat.beq_eq] <;> omega
theorem iltb_eq (a b : Int) : iltb a b = decide (a < b) := by
  cases a <;> cases b <;> rw [Bool.eq_iff_iff] <;> simp [iltb, Nat.blt_eq] <;> omega
theorem ileb_eq (a b : Int) : ileb a b = decide (a ≤ b) := by
  cases a <;> cases b <;> rw [Bool.eq_iff_iff] <;> simp [ileb, Nat.ble_eq] <;> omega
theorem iadd_eq (a b : Int) : iadd a b = a + b := by cases a <;> cases b <;> rfl
noncomputable def sameK (k k' : IntKind) (v : Option AV) : Option AV := @Bool.rec (fun _ => Option AV) none v (kindEq k k')
noncomputable def intBin (op : BinOp) : IntKind → Int → IntKind → Int → Option AV := @BinOp.rec (fun _ => IntKind → Int → IntKind → Int → Option AV)
  (fun k a k' b => sameK k k' (some (.int k (wrapF k (iadd a b)))))
  (fun k a k' b => sameK k k' (some (.int k (wrapF k (Int.sub a b)))))
  (fun k a k' b => sameK k k' (some (.int k (wrapF k (Int.mul a b)))))
  (fun k a k' b => sameK k k' (if b = 0 then none else some (.int k (wrapF k (a.tdiv b)))))
  (fun k a k' b => sameK k k' (if b = 0 then none else some (.int k (a.tmod b))))
  (fun k a k' b => sameK k k' (some (.int k (k.wrap (BitVec.ofInt k.bits a &&& BitVec.ofInt k.bits b).toNat))))
  (fun k a k' b => sameK k k' (some (.int k (k.wrap (BitVec.ofInt k.bits a ||| BitVec.ofInt k.bits b).toNat))))
  (fun k a k' b => sameK k k' (some (.int k (k.wrap (BitVec.ofInt k.bits a ^^^ BitVec.ofInt k.bits b).toNat))))
  (fun k a _ b => if b < 0 then none else some (.int k (wrapF k (a * 2 ^ (min b.toNat k.bits)))))
  (fun k a _ b => if b < 0 then none else some (.int k (a.fdiv (2 ^ (min b.toNat k.bits)))))
  (fun _ _ _ _ => none)
  (fun k a k' b => sameK k k' (some (.bool (ieqb a b))))
  (fun k a k' b => sameK k k' (some (.bool (!ieqb a b))))
  (fun k a k' b => sameK k k' (some (.bool (iltb a b))))
  (fun k a k' b => sameK k k' (some (.bool (ileb a b))))
  (fun k a k' b => sameK k k' (some (.bool (iltb b a))))
  (fun k a k' b => sameK k k' (some (.bool (ileb b a))))
  op
noncomputable def strBin (op : BinOp) (a b : List Nat) : Option AV := match op with
  | .add => if a.length + b.length ≤ 9223372036854775807 then some (.str (a ++ b)) else none
  | .eql => some (.bool (eqN a b))
  | .neq => some (.bool (!eqN a b))
  | .lss => some (.bool (ltN a b))
  | .leq => some (.bool (ltN a b || eqN a b))
  | .gtr => some (.bool (!(ltN a b || eqN a b)))
  | .geq => some (.bool (!ltN a b))
  | _ => none
/-- Are two values that hold no memory the same, by the model's own '=='? -/
noncomputable def eqDeep (P : Program) (t : TypeId) (x y : AV) : Option Bool := match conc none0 x, conc none0 y with
  | some X, some Y => match pureRun P (eqGuard .eql t (.tmp 0) (.tmp 0) X Y) with
    | some _ => pureRun P (Op.equal t X Y)
    | none => none
  | _, _ => none
noncomputable def eqA (P : Program) (t : TypeId) (x y : AV) : Option Bool := match P.underlying t, x, y with
  | some .bool, .bool a, .bool b => some (a == b)
  | some (.pointer _), .ptr none, .ptr b => some b.isNone
  | some (.pointer _), .ptr (some _), .ptr none => some false
  | some (.slice _), .slice none _ _, .slice b _ _ => some b.isNone
  | some (.slice _), .slice (some _) _ _, .slice none _ _ => some false
  | some (.map _ _), .map none, .map b => some b.isNone
  | some (.map _ _), .map (some _), .map none => some false
  | some (.struct _), .agg xs, .agg ys => eqDeep P t (.agg xs) (.agg ys)
  | some (.array _ _), .agg xs, .agg ys => eqDeep P t (.agg xs) (.agg ys)
  | _, _, _ => none
noncomputable def binOther (op : BinOp) (P : Program) (t : TypeId) (v u : AV) : Option AV := match op with
  | .eql => match eqA P t v u with
    | some b => some (.bool b)
    | none => none
  | .neq => match eqA P t v u with
    | some b => some (.bool (!b))
    | none => none
  | _ => none
noncomputable def opBin2 (P : Program) (op : BinOp) (t : TypeId) (x y : Option AV) : Option AV := match x, y with
  | some (.str a), some (.str b) => strBin op a b
  | some v, some u => binOther op P t v u
  | _, _ => none
noncomputable def opBin (P : Program) (op : BinOp) (t : TypeId) (x y : Option AV) : Option AV := @Option.rec (IntKind × Int) (fun _ => Option AV) (opBin2 P op t x y)
  (fun p => optK (fun q => intBin op p.1 p.2 q.1 q.2) (optK asInt y)) (optK asInt x)
noncomputable def opUn (op : UnOp) (x : Option AV) : Option AV := match op, x with
  | .not, some (.bool b) => some (.bool (!b))
  | .neg, some (.int k n) => some (.int k (k.wrap (0 - n)))
  | _, _ => none
noncomputable def opConv (P : Program) (src dst : TypeId) (x : Option AV) : Option AV := match P.underlying src, P.underlying dst, x with
  | some _, some (.int k), some (.int _ n) => some (.int k (k.wrap n))
  | some _, some .string, some (.str s) => some (.str s)
  | _, _, _ => none

/-- A text's bytes as a row; a row's bytes as a text. -/
noncomputable def bytesA (s : List Nat) : List AV := s.map fun b => .int .u8 (b % 256 : Nat)
noncomputable def textA : List AV → Option (List Nat)
  | [] => some []
  | .int .u8 n :: l => match textA l with
    | some r => some (n.toNat :: r)
    | none => none
  | _ :: _ => none
noncomputable def opBytes (P : Program) (e : TypeId) (x : Option AV) (st : St) : Option (AV × St) := match x, P.underlying e with
  | some (.str s), some (.int .u8) => some (.slice (some (st.nx, 0)) (lenL s) (.own 0), newB st (.cells (bytesA s) e 1 false))
  | _, _ => none
noncomputable def opText (P : Program) (e : TypeId) (x : Option AV) (st : St) : Option AV := match x, P.underlying e with
  | some (.slice none _ _), some (.int .u8) => some (.str [])
  | some (.slice (some (i, o)) n _), some (.int .u8) => match cellsAt st.hp i with
    | some l => match subL l o n with
      | some cs => match textA cs with
        | some r => some (.str r)
        | none => none
      | none => none
    | none => none
  | _, _ => none
/-- Does a conversion read or make memory? -/
noncomputable def cvM (P : Program) (a b : TypeId) : Bool := match P.underlying a, P.underlying b with
  | some (.slice _), _ => true
  | _, some (.slice _) => true
  | _, _ => false

/-! ### structs, arrays, slices -/
noncomputable def fillA (place : Nat → Option (Nat × Nat)) : List AV → List (Nat × AV) → Option (List AV)
  | cs, [] => some cs
  | cs, (i, v) :: rest => match place i with
    | some (o, n) => match Nat.beq (lenL v.parts) n, setLs cs o v.parts with
      | true, some cs' => fillA place cs' rest
      | _, _ => none
    | none => none
noncomputable def evPart (tm : Tm) (p : Nat × Operand) : Option (Nat × AV) := @Option.rec AV (fun _ => Option (Nat × AV)) none (fun v => some (p.1, v)) (ev tm p.2)
noncomputable def evParts (tm : Tm) (l : List (Nat × Operand)) : Option (List (Nat × AV)) := @List.rec (Nat × Operand) (fun _ => Option (List (Nat × AV))) (some []) (fun x _ ih => cons2 (evPart tm x) ih) l
noncomputable def placesOf (P : Program) (fs : List Field) : Option (List (Nat × Nat)) := fs.mapM fun f => (P.info? f.type).map fun i => (f.offset, i.size)
noncomputable def opBuild (P : Program) (t : TypeId) (parts : Option (List (Nat × AV))) : Option AV := match parts, zeroA P t, P.underlying t with
  | some ps, some z, some (.struct fs) => match placesOf P fs.toList with
    | some pl => match fillA (getL pl) z.parts ps with
      | some cs => some (.agg cs)
      | none => none
    | none => none
  | some ps, some z, some (.array _ e) => match tsize P e with
    | some n => match fillA (fun i => some (i * n, n)) z.parts ps with
      | some cs => some (.agg cs)
      | none => none
    | none => none
  | _, _, _ => none
noncomputable def repL {α : Type} : Nat → List α → List α
  | 0, _ => []
  | n + 1, l => l ++ repL n l
noncomputable def opBuildSlice (P : Program) (t : TypeId) (len : Nat) (parts : Option (List (Nat × AV))) (s : St) : Option (AV × St) := match parts, P.underlying t with
  | some ps, some (.slice e) => match tsize P e, zeroA P e with
    | some n, some z => if len * n ≤ 16777216 ∧ z.parts.length = n ∧ 0 < n then match fillA (fun i => some (i * n, n)) (repL len z.parts) ps with
        | some cs => some (.slice (some (s.nx, 0)) len (.ex len), newB s (.cells cs e n true))
        | none => none
      else none
    | _, _ => none
  | _, _ => none
noncomputable def opField (P : Program) (t : TypeId) (x : Option AV) (f : Nat) : Option AV := match P.underlying t, x with
  | some (.struct fs), some (.agg l) => match getL fs.toList f with
    | some d => partA P d.type l d.offset
    | none => none
  | _, _ => none
/-- A field's place within a struct: none of a field without cells. -/
def offOf (P : Program) (t : TypeId) (f : Nat) : Option Nat := match P.underlying t with
  | some (.struct fs) => match fs.toList[f]? with
    | some d => match tsize P d.type with
      | some (_ + 1) => some d.offset
      | _ => none
    | none => none
  | _ => none
noncomputable def ptrAt (p : K × Nat) (o : Nat) : Option AV := some (.ptr (some (p.1, Nat.add p.2 o)))
noncomputable def opFieldAddr (P : Program) (t : TypeId) (x : Option AV) (f : Nat) : Option AV := optK (fun p => optK (ptrAt p) (offOf P t f)) (optK asPtr x)
noncomputable def opIndex (P : Program) (t : TypeId) (x ix : Option AV) : Option AV := match P.underlying t, x, ix with
  | some .string, some (.str s), some (.int _ (.ofNat i)) => match getL s i with
    | some b => some (.int .u8 (.ofNat (Nat.mod b 256)))
    | none => none
  | some (.array len e), some (.agg l), some (.int _ (.ofNat i)) => match Nat.blt i len, tsize P e with
    | true, some n => partA P e l (Nat.mul i n)
    | _, _ => none
  | _, _, _ => none
noncomputable def opIndexAddr (P : Program) (t : TypeId) (x ix : Option AV) : Option AV := match P.underlying t, x, ix with
  | some (.slice e), some (.slice (some (j, o)) len _), some (.int _ (.ofNat i)) => match Nat.blt i len, tsize P e with
    | true, some n => some (.ptr (some (j, Nat.add o (Nat.mul i n))))
    | _, _ => none
  | some (.array len e), some (.ptr (some (j, o))), some (.int _ (.ofNat i)) => match Nat.blt i len, tsize P e with
    | true, some n => some (.ptr (some (j, Nat.add o (Nat.mul i n))))
    | _, _ => none
  | _, _, _ => none
noncomputable def evO (tm : Tm) : Option Operand → Option (Option AV)
  | none => some none
  | some x => match ev tm x with
    | some v => some (some v)
    | none => none
/-- A slice's bound, at most so great. -/
noncomputable def bound1 (most : Nat) (dflt : Nat) : Option AV → Option Nat
  | none => some dflt
  | some (.int _ i) => if 0 ≤ i ∧ i ≤ most then some i.toNat else none
  | _ => none
/-- How far a slice's bound may go, for sure. -/
def capM (c : Cp) (len : Nat) : Nat := match c with
  | .ex k => k
  | .own _ => len
noncomputable def cutCap (c : Cp) (l : Nat) : Cp := match c with
  | .ex n => .ex (n - l)
  | .own s => .own (s + l)
noncomputable def opSlice (P : Program) (t : TypeId) (x : Option AV) (lo hi mx : Option (Option AV)) : Option AV := match P.underlying t, x, lo, hi, mx with
  | some .string, some (.str s), some lo, some hi, some none => match bound1 s.length s.length hi with
    | some h => match bound1 h 0 lo with
      | some l => match subL s l (h - l) with
        | some r => some (.str r)
        | none => none
      | none => none
    | none => none
  | some (.slice e), some (.slice a len c), some lo, some hi, some none => match tsize P e with
    | some n => match bound1 (capM c len) len hi with
      | some h => match bound1 h 0 lo with
        | some l => match a with
          | none => if l = 0 then some (.slice none h c) else none
          | some (i, o) => if l = 0 then some (.slice (some (i, o)) h c)
            else if l < (capM c len) then some (.slice (some (i, o + l * n)) (h - l) (cutCap c l))
            else match c with
              | .ex k => if k = l then some (.slice (some (i, o)) (h - l) (.ex 0)) else none
              | .own _ => none
        | none => none
      | none => none
    | none => none
  | some (.slice e), some (.slice a len c), some lo, some (some hi), some (some mx) => match tsize P e with
    | some n => match bound1 (capM c len) 0 (some mx) with
      | some m => match bound1 m 0 (some hi) with
        | some h => match bound1 h 0 lo with
          | some l => match a with
            | none => if l = 0 then some (.slice none h (.ex m)) else none
            | some (i, o) => if l = 0 then some (.slice (some (i, o)) h (.ex m))
              else if m = l then some (.slice (some (i, o)) (h - l) (.ex 0))
              else some (.slice (some (i, o + l * n)) (h - l) (.ex (m - l)))
          | none => none
        | none => none
      | none => none
    | none => none
  | some (.array len e), some (.ptr (some (i, o))), some lo, some hi, some none => match tsize P e with
    | some n => match bound1 len len hi with
      | some h => match bound1 h 0 lo with
        | some l => if l = 0 then some (.slice (some (i, o)) h (.ex len)) else if len = l then some (.slice (some (i, o)) (h - l) (.ex 0)) else some (.slice (some (i, o + l * n)) (h - l) (.ex (len - l)))
        | none => none
      | none => none
    | none => none
  | _, _, _, _, _ => none
noncomputable def opMakeSlice (P : Program) (t : TypeId) (len cap : Option AV) (s : St) : Option (AV × St) := match P.underlying t, len, cap with
  | some (.slice e), some (.int _ l), some (.int _ c) => match P.info? e, zeroA P e with
    | some inf, some z => if 0 ≤ l ∧ l ≤ c ∧ c ≤ 9223372036854775807 ∧ inf.bytes * c ≤ 281474976710656 ∧ z.parts.length = inf.size ∧ 0 < inf.size then
        some (.slice (some (s.nx, 0)) l.toNat (.ex c.toNat), newB s (.cells (repL c.toNat z.parts) e inf.size true))
      else none
    | _, _ => none
  | _, _, _ => none
/-- The cells that append, copy take. -/
noncomputable def srcCells (n m : Nat) (x : AV) (h : T Bk) : Option (List AV) := match x with
  | .slice none _ _ => if m = 0 then some [] else none
  | .slice (some (i, o)) _ _ => match cellsAt h i with
    | some l => subL l o (m * n)
    | none => none
  | .str s => if n = 1 then match takeL m s with
      | some r => some (r.map fun b => .int .u8 (b % 256 : Nat))
      | none => none
    else none
  | _ => none
noncomputable def lenA : AV → Option Nat
  | .slice _ n _ => some n
  | .str s => some s.length
  | _ => none
noncomputable def notInt : Option TypeDesc → Bool
  | some (.int _) => false
  | none => false
  | _ => true
noncomputable def opAppend (P : Program) (ts : List TypeId) (s x : AV) (st : St) : Option (AV × St) := match ts, s with
  | [t, u], .slice a len c => match P.underlying t, notInt (P.underlying u), lenA x with
    | some (.slice e), true, some m => match P.info? e, zeroA P e with
      | some inf, some z => if z.parts.length = inf.size ∧ 0 < inf.size ∧ 0 < inf.bytes ∧ len + m ≤ 9223372036854775807 ∧ (len + m) * inf.bytes ≤ 140737488355328 then
          match srcCells inf.size m x st.hp with
          | some news => match allLeaf news with
            | true => if m = 0 then match a with
                | none => if len = 0 then some (s, st) else none
                | some _ => some (s, st)
              else match a, c with
              | none, .ex 0 => if len = 0 then some (.slice (some (st.nx, 0)) m (.own 0), newB st (.cells news e inf.size false)) else none
              | some (i, 0), .own 0 => match T.get st.hp i with
                | some (.cells l e' z' false) => if e' = e ∧ z' = inf.size then match takeL (len * inf.size) l with
                    | some old => some (.slice (some (st.nx, 0)) (len + m) (.own 0), ⟨T.set (T.del st.hp i) st.nx (.cells (old ++ news) e inf.size false), K.succ st.nx⟩)
                    | none => none
                  else none
                | _ => none
              | some (i, o), .ex k => if len + m ≤ k then match T.get st.hp i with
                  | some (.cells l e' z' f) => match setLs l (o + len * inf.size) news with
                    | some l' => some (.slice (some (i, o)) (len + m) (.ex k), setB st i (.cells l' e' z' f))
                    | none => none
                  | _ => none
                else if len ≤ k then match cellsAt st.hp i with
                  | some l => match subL l o (len * inf.size) with
                    | some old => some (.slice (some (st.nx, 0)) (len + m) (.own 0), newB st (.cells (old ++ news) e inf.size false))
                    | none => none
                  | none => none
                else none
              | _, _ => none
            | false => none
          | none => none
        else none
      | _, _ => none
    | _, _, _ => none
  | _, _ => none
noncomputable def opCopy (P : Program) (ts : List TypeId) (d x : AV) (st : St) : Option (AV × St) := match ts, d with
  | t :: _, .slice (some (i, o)) len _ => match P.underlying t, lenA x with
    | some (.slice e), some m => match tsize P e with
      | some n => match srcCells n (Nat.min m len) x st.hp with
        | some news => match allLeaf news, T.get st.hp i with
          | true, some (.cells l e' z' f) => match setLs l o news with
            | some l' => some (.int .i64 (Nat.min m len : Nat), setB st i (.cells l' e' z' f))
            | none => none
          | _, _ => none
        | none => none
      | none => none
    | _, _ => none
  | _, _ => none

mutual
noncomputable def sameA : AV → AV → Bool
  | .bool a, .bool b => a == b
  | .int k a, .int k' b => (if k = k' then true else false) && (if a = b then true else false)
  | .str a, .str b => sameN a b
  | .ptr none, .ptr none => true
  | .ptr (some (i, o)), .ptr (some (j, p)) => K.beq i j && Nat.beq o p
  | .slice none n (.ex c), .slice none m (.ex d) => Nat.beq n m && Nat.beq c d
  | .slice (some (i, o)) n (.ex c), .slice (some (j, p)) m (.ex d) => K.beq i j && Nat.beq o p && Nat.beq n m && Nat.beq c d
  | .slice (some (i, o)) n (.own c), .slice (some (j, p)) m (.own d) => K.beq i j && Nat.beq o p && Nat.beq n m && Nat.beq c d
  | .map none, .map none => true
  | .map (some i), .map (some j) => K.beq i j
  | .nilFunc, .nilFunc => true
  | .nilIface, .nilIface => true
  | .func f a b, .func g c d => Nat.beq f g && sameL a c && sameL b d
  | .iface t v, .iface u w => Nat.beq t u && sameA v w
  | .agg a, .agg b => sameL a b
  | .tup a, .tup b => sameL a b
  | _, _ => false
noncomputable def sameL : List AV → List AV → Bool
  | [], [] => true
  | a :: l, b :: m => sameA a b && sameL l m
  | _, _ => false
noncomputable def sameN : List Nat → List Nat → Bool
  | [], [] => true
  | a :: l, b :: m => Nat.beq a b && sameN l m
  | _, _ => false
end
/-- A key that is one number, text or Bool, or a struct of such. -/
def plainLeaf : AV → Bool
  | .bool _ | .int _ _ | .str _ => true
  | _ => false
def plainAll : List AV → Bool
  | [] => true
  | v :: vs => plainLeaf v && plainAll vs
def plainKey : AV → Bool
  | .agg l => plainAll l
  | v => plainLeaf v

/-! ### maps -/
noncomputable def keyEq (P : Program) (kt : TypeId) (x y : AV) : Option Bool := match P.underlying kt, x, y with
  | some (.int _), .int k a, .int k' b => if k = k' then some (a == b) else none
  | some .string, .str a, .str b => some (eqN a b)
  | some (.struct _), .agg xs, .agg ys => match conc none0 (.agg xs), conc none0 (.agg ys) with
    | some X, some Y => pureRun P (Op.equal kt X Y)
    | _, _ => none
  | _, _, _ => none
noncomputable def findA (P : Program) (kt : TypeId) (k : AV) : List (AV × AV × Nat) → Nat → Option (Option (Nat × AV))
  | [], _ => some none
  | (k', v, _) :: es, i => match keyEq P kt k k' with
    | some true => some (some (i, v))
    | some false => findA P kt k es (i + 1)
    | none => none
noncomputable def keyOk (P : Program) (kt : TypeId) (empty : Bool) (k : AV) : Bool := match conc none0 k with
  | some K => match pureRun P (Instr.checkKey empty 10000 kt K) with
    | some _ => match P.underlying kt with
      | some (.int _) | some .string => true
      | some (.struct _) => true
      | _ => false
    | none => false
  | none => false
noncomputable def opLookup (P : Program) (t : TypeId) (m k : Option AV) (ok : Bool) (st : St) : Option AV := match P.underlying t, m, k with
  | some (.map kt et), some (.map (some i)), some k => match T.get st.hp i with
    | some (.mp es _) => match keyOk P kt es.isEmpty k, findA P kt k es 0, zeroA P et with
      | true, some (some (_, v)), _ => some (if ok then .tup [v, .bool true] else v)
      | true, some none, some z => some (if ok then .tup [z, .bool false] else z)
      | _, _, _ => none
    | _ => none
  | some (.map kt et), some (.map none), some k => match keyOk P kt true k, zeroA P et with
    | true, some z => some (if ok then .tup [z, .bool false] else z)
    | _, _ => none
  | _, _, _ => none
noncomputable def setN {α : Type} : List α → Nat → (α → α) → List α
  | [], _, _ => []
  | x :: xs, 0, f => f x :: xs
  | x :: xs, n + 1, f => x :: setN xs n f
noncomputable def delN {α : Type} : List α → Nat → List α
  | [], _ => []
  | _ :: xs, 0 => xs
  | x :: xs, n + 1 => x :: delN xs n
noncomputable def opMapUpdate (P : Program) (t : TypeId) (m k x : Option AV) (st : St) : Option St := match P.underlying t, m, k, x with
  | some (.map kt _), some (.map (some i)), some k, some v => match T.get st.hp i with
    | some (.mp es c) => match keyOk P kt false k, findA P kt k es 0 with
      | true, some (some (j, _)) => match getL es j with
        | some e => match sameA k e.1 && plainKey k with
          | true => some (setB st i (.mp (setN es j fun e => (k, v, e.2.2)) c))
          | false => none
        | none => none
      | true, some none => some (setB st i (.mp (es ++ [(k, v, c)]) (c + 1)))
      | _, _ => none
    | _ => none
  | _, _, _, _ => none
noncomputable def opDelete (P : Program) (ts : List TypeId) (m k : AV) (st : St) : Option St := match ts, m with
  | t :: _, .map (some i) => match P.underlying t, T.get st.hp i with
    | some (.map kt _), some (.mp es c) => match keyOk P kt es.isEmpty k, findA P kt k es 0 with
      | true, some (some (j, _)) => some (setB st i (.mp (delN es j) c))
      | true, some none => some st
      | _, _ => none
    | _, _ => none
  | _, _ => none
noncomputable def opClear (P : Program) (ts : List TypeId) (m : AV) (st : St) : Option St := match ts, m with
  | t :: _, .map (some i) => match P.underlying t, T.get st.hp i with
    | some (.map _ _), some (.mp _ c) => some (setB st i (.mp [] c))
    | _, _ => none
  | _, _ => none
noncomputable def opLen (P : Program) (ts : List TypeId) (x : AV) (st : St) : Option AV := match ts with
  | t :: _ => match P.underlying t, x with
    | some .string, .str s => some (.int .i64 (s.length : Nat))
    | some (.slice _), .slice _ n _ => some (.int .i64 (n : Nat))
    | some (.array n _), _ => some (.int .i64 (n : Nat))
    | some (.map _ _), .map none => some (.int .i64 0)
    | some (.map _ _), .map (some i) => match T.get st.hp i with
      | some (.mp es _) => some (.int .i64 (es.length : Nat))
      | _ => none
    | some (.pointer a), _ => match P.underlying a with
      | some (.array n _) => some (.int .i64 (n : Nat))
      | _ => none
    | _, _ => none
  | [] => none
noncomputable def opCap (P : Program) (ts : List TypeId) (x : AV) : Option AV := match ts with
  | t :: _ => match P.underlying t, x with
    | some (.slice _), .slice _ _ (.ex n) => some (.int .i64 (n : Nat))
    | _, _ => none
  | [] => none
noncomputable def foldMM (least : Bool) : AV → List AV → Option AV
  | .int k a, [] => some (.int k a)
  | .int k a, .int _ b :: r => foldMM least (.int k (if least then (if b < a then b else a) else (if b > a then b else a))) r
  | _, _ => none
noncomputable def opMM (least : Bool) (xs : List AV) : Option AV := match xs with
  | x :: r => foldMM least x r
  | [] => none
end Go.Proofs.Ythkkphkeonnnfaa.Abs
