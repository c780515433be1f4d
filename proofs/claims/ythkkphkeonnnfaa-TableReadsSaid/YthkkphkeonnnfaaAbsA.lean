/- An abstract machine over the model's code: values whose memory has names in place of block numbers, and a deterministic run of it that the kernel can carry out. No condition: these are definitions, and plain facts on them. -/
import Derived.Orders
import Derived.Scope
import Derived.Laws.AppendOwn
import Derived.Laws.Tables
import Derived.Laws.IdiomCopy
namespace Go.Proofs.Ythkkphkeonnnfaa.Abs
open Go

/-! ### names, and a tree keyed by them. (Written with the recursors, here and below: so the kernel runs it quickest.) -/
/-- A name: 0; twice so much and 1; twice so much and 2. -/
inductive K where
  | z
  | o (k : K)
  | i (k : K)
namespace K
def val : K → Nat
  | .z => 0
  | .o k => 2 * val k + 1
  | .i k => 2 * val k + 2
noncomputable def succ (k : K) : K := @K.rec (fun _ => K) (.o .z) (fun k _ => .i k) (fun _ ih => .o ih) k
noncomputable def ofF (d : Nat) : Nat → K := @Nat.rec (fun _ => Nat → K) (fun _ => .z) (fun _ ih n => @Nat.rec (fun _ => K) .z (fun _ _ => @Nat.rec (fun _ => K) (.i (ih (Nat.sub (Nat.div n 2) 1))) (fun _ _ => .o (ih (Nat.div n 2))) (Nat.mod n 2)) n) d
noncomputable def of (n : Nat) : K := ofF n n
noncomputable def beq (k : K) : K → Bool := @K.rec (fun _ => K → Bool) (fun j => @K.rec (fun _ => Bool) true (fun _ _ => false) (fun _ _ => false) j)
  (fun _ ih j => @K.rec (fun _ => Bool) false (fun j _ => ih j) (fun _ _ => false) j) (fun _ ih j => @K.rec (fun _ => Bool) false (fun _ _ => false) (fun j _ => ih j) j) k
theorem val_succ : ∀ k : K, (succ k).val = k.val + 1
  | .z => rfl
  | .o k => rfl
  | .i k => by
    show 2 * (succ k).val + 1 = _
    rw [val_succ k]; simp only [val]; omega
theorem val_inj : ∀ {k j : K}, k.val = j.val → k = j
  | .z, .z, _ => rfl
  | .z, .o j, e => by simp only [val] at e; omega
  | .z, .i j, e => by simp only [val] at e; omega
  | .o k, .z, e => by simp only [val] at e; omega
  | .o k, .o j, e => by simp only [val] at e; rw [val_inj (k := k) (j := j) (by omega)]
  | .o k, .i j, e => by simp only [val] at e; omega
  | .i k, .z, e => by simp only [val] at e; omega
  | .i k, .o j, e => by simp only [val] at e; omega
  | .i k, .i j, e => by simp only [val] at e; rw [val_inj (k := k) (j := j) (by omega)]
theorem ofF_succ (d n : Nat) : ofF (d + 1) n = if n = 0 then .z else if n % 2 = 1 then .o (ofF d (n / 2)) else .i (ofF d (n / 2 - 1)) := by
  show @Nat.rec (fun _ => K) .z (fun _ _ => @Nat.rec (fun _ => K) (.i (ofF d (n / 2 - 1))) (fun _ _ => .o (ofF d (n / 2))) (n % 2)) n = _
  cases n with
  | zero => rfl
  | succ k =>
    rw [if_neg (Nat.succ_ne_zero k)]
    rcases Nat.mod_two_eq_zero_or_one (k + 1) with h | h <;> simp only [h] <;> rfl
theorem val_ofF : ∀ (d n : Nat), n ≤ d → (ofF d n).val = n
  | 0, n, h => by
    have : n = 0 := by omega
    subst this; rfl
  | d + 1, n, h => by
    rw [ofF_succ]
    split
    · rename_i e; rw [e]; rfl
    · split
      · simp only [val]; rw [val_ofF d (n / 2) (by omega)]; omega
      · simp only [val]; rw [val_ofF d (n / 2 - 1) (by omega)]; omega
theorem val_of (n : Nat) : (of n).val = n := val_ofF n n (Nat.le_refl n)
theorem of_inj {n m : Nat} (h : of n = of m) : n = m := by have := congrArg val h; rwa [val_of, val_of] at this
theorem beq_eq : ∀ {k j : K}, beq k j = true → k = j
  | .z, .z, _ => rfl
  | .z, .o j, e => by cases e
  | .z, .i j, e => by cases e
  | .o k, .z, e => by cases e
  | .o k, .o j, e => by rw [beq_eq (show beq k j = true from e)]
  | .o k, .i j, e => by cases e
  | .i k, .z, e => by cases e
  | .i k, .o j, e => by cases e
  | .i k, .i j, e => by rw [beq_eq (show beq k j = true from e)]
instance : DecidableEq K := fun a b => if h : a.val = b.val then isTrue (val_inj h) else isFalse fun e => h (e ▸ rfl)
end K
inductive T (α : Type) where
  | e : T α
  | n (l : T α) (v : Option α) (r : T α) : T α
namespace T
variable {α : Type}
noncomputable def lf (t : T α) : T α := @T.rec α (fun _ => T α) .e (fun l _ _ _ _ => l) t
noncomputable def rt (t : T α) : T α := @T.rec α (fun _ => T α) .e (fun _ _ r _ _ => r) t
noncomputable def top (t : T α) : Option α := @T.rec α (fun _ => Option α) none (fun _ v _ _ _ => v) t
noncomputable def get (t : T α) (k : K) : Option α := @K.rec (fun _ => T α → Option α) top (fun _ ih t => ih (lf t)) (fun _ ih t => ih (rt t)) k t
noncomputable def put (t : T α) (k : K) (v : Option α) : T α := @K.rec (fun _ => T α → T α) (fun t => @T.rec α (fun _ => T α) (.n .e v .e) (fun l _ r _ _ => .n l v r) t)
  (fun _ ih t => @T.rec α (fun _ => T α) (.n (ih .e) none .e) (fun l o r _ _ => .n (ih l) o r) t) (fun _ ih t => @T.rec α (fun _ => T α) (.n .e none (ih .e)) (fun l o r _ _ => .n l o (ih r)) t) k t
theorem put_eq (k : K) (t : T α) (v : Option α) : put t k v = match k with
    | .z => .n (lf t) v (rt t)
    | .o k => .n (put (lf t) k v) (top t) (rt t)
    | .i k => .n (lf t) (top t) (put (rt t) k v) := by cases k <;> cases t <;> rfl
noncomputable def set (t : T α) (k : K) (v : α) : T α := put t k (some v)
noncomputable def del (t : T α) (k : K) : T α := put t k none
theorem get_put : ∀ (k : K) (t : T α) (v : Option α) (j : K), get (put t k v) j = if j = k then v else get t j
  | .z, t, v, .z => by rw [if_pos rfl, put_eq]; rfl
  | .z, t, v, .o j => by rw [if_neg (by intro h; cases h), put_eq]; rfl
  | .z, t, v, .i j => by rw [if_neg (by intro h; cases h), put_eq]; rfl
  | .o k, t, v, .z => by rw [if_neg (by intro h; cases h), put_eq]; rfl
  | .o k, t, v, .o j => by
    rw [put_eq]
    show get (put (lf t) k v) j = if K.o j = K.o k then v else get (lf t) j
    rw [get_put k (lf t) v j]
    by_cases e : j = k
    · rw [if_pos e, if_pos (by rw [e])]
    · rw [if_neg e, if_neg (by intro h; injection h with h; exact e h)]
  | .o k, t, v, .i j => by rw [if_neg (by intro h; cases h), put_eq]; rfl
  | .i k, t, v, .z => by rw [if_neg (by intro h; cases h), put_eq]; rfl
  | .i k, t, v, .o j => by rw [if_neg (by intro h; cases h), put_eq]; rfl
  | .i k, t, v, .i j => by
    rw [put_eq]
    show get (put (rt t) k v) j = if K.i j = K.i k then v else get (rt t) j
    rw [get_put k (rt t) v j]
    by_cases e : j = k
    · rw [if_pos e, if_pos (by rw [e])]
    · rw [if_neg e, if_neg (by intro h; injection h with h; exact e h)]
theorem get_set (t : T α) (k : K) (v : α) (j : K) : get (set t k v) j = if j = k then some v else get t j := get_put k t (some v) j
theorem get_del (t : T α) (k : K) (j : K) : get (del t k) j = if j = k then none else get t j := get_put k t none j
theorem get_e : ∀ (k : K), get (.e : T α) k = none
  | .z => rfl
  | .o k => get_e k
  | .i k => get_e k
end T

/-! ### values -/
/-- A slice's capacity: a number, or what its own block has (less so many). -/
inductive Cp where
  | ex (n : Nat)
  | own (sub : Nat)
inductive AV where
  | bool (b : Bool)
  | int (k : IntKind) (n : Int)
  | str (s : List Nat)
  | ptr (a : Option (K × Nat))
  | slice (a : Option (K × Nat)) (len : Nat) (cap : Cp)
  | map (r : Option K)
  | func (f : Nat) (first caps : List AV)
  | nilFunc
  | iface (t : Nat) (v : AV)
  | nilIface
  | agg (l : List AV)
  | tup (l : List AV)
/-- A block: cells of its own (esz: an element's; full: no more cells than these), cells that are only read, a map. -/
inductive Bk where
  | cells (l : List AV) (elem esz : Nat) (full : Bool)
  | view (l : List AV)
  | mp (es : List (AV × AV × Nat)) (clock : Nat)
structure St where
  hp : T Bk
  nx : K
abbrev Tm := T AV
def AV.parts : AV → List AV
  | .agg l => l
  | v => [v]
def AV.leaf : AV → Bool
  | .agg _ | .tup _ => false
  | _ => true
/-- Where a name lies. -/
structure Loc where
  blk : Nat
  base : Nat
  cap : Nat
def bytesV (s : List Nat) : ByteArray := ⟨(s.map UInt8.ofNat).toArray⟩
def ptrV (l : Loc) (o : Nat) : Addr := ⟨l.blk, l.base + o, none⟩
def capV (l : Loc) : Cp → Nat
  | .ex n => n
  | .own s => l.cap - s
mutual
def conc (μ : K → Option Loc) : AV → Option Value
  | .bool b => some (.bool b)
  | .int k n => some (.int k n)
  | .str s => some (.string (bytesV s))
  | .ptr none => some (.pointer none)
  | .ptr (some (i, o)) => (μ i).map fun l => .pointer (some (ptrV l o))
  | .slice none n (.ex c) => some (.slice none n c)
  | .slice none _ (.own _) => none
  | .slice (some (i, o)) n c => (μ i).bind fun l => if n ≤ capV l c then some (.slice (some (ptrV l o)) n (capV l c)) else none
  | .map none => some (.map none)
  | .map (some i) => (μ i).map fun l => .map (some l.blk)
  | .func f first caps => (concL μ first).bind fun a => (concL μ caps).map fun b => .func (.func f) a.toArray b.toArray
  | .nilFunc => some .nilFunc
  | .iface t v => (conc μ v).map fun x => .iface t x
  | .nilIface => some .nilIface
  | .agg l => (concL μ l).map fun x => .agg x.toArray
  | .tup l => (concL μ l).map fun x => .tuple x.toArray
def concL (μ : K → Option Loc) : List AV → Option (List Value)
  | [] => some []
  | v :: vs => (conc μ v).bind fun x => (concL μ vs).map fun xs => x :: xs
end
/-- A constant of the program, as a value here. -/
def ofLeaf : Value → Option AV
  | .bool b => some (.bool b)
  | .int k n => some (.int k n)
  | .string s => some (.str (s.data.toList.map UInt8.toNat))
  | .pointer none => some (.ptr none)
  | .slice none n c => some (.slice none n (.ex c))
  | .map none => some (.map none)
  | .nilFunc => some .nilFunc
  | .nilIface => some .nilIface
  | _ => none
def ofLeafs : List Value → Option (List AV)
  | [] => some []
  | v :: vs => match ofLeaf v, ofLeafs vs with
    | some x, some xs => some (x :: xs)
    | _, _ => none
def ofV : Value → Option AV
  | .agg cs => match ofLeafs cs.toList with
    | some l => some (.agg l)
    | none => none
  | .tuple cs => match ofLeafs cs.toList with
    | some l => some (.tup l)
    | none => none
  | v => ofLeaf v
theorem bytesV_of (s : ByteArray) : bytesV (s.data.toList.map UInt8.toNat) = s := by
  unfold bytesV
  rw [List.map_map]
  have : UInt8.ofNat ∘ UInt8.toNat = id := by funext x; simp
  rw [this, List.map_id]
theorem conc_ofLeaf (μ : K → Option Loc) (c : Value) (v : AV) (h : ofLeaf c = some v) : conc μ v = some c := by
  unfold ofLeaf at h
  split at h <;> cases h <;> first | rfl | (unfold conc; rw [bytesV_of])
theorem concL_ofLeafs (μ : K → Option Loc) : ∀ (cs : List Value) (l : List AV), ofLeafs cs = some l → concL μ l = some cs
  | [], l, h => by simp only [ofLeafs, Option.some.injEq] at h; subst h; simp [concL]
  | c :: cs, l, h => by
    simp only [ofLeafs] at h
    split at h
    · rename_i x xs h1 h2
      injection h with h; subst h
      simp [concL, conc_ofLeaf μ c x h1, concL_ofLeafs μ cs xs h2]
    · cases h
theorem conc_ofV (μ : K → Option Loc) (c : Value) (v : AV) (h : ofV c = some v) : conc μ v = some c := by
  unfold ofV at h
  split at h
  · split at h
    · rename_i cs l hl
      injection h with h; subst h
      simp [conc, concL_ofLeafs μ _ _ hl]
    · cases h
  · split at h
    · rename_i cs l hl
      injection h with h; subst h
      simp [conc, concL_ofLeafs μ _ _ hl]
    · cases h
  · exact conc_ofLeaf μ c v h
def MLe (μ μ' : K → Option Loc) : Prop := ∀ i l, μ i = some l → μ' i = some l
mutual
theorem conc_mono {μ μ' : K → Option Loc} (h : MLe μ μ') : ∀ (v : AV) (c : Value), conc μ v = some c → conc μ' v = some c
  | .bool _, _, e => e
  | .int _ _, _, e => e
  | .str _, _, e => e
  | .ptr none, _, e => e
  | .ptr (some (i, o)), c, e => by
    simp only [conc, Option.map_eq_some_iff] at e ⊢
    obtain ⟨l, h1, h2⟩ := e
    exact ⟨l, h i l h1, h2⟩
  | .slice none _ (.ex _), _, e => e
  | .slice none _ (.own _), _, e => e
  | .slice (some (i, o)) n k, c, e => by
    simp only [conc, Option.bind_eq_some_iff] at e ⊢
    obtain ⟨l, h1, h2⟩ := e
    exact ⟨l, h i l h1, h2⟩
  | .map none, _, e => e
  | .map (some i), c, e => by
    simp only [conc, Option.map_eq_some_iff] at e ⊢
    obtain ⟨l, h1, h2⟩ := e
    exact ⟨l, h i l h1, h2⟩
  | .func f first caps, c, e => by
    simp only [conc, Option.bind_eq_some_iff, Option.map_eq_some_iff] at e ⊢
    obtain ⟨a, h1, b, h2, h3⟩ := e
    exact ⟨a, concL_mono h first a h1, b, concL_mono h caps b h2, h3⟩
  | .nilFunc, _, e => e
  | .iface t v, c, e => by
    simp only [conc, Option.map_eq_some_iff] at e ⊢
    obtain ⟨x, h1, h2⟩ := e
    exact ⟨x, conc_mono h v x h1, h2⟩
  | .nilIface, _, e => e
  | .agg l, c, e => by
    simp only [conc, Option.map_eq_some_iff] at e ⊢
    obtain ⟨x, h1, h2⟩ := e
    exact ⟨x, concL_mono h l x h1, h2⟩
  | .tup l, c, e => by
    simp only [conc, Option.map_eq_some_iff] at e ⊢
    obtain ⟨x, h1, h2⟩ := e
    exact ⟨x, concL_mono h l x h1, h2⟩
theorem concL_mono {μ μ' : K → Option Loc} (h : MLe μ μ') : ∀ (l : List AV) (cs : List Value), concL μ l = some cs → concL μ' l = some cs
  | [], _, e => e
  | v :: vs, cs, e => by
    simp only [concL, Option.bind_eq_some_iff, Option.map_eq_some_iff] at e ⊢
    obtain ⟨x, h1, xs, h2, h3⟩ := e
    exact ⟨x, conc_mono h v x h1, xs, concL_mono h vs xs h2, h3⟩
end
theorem concL_length {μ : K → Option Loc} : ∀ (l : List AV) (cs : List Value), concL μ l = some cs → cs.length = l.length
  | [], cs, e => by simp only [concL, Option.some.injEq] at e; subst e; rfl
  | v :: vs, cs, e => by
    simp only [concL, Option.bind_eq_some_iff, Option.map_eq_some_iff] at e
    obtain ⟨x, h1, xs, h2, rfl⟩ := e
    simp [concL_length vs xs h2]
theorem concL_append {μ : K → Option Loc} : ∀ (l l' : List AV) (cs cs' : List Value), concL μ l = some cs → concL μ l' = some cs' → concL μ (l ++ l') = some (cs ++ cs')
  | [], l', cs, cs', e, e' => by simp only [concL, Option.some.injEq] at e; subst e; exact e'
  | v :: vs, l', cs, cs', e, e' => by
    simp only [concL, Option.bind_eq_some_iff, Option.map_eq_some_iff] at e
    obtain ⟨x, h1, xs, h2, rfl⟩ := e
    simp [concL, h1, concL_append vs l' xs cs' h2 e']

/-! ### lists of cells -/
noncomputable def getL {α : Type} (l : List α) : Nat → Option α := @List.rec α (fun _ => Nat → Option α) (fun _ => none) (fun x _ ih n => @Nat.casesOn (fun _ => Option α) n (some x) ih) l
noncomputable def consO {α : Type} (x : α) (o : Option (List α)) : Option (List α) := @Option.rec (List α) (fun _ => Option (List α)) none (fun l => some (x :: l)) o
/-- So many, from the front. -/
noncomputable def takeL {α : Type} (n : Nat) : List α → Option (List α) := @Nat.rec (fun _ => List α → Option (List α)) (fun _ => some []) (fun _ ih l => @List.casesOn α (fun _ => Option (List α)) l none (fun x xs => consO x (ih xs))) n
noncomputable def dropL {α : Type} (n : Nat) : List α → Option (List α) := @Nat.rec (fun _ => List α → Option (List α)) (fun l => some l) (fun _ ih l => @List.casesOn α (fun _ => Option (List α)) l none (fun _ xs => ih xs)) n
noncomputable def subL {α : Type} (l : List α) (o n : Nat) : Option (List α) := @Option.rec (List α) (fun _ => Option (List α)) none (fun r => takeL n r) (dropL o l)
/-- The list with these in place of what lies at o. -/
noncomputable def setLs {α : Type} (l : List α) : Nat → List α → Option (List α) := @List.rec α (fun _ => Nat → List α → Option (List α))
  (fun o vs => @Nat.casesOn (fun _ => Option (List α)) o (@List.casesOn α (fun _ => Option (List α)) vs (some []) (fun _ _ => none)) (fun _ => none))
  (fun x l ih o vs => @Nat.casesOn (fun _ => Option (List α)) o (@List.casesOn α (fun _ => Option (List α)) vs (some (x :: l)) (fun v vs => consO v (ih 0 vs))) (fun o => consO x (ih o vs))) l
theorem consO_some {α : Type} {x : α} {o : Option (List α)} {r : List α} (h : consO x o = some r) : ∃ l, o = some l ∧ r = x :: l := by
  cases o with
  | none => cases h
  | some l => injection h with h; exact ⟨l, rfl, h.symm⟩
theorem getL_eq {α : Type} : ∀ (l : List α) (n : Nat), getL l n = l[n]?
  | [], _ => by simp [getL]
  | x :: _, 0 => rfl
  | x :: xs, n + 1 => by
    show getL xs n = _
    rw [getL_eq xs n]; simp
theorem takeL_eq {α : Type} : ∀ (n : Nat) (l r : List α), takeL n l = some r → r = l.take n ∧ n ≤ l.length
  | 0, l, r, h => by
    have h : some [] = some r := h
    injection h with h; subst h; simp
  | n + 1, [], r, h => by cases h
  | n + 1, x :: xs, r, h => by
    obtain ⟨l, hl, rfl⟩ := consO_some (show consO x (takeL n xs) = some r from h)
    obtain ⟨h1, h2⟩ := takeL_eq n xs l hl
    exact ⟨by simp [h1], by simpa using h2⟩
theorem dropL_eq {α : Type} : ∀ (n : Nat) (l r : List α), dropL n l = some r → r = l.drop n ∧ n ≤ l.length
  | 0, l, r, h => by
    have h : some l = some r := h
    injection h with h; subst h; simp
  | n + 1, [], r, h => by cases h
  | n + 1, x :: xs, r, h => by
    obtain ⟨h1, h2⟩ := dropL_eq n xs r h
    exact ⟨by simpa using h1, by simpa using h2⟩
theorem subL_eq {α : Type} {l : List α} {o n : Nat} {r : List α} (h : subL l o n = some r) : r = (l.drop o).take n ∧ o + n ≤ l.length ∧ r.length = n := by
  unfold subL at h
  cases hd : dropL o l with
  | none => rw [hd] at h; cases h
  | some d =>
    rw [hd] at h
    obtain ⟨h1, h2⟩ := dropL_eq _ _ _ hd
    obtain ⟨h3, h4⟩ := takeL_eq _ _ _ h
    subst h1
    rw [List.length_drop] at h4
    refine ⟨h3, by omega, ?_⟩
    rw [h3, List.length_take, List.length_drop]
    omega
theorem setLs_eq {α : Type} : ∀ (l : List α) (o : Nat) (vs r : List α), setLs l o vs = some r → r = l.take o ++ vs ++ l.drop (o + vs.length) ∧ o + vs.length ≤ l.length := by
  intro l
  induction l with
  | nil =>
    intro o vs r h
    cases o with
    | zero => cases vs with
      | nil =>
        have h : some [] = some r := h
        injection h with h; subst h; simp
      | cons v vs => cases h
    | succ o => cases h
  | cons x l ih =>
    intro o vs r h
    cases o with
    | zero => cases vs with
      | nil =>
        have h : some (x :: l) = some r := h
        injection h with h; subst h; simp
      | cons v vs =>
        obtain ⟨q, hq, rfl⟩ := consO_some (show consO v (setLs l 0 vs) = some r from h)
        obtain ⟨h1, h2⟩ := ih 0 vs q hq
        simp only [List.take_zero, List.nil_append, Nat.zero_add] at h1 h2
        subst h1
        exact ⟨by simp, by simpa using h2⟩
    | succ o =>
      obtain ⟨q, hq, rfl⟩ := consO_some (show consO x (setLs l o vs) = some r from h)
      obtain ⟨h1, h2⟩ := ih o vs q hq
      subst h1
      refine ⟨?_, by simp only [List.length_cons]; omega⟩
      rw [show o + 1 + vs.length = (o + vs.length) + 1 by omega]
      simp
theorem concL_get {μ : K → Option Loc} : ∀ (l : List AV) (cs : List Value) (j : Nat) (v : AV), concL μ l = some cs → l[j]? = some v → ∃ c, cs[j]? = some c ∧ conc μ v = some c
  | [], _, _, _, _, e => by simp at e
  | x :: xs, cs, j, v, h, e => by
    simp only [concL, Option.bind_eq_some_iff, Option.map_eq_some_iff] at h
    obtain ⟨c, h1, ds, h2, rfl⟩ := h
    cases j with
    | zero => simp only [List.getElem?_cons_zero, Option.some.injEq] at e; subst e; exact ⟨c, by simp, h1⟩
    | succ j => simp only [List.getElem?_cons_succ] at e ⊢; exact concL_get xs ds j v h2 e
theorem concL_take {μ : K → Option Loc} : ∀ (l : List AV) (cs : List Value) (n : Nat), concL μ l = some cs → concL μ (l.take n) = some (cs.take n)
  | [], cs, n, h => by simp only [concL, Option.some.injEq] at h; subst h; simp [concL]
  | x :: xs, cs, n, h => by
    simp only [concL, Option.bind_eq_some_iff, Option.map_eq_some_iff] at h
    obtain ⟨c, h1, ds, h2, rfl⟩ := h
    cases n with
    | zero => simp [concL]
    | succ n => simp [concL, h1, concL_take xs ds n h2]
theorem concL_drop {μ : K → Option Loc} : ∀ (l : List AV) (cs : List Value) (n : Nat), concL μ l = some cs → concL μ (l.drop n) = some (cs.drop n)
  | [], cs, n, h => by simp only [concL, Option.some.injEq] at h; subst h; simp [concL]
  | x :: xs, cs, n, h => by
    cases n with
    | zero => exact h
    | succ n =>
      simp only [concL, Option.bind_eq_some_iff, Option.map_eq_some_iff] at h
      obtain ⟨c, h1, ds, h2, rfl⟩ := h
      simpa using concL_drop xs ds n h2
end Go.Proofs.Ythkkphkeonnnfaa.Abs
