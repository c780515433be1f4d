/- An abstract machine over the model's code: a region that draws its order, what holds between its operations. No condition but those that each theorem names. -/
import Derived.Test.YthkkphkeonnnfaaAbsR
namespace Go.Proofs.Ythkkphkeonnnfaa.Abs
open Go
variable {P : Program} {B : Nat} {μ μ' μ0 : K → Option Loc} {H H' : Hp} {w w0 w' : World} {s0 : St} {N9 : K}

def Flt (P : Program) (ops : Array Oper) (st : Nat → Tm × St) (f : Nat) : Prop := ∃ o, ops[f]? = some o ∧ cls P o.op = .f ∧ wantA ops.toList (st f).1 o = some true
/-- A region, run in the text's order: so many of its operations go through. -/
structure Line (P : Program) (call : Nat → List AV → St → CR) (ops : Array Oper) (n : Nat) (rows : List (List Bool)) (q : Nat) (st : Nat → Tm × St) : Prop where
  hC : CallS P call
  le : q ≤ ops.size
  rows_ : rowsOf [] 0 ops.toList = some rows
  go : ∀ i o, ops[i]? = some o → i < q → stepO P call ops.toList n o (st i).1 (st i).2 = .go (st (i + 1)).1 (st (i + 1)).2
  pairs : ∀ i j oi oj, i < j → ops[i]? = some oi → ops[j]? = some oj → waits rows j i = true ∨ apartA P ops.toList oi oj = true
  held : ∀ r o, ops[r]? = some o → r < q → cls P o.op = .r → wantA ops.toList (st r).1 o = some true → ∃ t p v, readAt o.op (st r).1 = some (t, p) ∧ loadAt P t (st r).2.hp p = some v ∧
    ∀ m om, ops[m]? = some om → m < q → isM P om.op = true → waits rows m r = false → waits rows r m = false → keptAt P (st m).2.hp t p v = true ∧ keptAt P (st (m + 1)).2.hp t p v = true ∧ hasAt (st m).2.hp p.1 = hasAt (st (m + 1)).2.hp p.1
  flt : ∀ f o, ops[f]? = some o → f < q → cls P o.op = .f → ∀ j, j ≤ f → T.get (st j).2.hp (st f).2.nx = none
section
variable {call : Nat → List AV → St → CR} {ops : Array Oper} {n : Nat} {rows : List (List Bool)} {q : Nat} {st : Nat → Tm × St}
theorem Line.at_ (L : Line P call ops n rows q st) {i : Nat} (h : i < q) : ∃ o, ops[i]? = some o := ⟨ops[i]'(Nat.lt_of_lt_of_le h L.le), Array.getElem?_eq_getElem _⟩
theorem isM_false {o : Op} (h : isM P o = false) : cls P o ≠ .m := fun e => by unfold isM at h; rw [e] at h; cases h
theorem isM_true {o : Op} (h : isM P o = true) : cls P o = .m := by
  unfold isM at h
  split at h
  · assumption
  · cases h
theorem isM_of {o : Op} (h : cls P o = .m) : isM P o = true := by unfold isM; rw [h]
/-- What one operation does to the memory. -/
theorem Line.kind (L : Line P call ops n rows q st) {i : Nat} {o : Oper} (ho : ops[i]? = some o) (h : i < q) (hM : isM P o.op = false) :
    (Flt P ops st i ∧ ∃ b, (st (i + 1)).2 = newB (st i).2 b) ∨ (¬ Flt P ops st i ∧ (st (i + 1)).2 = (st i).2) := by
  rcases stepO_go (L.go i o ho h) with ⟨hw, -, hs⟩ | ⟨hw, v, hv, -⟩
  · refine .inr ⟨?_, hs⟩
    rintro ⟨o', ho', -, hw'⟩
    rw [ho] at ho'; injection ho' with ho'; subst ho'
    rw [hw] at hw'; cases hw'
  · cases hc : cls P o.op with
    | m => exact absurd hc (isM_false hM)
    | f =>
      obtain ⟨b, hb, -⟩ := flt_inv hc hv
      exact .inl ⟨⟨o, ho, hc, hw⟩, b, hb⟩
    | p =>
      refine .inr ⟨?_, still (.inl hc) hv⟩
      rintro ⟨o', ho', hc', -⟩
      rw [ho] at ho'; injection ho' with ho'; subst ho'
      rw [hc] at hc'; cases hc'
    | r =>
      refine .inr ⟨?_, still (.inr hc) hv⟩
      rintro ⟨o', ho', hc', -⟩
      rw [ho] at ho'; injection ho' with ho'; subst ho'
      rw [hc] at hc'; cases hc'
theorem Flt.notM {f : Nat} (h : Flt P ops st f) {o : Oper} (ho : ops[f]? = some o) : isM P o.op = false := by
  obtain ⟨o', ho', hc, -⟩ := h
  rw [ho] at ho'; injection ho' with ho'; subst ho'
  unfold isM; rw [hc]
theorem Line.nx_succ (L : Line P call ops n rows q st) {i : Nat} (h : i < q) : (st i).2.nx.val ≤ (st (i + 1)).2.nx.val := by
  obtain ⟨o, ho⟩ := L.at_ h
  exact stepO_mono (v := .nilFunc) L.hC (.inl (L.go i o ho h))
theorem Line.nx_le (L : Line P call ops n rows q st) {i : Nat} : ∀ {j : Nat}, i ≤ j → j ≤ q → (st i).2.nx.val ≤ (st j).2.nx.val
  | 0, h, _ => by
    have : i = 0 := by omega
    subst this; exact Nat.le_refl _
  | j + 1, h, hq => by
    by_cases e : i = j + 1
    · subst e; exact Nat.le_refl _
    · exact Nat.le_trans (L.nx_le (j := j) (by omega) (by omega)) (L.nx_succ (by omega))
theorem Line.flt_new (L : Line P call ops n rows q st) {f : Nat} (h : f < q) (hf : Flt P ops st f) : ∃ b, (st (f + 1)).2 = newB (st f).2 b := by
  obtain ⟨o, ho⟩ := L.at_ h
  rcases L.kind ho h (hf.notM ho) with ⟨-, h⟩ | ⟨h, -⟩
  · exact h
  · exact absurd hf h
theorem Line.flt_nx (L : Line P call ops n rows q st) {f : Nat} (h : f < q) (hf : Flt P ops st f) : (st (f + 1)).2.nx.val = (st f).2.nx.val + 1 := by
  obtain ⟨b, hb⟩ := L.flt_new h hf
  rw [hb]; exact K.val_succ _
theorem Line.flt_lt (L : Line P call ops n rows q st) {f j : Nat} (hf : Flt P ops st f) (h : f < j) (hj : j ≤ q) : (st f).2.nx.val < (st j).2.nx.val := by
  have := L.flt_nx (f := f) (by omega) hf
  have := L.nx_le (i := f + 1) (j := j) (by omega) hj
  omega
theorem Line.flt_inj (L : Line P call ops n rows q st) {f g : Nat} (h : f < q) (h' : g < q) (hf : Flt P ops st f) (hg : Flt P ops st g) (e : (st f).2.nx = (st g).2.nx) : f = g := by
  rcases Nat.lt_trichotomy f g with h1 | h1 | h1
  · have := L.flt_lt hf h1 (by omega); rw [e] at this; omega
  · exact h1
  · have := L.flt_lt hg h1 (by omega); rw [e] at this; omega
theorem Line.flt_none (L : Line P call ops n rows q st) {f j : Nat} (h : f < q) (hf : Flt P ops st f) (hj : j ≤ f) : T.get (st j).2.hp (st f).2.nx = none := by
  obtain ⟨o, ho, hc, -⟩ := hf
  exact L.flt f o ho h hc j hj
/-- No operation that may change memory stands between. -/
def NoM (P : Program) (ops : Array Oper) (p j : Nat) : Prop := ∀ k o, p ≤ k → k < j → ops[k]? = some o → isM P o.op = false
theorem Line.heap_fwd (L : Line P call ops n rows q st) {p : Nat} {k : K} {b : Bk} (hb : T.get (st p).2.hp k = some b) : ∀ {j : Nat}, p ≤ j → j ≤ q → NoM P ops p j → T.get (st j).2.hp k = some b
  | 0, h, _, _ => by
    have : p = 0 := by omega
    subst this; exact hb
  | j + 1, h, hq, hn => by
    by_cases e : p = j + 1
    · subst e; exact hb
    · have ih := L.heap_fwd hb (j := j) (by omega) (by omega) (fun k o h1 h2 => hn k o h1 (by omega))
      obtain ⟨o, ho⟩ := L.at_ (i := j) (by omega)
      rcases L.kind ho (by omega) (hn j o (by omega) (by omega) ho) with ⟨hf, b', hb'⟩ | ⟨-, hs⟩
      · rw [hb']
        show T.get (T.set (st j).2.hp (st j).2.nx b') k = some b
        rw [T.get_set]
        split
        · rename_i e'
          rw [e', L.flt_none (by omega) hf (Nat.le_refl _)] at ih; cases ih
        · exact ih
      · rw [hs]; exact ih
theorem Line.heap_back (L : Line P call ops n rows q st) {p : Nat} {k : K} {b : Bk} : ∀ {j : Nat}, p ≤ j → j ≤ q → NoM P ops p j → T.get (st j).2.hp k = some b → T.get (st p).2.hp k = some b ∨ ∃ f, p ≤ f ∧ f < j ∧ Flt P ops st f ∧ k = (st f).2.nx ∧ T.get (st (f + 1)).2.hp k = some b
  | 0, h, _, _, hb => by
    have : p = 0 := by omega
    subst this; exact .inl hb
  | j + 1, h, hq, hn, hb => by
    by_cases e : p = j + 1
    · subst e; exact .inl hb
    · have ih := L.heap_back (p := p) (k := k) (b := b) (j := j) (by omega) (by omega) (fun k o h1 h2 => hn k o h1 (by omega))
      have up : (T.get (st p).2.hp k = some b ∨ ∃ f, p ≤ f ∧ f < j ∧ Flt P ops st f ∧ k = (st f).2.nx ∧ T.get (st (f + 1)).2.hp k = some b) → T.get (st p).2.hp k = some b ∨ ∃ f, p ≤ f ∧ f < j + 1 ∧ Flt P ops st f ∧ k = (st f).2.nx ∧ T.get (st (f + 1)).2.hp k = some b := by
        rintro (h | ⟨f, h1, h2, h3⟩)
        · exact .inl h
        · exact .inr ⟨f, h1, by omega, h3⟩
      obtain ⟨o, ho⟩ := L.at_ (i := j) (by omega)
      rcases L.kind ho (by omega) (hn j o (by omega) (by omega) ho) with ⟨hf, b', hb'⟩ | ⟨-, hs⟩
      · have hb0 := hb
        rw [hb'] at hb
        have hb : T.get (T.set (st j).2.hp (st j).2.nx b') k = some b := hb
        rw [T.get_set] at hb
        split at hb
        · rename_i e'
          exact .inr ⟨j, by omega, by omega, hf, e', hb0⟩
        · exact up (ih hb)
      · rw [hs] at hb; exact up (ih hb)
theorem Line.tm_between (L : Line P call ops n rows q st) {i : Nat} {t : Nat} : ∀ {j : Nat}, i ≤ j → j ≤ q → (∀ k o, i ≤ k → k < j → ops[k]? = some o → o.dst ≠ some t) → T.get (st j).1 (K.of t) = T.get (st i).1 (K.of t)
  | 0, h, _, _ => by
    have : i = 0 := by omega
    subst this; rfl
  | j + 1, h, hq, hn => by
    by_cases e : i = j + 1
    · subst e; rfl
    · rw [← L.tm_between (i := i) (t := t) (j := j) (by omega) (by omega) (fun k o h1 h2 => hn k o h1 (by omega))]
      obtain ⟨o, ho⟩ := L.at_ (i := j) (by omega)
      have hd := hn j o (by omega) (by omega) ho
      rcases stepO_go (L.go j o ho (by omega)) with ⟨-, hp, -⟩ | ⟨-, v, -, hp⟩ <;> exact (putK_get hp t).1 hd

/-- What holds between the operations, in whatever order they come: M holds all that have come up; movers up to p have come up. -/
structure Inv (P : Program) (B : Nat) (μ0 : K → Option Loc) (s0 : St) (w0 : World) (N9 : K) (ds : List Deferred) (ops : Array Oper) (n : Nat) (q : Nat) (st : Nat → Tm × St) (M : Array Bool) (p : Nat) (H : Hp) (μ : K → Option Loc) (a : Act) (w : World) : Prop where
  size : M.size = ops.size
  closed : Closed ops M
  lt : ∀ j, M.getD j false = true → j < q
  ple : p ≤ q
  mov : ∀ j o, ops[j]? = some o → j < q → isM P o.op = true → (M.getD j false = true ↔ j < p)
  fl : ∀ j o, ops[j]? = some o → j < p → cls P o.op = .f → M.getD j false = true
  heap : ∀ i b, H i = some b ↔ (T.get (st p).2.hp i = some b ∨ ∃ f, p ≤ f ∧ f < q ∧ Flt P ops st f ∧ M.getD f false = true ∧ i = (st f).2.nx ∧ T.get (st (f + 1)).2.hp i = some b)
  step : Step B μ0 (T.get s0.hp) s0.nx w0 μ H N9 w
  dom : ∀ i l, μ i = some l → μ0 i = some l ∨ i.val < (st p).2.nx.val ∨ ∃ f, p ≤ f ∧ f < q ∧ Flt P ops st f ∧ M.getD f false = true ∧ i = (st f).2.nx
  defers : a.defers = ds
  tsize : a.tmps.size = n
  tmps : ∀ i, i ≤ q → ∀ t, (∀ j o, ops[j]? = some o → o.dst = some t → (M.getD j false = true ↔ j < i)) → ∀ v, T.get (st i).1 (K.of t) = some v → ∃ c, conc μ v = some c ∧ a.tmps[t]? = some c
variable {ds : List Deferred} {M : Array Bool} {p : Nat} {a : Act}
/-- The mark moves up where no mover stands between, and all makers have come up. -/
theorem Inv.raise (L : Line P call ops n rows q st) (I : Inv P B μ0 s0 w0 N9 ds ops n q st M p H μ a w) {i : Nat} (h : p ≤ i) (hq : i ≤ q) (hn : NoM P ops p i) (hf : ∀ j o, ops[j]? = some o → p ≤ j → j < i → cls P o.op = .f → M.getD j false = true) :
    Inv P B μ0 s0 w0 N9 ds ops n q st M i H μ a w where
  size := I.size
  closed := I.closed
  lt := I.lt
  ple := hq
  mov j o ho hj hM := by
    rw [I.mov j o ho hj hM]
    refine ⟨fun h1 => by omega, fun h1 => ?_⟩
    rcases Nat.lt_or_ge j p with h2 | h2
    · exact h2
    · rw [hn j o h2 h1 ho] at hM; cases hM
  fl j o ho hj hc := by
    rcases Nat.lt_or_ge j p with h2 | h2
    · exact I.fl j o ho h2 hc
    · exact hf j o ho h2 hj hc
  heap k b := by
    rw [I.heap k b]
    constructor
    · rintro (h1 | ⟨f, h1, h2, h3, h4, h5, h6⟩)
      · exact .inl (L.heap_fwd h1 h hq hn)
      · rcases Nat.lt_or_ge f i with h7 | h7
        · exact .inl (L.heap_fwd (p := f + 1) h6 (by omega) hq (fun k o g1 g2 => hn k o (by omega) g2))
        · exact .inr ⟨f, h7, h2, h3, h4, h5, h6⟩
    · rintro (h1 | ⟨f, h1, h2, h3, h4, h5, h6⟩)
      · rcases L.heap_back h hq hn h1 with h1 | ⟨f, h1, h2, h3, h4, h5⟩
        · exact .inl h1
        · obtain ⟨o, ho, hc, hw⟩ := h3
          exact .inr ⟨f, h1, by omega, ⟨o, ho, hc, hw⟩, hf f o ho h1 h2 hc, h4, h5⟩
      · exact .inr ⟨f, by omega, h2, h3, h4, h5, h6⟩
  step := I.step
  dom k l hk := by
    rcases I.dom k l hk with h1 | h1 | ⟨f, h1, h2, h3, h4, h5⟩
    · exact .inl h1
    · exact .inr (.inl (Nat.lt_of_lt_of_le h1 (L.nx_le h hq)))
    · rcases Nat.lt_or_ge f i with h7 | h7
      · exact .inr (.inl (by rw [h5]; exact L.flt_lt h3 h7 hq))
      · exact .inr (.inr ⟨f, h7, h2, h3, h4, h5⟩)
  defers := I.defers
  tsize := I.tsize
  tmps := I.tmps
/-- An operation that may come up next. -/
structure Nxt (P : Program) (ops : Array Oper) (rows : List (List Bool)) (M : Array Bool) (i : Nat) (o : Oper) : Prop where
  ho : ops[i]? = some o
  un : M.getD i false = false
  pre : ∀ j, waits rows i j = true → M.getD j false = true
  post : ∀ j, waits rows j i = true → M.getD j false = false
  edges : ∀ e ∈ o.after, Region.binds .any e = true → M.getD e.on false = true
theorem nxt_of (L : Line P call ops n rows q st) (I : Inv P B μ0 s0 w0 N9 ds ops n q st M p H μ a w) {i : Nat} (h : i ∈ Region.ready .any ops M) : ∃ o, Nxt P ops rows M i o := by
  obtain ⟨h0, o, ho, he⟩ := mem_ready.1 h
  have hlt : i < M.size := by rw [I.size]; exact (Array.getElem?_eq_some_iff.1 ho).1
  have hun : M.getD i false = false := by
    simp only [Array.getD_eq_getD_getElem?, Array.getElem?_eq_getElem hlt, Option.getD_some] at h0 ⊢
    exact h0
  refine ⟨o, ho, hun, fun j hw => waits_listed L.rows_ I.closed i j o ho hw he, fun j hw => ?_, he⟩
  cases hj : M.getD j false with
  | false => rfl
  | true =>
    have hjs : j < ops.size := Nat.lt_of_lt_of_le (I.lt j hj) L.le
    have := waits_listed L.rows_ I.closed j i ops[j] (Array.getElem?_eq_getElem hjs) hw (fun e h1 h2 => I.closed j _ (Array.getElem?_eq_getElem hjs) hj e h1 h2)
    rw [hun] at this; cases this
theorem Nxt.before (L : Line P call ops n rows q st) {i : Nat} {o : Oper} (N : Nxt P ops rows M i o) {j : Nat} {oj : Oper} (hj : ops[j]? = some oj) (h : j < i) : M.getD j false = true ∨ apartA P ops.toList oj o = true := by
  rcases L.pairs j i oj o h hj N.ho with h | h
  · exact .inl (N.pre j h)
  · exact .inr h
theorem Nxt.behind (L : Line P call ops n rows q st) {i : Nat} {o : Oper} (N : Nxt P ops rows M i o) {j : Nat} {oj : Oper} (hj : ops[j]? = some oj) (h : i < j) : M.getD j false = false ∨ apartA P ops.toList o oj = true := by
  rcases L.pairs i j o oj h N.ho hj with h | h
  · exact .inl (N.post j h)
  · exact .inr h
theorem apart_reads {oi oj : Oper} (h : apartA P ops.toList oi oj = true) : (∀ t, oi.dst = some t → t ∉ readsOf ops.toList oj) ∧ (∀ t, oj.dst = some t → t ∉ readsOf ops.toList oi) ∧ (∀ t, oi.dst = some t → oj.dst ≠ some t) := by
  unfold apartA at h
  simp only [Bool.and_eq_true, Bool.not_eq_true'] at h
  obtain ⟨⟨⟨h1, h2⟩, h3⟩, -⟩ := h
  have key : ∀ (d : Option Nat) (l : List Nat), isIn d l = false → ∀ t, d = some t → t ∉ l := by
    intro d l hh t e hm
    subst e
    simp only [isIn, List.any_eq_false] at hh
    exact hh t hm (Nat.beq_refl t)
  refine ⟨key _ _ h1, key _ _ h2, fun t e e' => ?_⟩
  rw [e, e'] at h3
  simp [sameDst] at h3
theorem apart_cls {oi oj : Oper} (h : apartA P ops.toList oi oj = true) (hj : cls P oj.op = .m) : cls P oi.op ≠ .m ∧ cls P oi.op ≠ .f := by
  unfold apartA at h
  simp only [Bool.and_eq_true] at h
  have h := h.2
  rw [hj] at h
  constructor <;> intro e <;> rw [e] at h <;> cases h
/-- What an operation reads of the temporaries is as in the text's order. -/
theorem Nxt.order (L : Line P call ops n rows q st) {i : Nat} {o : Oper} (N : Nxt P ops rows M i o) {t : Nat} (ht : t ∈ readsOf ops.toList o) : ∀ j oj, ops[j]? = some oj → oj.dst = some t → (M.getD j false = true ↔ j < i) := by
  intro j oj hj hd
  rcases Nat.lt_trichotomy j i with h | h | h
  · rcases N.before L hj h with h1 | h1
    · exact ⟨fun _ => h, fun _ => h1⟩
    · exact absurd ht ((apart_reads h1).1 t hd)
  · subst h
    rw [N.un]
    exact ⟨fun h => by (cases h), fun h => by omega⟩
  · rcases N.behind L hj h with h1 | h1
    · rw [h1]
      exact ⟨fun h => by (cases h), fun h => by omega⟩
    · exact absurd ht ((apart_reads h1).2.1 t hd)
theorem Nxt.tmp (L : Line P call ops n rows q st) (I : Inv P B μ0 s0 w0 N9 ds ops n q st M p H μ a w) {i : Nat} {o : Oper} (N : Nxt P ops rows M i o) (hi : i < q) {t : Nat} (ht : t ∈ readsOf ops.toList o) : ∀ v, T.get (st i).1 (K.of t) = some v → ∃ c, conc μ v = some c ∧ a.tmps[t]? = some c :=
  I.tmps i (by omega) t (N.order L ht)
theorem mem_tmpsOf {t : Nat} : ∀ (l : List Operand), Operand.tmp t ∈ l → t ∈ tmpsOf l
  | [], h => by cases h
  | x :: l, h => by
    rcases List.mem_cons.1 h with rfl | h
    · simp [tmpsOf]
    · have := mem_tmpsOf l h
      cases x <;> simp [tmpsOf, this]
theorem Nxt.ops_ (L : Line P call ops n rows q st) (I : Inv P B μ0 s0 w0 N9 ds ops n q st M p H μ a w) {i : Nat} {o : Oper} (N : Nxt P ops rows M i o) (hi : i < q) : OpsR μ (st i).1 a.eval o.op := fun x hx u hu => by
  cases x with
  | tmp t =>
    have ht : t ∈ readsOf ops.toList o := List.mem_append_right _ (mem_tmpsOf _ hx)
    obtain ⟨c, h1, h2⟩ := N.tmp L I hi ht u hu
    simp [Act.eval, Array.getD_eq_getD_getElem?, h2, h1]
  | const v => exact conc_ofV μ v u hu
  | global g => cases hu
  | func f =>
    injection (show some (AV.func f [] []) = some u from hu) with hu; subst hu
    rfl
theorem Nxt.want (L : Line P call ops n rows q st) (I : Inv P B μ0 s0 w0 N9 ds ops n q st M p H μ a w) {i : Nat} {o : Oper} (N : Nxt P ops rows M i o) (hi : i < q) {b : Bool} (h : wantA ops.toList (st i).1 o = some b) : Region.wanted o (yielded ops a.tmps) = b := by
  refine want_ok' (μ := μ) (fun j x pj d hg hp hd v hv => ?_) h
  refine N.tmp L I hi (List.mem_append_left _ ?_) v hv
  rw [hg]
  simp only [getL_eq, Array.getElem?_toList, hp, hd, List.mem_singleton]
end
end Go.Proofs.Ythkkphkeonnnfaa.Abs
