/- An abstract machine over the model's code: maps. No condition but those that each theorem names. -/
import Derived.Test.YthkkphkeonnnfaaAbsL
import Derived.Laws.StructEq
namespace Go.Proofs.Ythkkphkeonnnfaa.Abs
open Go
variable {P : Program} {B : Nat} {μ μ' : K → Option Loc} {H H' : Hp} {w w1 : World} {nx nx' : K}

mutual
theorem sameA_eq : ∀ (a b : AV), sameA a b = true → a = b
  | .bool a, b, h => by
    cases b with
    | bool c => simp only [sameA, beq_iff_eq] at h; rw [h]
    | _ => simp [sameA] at h
  | .int k a, b, h => by
    cases b with
    | int k' c =>
      simp only [sameA, Bool.and_eq_true] at h
      obtain ⟨h1, h2⟩ := h
      split at h1
      · split at h2
        · rename_i e e'; rw [e, e']
        · cases h2
      · cases h1
    | _ => simp [sameA] at h
  | .str a, b, h => by
    cases b with
    | str c => simp only [sameA] at h; rw [sameN_eq a c h]
    | _ => simp [sameA] at h
  | .ptr a, b, h => by
    cases b with
    | ptr c =>
      cases a with
      | none => cases c with
        | none => rfl
        | some q => simp [sameA] at h
      | some p => cases c with
        | none => simp [sameA] at h
        | some q =>
          simp only [sameA, Bool.and_eq_true] at h
          rw [show p = q from Prod.ext (K.beq_eq h.1) (Nat.beq_eq.mp h.2)]
    | _ => simp [sameA] at h
  | .slice a n c, b, h => by
    cases b with
    | slice a' m d =>
      cases a with
      | none => cases a' with
        | none =>
          cases c <;> cases d <;> simp only [sameA, Bool.and_eq_true, Bool.false_eq_true] at h
          rw [Nat.beq_eq.mp h.1, Nat.beq_eq.mp h.2]
        | some q => cases c <;> simp [sameA] at h
      | some p => cases a' with
        | none => cases c <;> simp [sameA] at h
        | some q =>
          cases c <;> cases d <;> simp only [sameA, Bool.and_eq_true, Bool.false_eq_true] at h
          · obtain ⟨⟨⟨h1, h2⟩, h3⟩, h4⟩ := h
            rw [show p = q from Prod.ext (K.beq_eq h1) (Nat.beq_eq.mp h2), Nat.beq_eq.mp h3, Nat.beq_eq.mp h4]
          · obtain ⟨⟨⟨h1, h2⟩, h3⟩, h4⟩ := h
            rw [show p = q from Prod.ext (K.beq_eq h1) (Nat.beq_eq.mp h2), Nat.beq_eq.mp h3, Nat.beq_eq.mp h4]
    | _ => cases a <;> cases c <;> simp [sameA] at h
  | .map a, b, h => by
    cases b with
    | map c =>
      cases a with
      | none => cases c with
        | none => rfl
        | some q => simp [sameA] at h
      | some p => cases c with
        | none => simp [sameA] at h
        | some q => simp only [sameA] at h; rw [K.beq_eq h]
    | _ => cases a <;> simp [sameA] at h
  | .func f x y, b, h => by
    cases b with
    | func g u v =>
      simp only [sameA, Bool.and_eq_true] at h
      rw [Nat.beq_eq.mp h.1.1, sameL_eq x u h.1.2, sameL_eq y v h.2]
    | _ => simp [sameA] at h
  | .nilFunc, b, h => by cases b <;> first | rfl | (simp [sameA] at h)
  | .iface t v, b, h => by
    cases b with
    | iface u x =>
      simp only [sameA, Bool.and_eq_true] at h
      rw [Nat.beq_eq.mp h.1, sameA_eq v x h.2]
    | _ => simp [sameA] at h
  | .nilIface, b, h => by cases b <;> first | rfl | (simp [sameA] at h)
  | .agg l, b, h => by
    cases b with
    | agg m => simp only [sameA] at h; rw [sameL_eq l m h]
    | _ => simp [sameA] at h
  | .tup l, b, h => by
    cases b with
    | tup m => simp only [sameA] at h; rw [sameL_eq l m h]
    | _ => simp [sameA] at h
theorem sameL_eq : ∀ (a b : List AV), sameL a b = true → a = b
  | [], [], _ => rfl
  | [], _ :: _, h => by simp [sameL] at h
  | _ :: _, [], h => by simp [sameL] at h
  | x :: xs, y :: ys, h => by
    simp only [sameL, Bool.and_eq_true] at h
    rw [sameA_eq x y h.1, sameL_eq xs ys h.2]
theorem sameN_eq : ∀ (a b : List Nat), sameN a b = true → a = b
  | [], [], _ => rfl
  | [], _ :: _, h => by simp [sameN] at h
  | _ :: _, [], h => by simp [sameN] at h
  | x :: xs, y :: ys, h => by
    simp only [sameN, Bool.and_eq_true] at h
    rw [Nat.beq_eq.mp h.1, sameN_eq xs ys h.2]
end
theorem plainLeaf_bits {v : AV} {c : Value} (h : plainLeaf v = true) (hc : conc μ v = some c) (n : Nat) : Instr.sameBits n c c = true := by
  cases v <;> first | (cases h; done) | skip
  · rw [conc_bool hc]; simp [Instr.sameBits]
  · rw [conc_int hc]; simp [Instr.sameBits]
  · rw [conc_str hc]; simp [Instr.sameBits, beq_toListBytes]
theorem plainAll_bits : ∀ (l : List AV) (cs : List Value), plainAll l = true → concL μ l = some cs → ∀ n, ((cs.zip cs).all fun (x, y) => Instr.sameBits n x y) = true
  | [], cs, _, h, n => by
    injection (show some [] = some cs from h) with h; subst h; rfl
  | v :: vs, cs, hp, h, n => by
    simp only [plainAll, Bool.and_eq_true] at hp
    simp only [concL, Option.bind_eq_some_iff, Option.map_eq_some_iff] at h
    obtain ⟨c, h1, ds, h2, rfl⟩ := h
    simp only [List.zip_cons_cons, List.all_cons, plainLeaf_bits hp.1 h1 n, Bool.true_and]
    exact plainAll_bits vs ds hp.2 h2 n
theorem plainKey_bits {v : AV} {c : Value} (h : plainKey v = true) (hc : conc μ v = some c) (n : Nat) : Instr.sameBits (n + 1) c c = true := by
  cases v with
  | agg l =>
    obtain ⟨cs, hcs, rfl⟩ := conc_agg hc
    have := plainAll_bits l cs h hcs n
    simp only [Instr.sameBits, beq_self_eq_true, Bool.true_and]
    exact this
  | bool b => exact plainLeaf_bits (v := .bool b) rfl hc _
  | int k n => exact plainLeaf_bits (v := .int k n) rfl hc _
  | str s => exact plainLeaf_bits (v := .str s) rfl hc _
  | _ => cases h

theorem checkKey_ok {kt : TypeId} {b : Bool} {k : AV} (h : keyOk P kt b k = true) : ∃ c, conc none0 k = some c ∧ (∀ w, (Instr.checkKey b 10000 kt c).run P w = .ok () w) ∧ ((∃ n, P.underlying kt = some (.int n)) ∨ P.underlying kt = some .string ∨ ∃ f, P.underlying kt = some (.struct f)) := by
  unfold keyOk at h
  split at h
  · rename_i c hc
    split at h
    · rename_i u hu
      refine ⟨c, hc, pureRun_run _ _ hu, ?_⟩
      split at h
      · rename_i n hn; exact .inl ⟨n, hn⟩
      · rename_i hn; exact .inr (.inl hn)
      · rename_i f hn; exact .inr (.inr ⟨f, hn⟩)
      · cases h
    · cases h
  · cases h
/-- What was found. -/
def FR (μ : K → Option Loc) (r : Option (Nat × AV)) (r' : Option (Nat × Value)) : Prop := match r, r' with
  | none, none => True
  | some (j, v), some (j', c) => j = j' ∧ conc μ v = some c
  | _, _ => False
theorem concEs_cons {e : AV × AV × Nat} {es : List (AV × AV × Nat)} {l : List MapEntry} (h : concEs μ (e :: es) = some l) : ∃ k v l', conc μ e.1 = some k ∧ conc μ e.2.1 = some v ∧ concEs μ es = some l' ∧ l = { key := k, val := v, born := e.2.2 } :: l' := by
  simp only [concEs, concE, Option.bind_eq_some_iff, Option.map_eq_some_iff] at h
  obtain ⟨a, ⟨k, hk, v, hv, rfl⟩, as, h2, rfl⟩ := h
  exact ⟨k, v, as, hk, hv, h2, rfl⟩
theorem findA_now {kt : TypeId} {d : TypeDesc} (hd : P.underlying kt = some d) (hk : (∃ n, d = .int n) ∨ d = .string) {k : AV} {c : Value} (hc : conc μ k = some c) : ∀ (es : List (AV × AV × Nat)) (l : List MapEntry) (i : Nat) (r : Option (Nat × AV)), concEs μ es = some l → findA P kt k es i = some r →
    ∃ r', Instr.findNow d c l i = some r' ∧ FR μ r r'
  | [], l, i, r, hl, h => by
    injection (show some [] = some l from hl) with hl; subst hl
    injection (show some none = some r from h) with h; subst h
    exact ⟨none, rfl, trivial⟩
  | e :: es, l, i, r, hl, h => by
    obtain ⟨kc, vc, l', h1, h2, h3, rfl⟩ := concEs_cons hl
    obtain ⟨k', v, bn⟩ := e
    have key : ∀ b, keyEq P kt k k' = some b → Instr.sameNow d c kc = some b := by
      intro b hb
      unfold keyEq at hb
      split at hb
      · rename_i n kk a kk' a' hu
        rw [hd] at hu; injection hu with hu; subst hu
        rw [conc_int hc, conc_int h1]
        split at hb
        · rename_i ekk
          injection hb with hb; subst hb
          simp [Instr.sameNow, ekk]
        · cases hb
      · rename_i a a' hu
        rw [hd] at hu; injection hu with hu; subst hu
        rw [conc_str hc, conc_str h1]
        injection hb with hb; subst hb
        simp only [Instr.sameNow, eqN_eq, beq_toListBytes, bytesV_toList]
      · rename_i f xs ys hu
        rw [hd] at hu; injection hu with hu; subst hu
        rcases hk with ⟨n, hn⟩ | hn <;> cases hn
      · cases hb
    simp only [findA] at h
    split at h
    · rename_i hb
      injection h with h; subst h
      exact ⟨some (i, vc), by simp [Instr.findNow, key _ hb], rfl, h2⟩
    · rename_i hb
      obtain ⟨r', q1, q2⟩ := findA_now hd hk hc es l' (i + 1) r h3 h
      exact ⟨r', by simp [Instr.findNow, key _ hb, q1], q2⟩
    · cases h
theorem findA_ask {kt : TypeId} {f : Array Field} (hd : P.underlying kt = some (.struct f)) {k : AV} {c : Value} (hc : conc μ k = some c) : ∀ (es : List (AV × AV × Nat)) (l : List MapEntry) (i : Nat) (r : Option (Nat × AV)), concEs μ es = some l → findA P kt k es i = some r →
    ∃ r', (∀ w, (Instr.findAsking kt c l i).run P w = .ok r' w) ∧ FR μ r r'
  | [], l, i, r, hl, h => by
    injection (show some [] = some l from hl) with hl; subst hl
    injection (show some none = some r from h) with h; subst h
    exact ⟨none, fun w => by simp [Instr.findAsking], trivial⟩
  | e :: es, l, i, r, hl, h => by
    obtain ⟨kc, vc, l', h1, h2, h3, rfl⟩ := concEs_cons hl
    obtain ⟨k', v, bn⟩ := e
    have key : ∀ b, keyEq P kt k k' = some b → ∀ w, (Op.equal kt c kc).run P w = .ok b w := by
      intro b hb
      unfold keyEq at hb
      split at hb
      · rename_i hu; rw [hd] at hu; injection hu with hu; cases hu
      · rename_i hu; rw [hd] at hu; injection hu with hu; cases hu
      · rename_i f' xs ys hu
        split at hb
        · rename_i X Y e1 e2
          have e1 := mono0 (μ := μ) e1
          have e2 := mono0 (μ := μ) e2
          rw [hc] at e1; rw [h1] at e2
          injection e1 with e1; injection e2 with e2
          subst e1; subst e2
          exact pureRun_run _ _ hb
        · cases hb
      · cases hb
    simp only [findA] at h
    split at h
    · rename_i hb
      injection h with h; subst h
      exact ⟨some (i, vc), fun w => by simp [Instr.findAsking, key _ hb w], rfl, h2⟩
    · rename_i hb
      obtain ⟨r', q1, q2⟩ := findA_ask hd hc es l' (i + 1) r h3 h
      exact ⟨r', fun w => by simp [Instr.findAsking, key _ hb w, q1 w], q2⟩
    · cases h
theorem findKey_run {kt : TypeId} (hk : (∃ n, P.underlying kt = some (.int n)) ∨ P.underlying kt = some .string ∨ ∃ f, P.underlying kt = some (.struct f)) {k : AV} {c : Value} (hc : conc μ k = some c) {es : List (AV × AV × Nat)} {l : List MapEntry} {r : Option (Nat × AV)} (hl : concEs μ es = some l) (h : findA P kt k es 0 = some r) :
    ∃ r', (∀ w, (Instr.findKey kt c l).run P w = .ok r' w) ∧ FR μ r r' := by
  rcases hk with ⟨n, hn⟩ | hn | ⟨f, hf⟩
  · obtain ⟨r', q1, q2⟩ := findA_now hn (.inl ⟨n, rfl⟩) hc es l 0 r hl h
    exact ⟨r', fun w => by simp [Instr.findKey, run_underlying hn, q1], q2⟩
  · obtain ⟨r', q1, q2⟩ := findA_now hn (.inr rfl) hc es l 0 r hl h
    exact ⟨r', fun w => by simp [Instr.findKey, run_underlying hn, q1], q2⟩
  · obtain ⟨r', q1, q2⟩ := findA_ask hf hc es l 0 r hl h
    refine ⟨r', fun w => ?_, q2⟩
    cases es with
    | nil =>
      injection (show some [] = some l from hl) with hl; subst hl
      have := q1 w
      simp [Instr.findKey, run_underlying hf, Instr.findNow, Instr.findAsking] at this ⊢
      exact this
    | cons e es =>
      obtain ⟨kc, vc, l', -, -, -, rfl⟩ := concEs_cons hl
      have : Instr.findNow (.struct f) c ({ key := kc, val := vc, born := e.2.2 } :: l') 0 = none := by simp [Instr.findNow, Instr.sameNow]
      simp [Instr.findKey, run_underlying hf, this, q1]
theorem isEmpty_conc {es : List (AV × AV × Nat)} {arr : Array MapEntry} (h : concEs μ es = some arr.toList) : arr.isEmpty = es.isEmpty := by
  cases es with
  | nil => injection (show some [] = some arr.toList from h) with h; simp [Array.isEmpty, ← Array.length_toList, ← h]
  | cons e es =>
    obtain ⟨k, v, l', -, -, -, e'⟩ := concEs_cons h
    simp [Array.isEmpty, ← Array.length_toList, e']
theorem concEs_length : ∀ (es : List (AV × AV × Nat)) (l : List MapEntry), concEs μ es = some l → l.length = es.length
  | [], l, h => by injection (show some [] = some l from h) with h; subst h; rfl
  | e :: es, l, h => by
    obtain ⟨k, v, l', -, -, h3, rfl⟩ := concEs_cons h
    simp [concEs_length es l' h3]
/-- The map that lies at a name. -/
theorem Rel.mp (hR : Rel B μ H w) {i : K} {es : List (AV × AV × Nat)} {c : Nat} (hb : H i = some (.mp es c)) : ∃ l arr, μ i = some l ∧ w.heap[l.blk]? = some (.map arr c) ∧ concEs μ es = some arr.toList := by
  obtain ⟨l, hl, arr, h1, h2⟩ := hR.at_ i _ hb
  exact ⟨l, arr, hl, h1, h2⟩
theorem getObj_map {r : Nat} {arr : Array MapEntry} {c : Nat} (h : w.heap[r]? = some (.map arr c)) : (getObj r).run P w = .ok (.map arr c) w := by simp [getObj, Sem.run, h]
theorem setObj_map {r : Nat} {arr : Array MapEntry} {c : Nat} (o : Obj) (h : w.heap[r]? = some (.map arr c)) : (setObj r o).run P w = .ok () { w with heap := w.heap.setIfInBounds r o } := by simp [setObj, Sem.run, h]
theorem opLookup_run {s : St} (hR : Rel B μ (T.get s.hp) w) {t : TypeId} {m k : Option AV} {ok : Bool} {v : AV} (h : opLookup P t m k ok s = some v) : ∃ m' k', m = some m' ∧ k = some k' ∧ ∀ c d, conc μ m' = some c → conc μ k' = some d → ∃ r, conc μ v = some r ∧ (Instr.lookup t c d ok).run P w = .ok r w := by
  unfold opLookup at h
  split at h
  · rename_i kt et i k hu
    refine ⟨_, _, rfl, rfl, fun c d hc hd => ?_⟩
    obtain ⟨l, hl, rfl⟩ := conc_map hc
    split at h
    · rename_i es ck hb
      obtain ⟨l', arr, hl', ha, hes⟩ := hR.mp hb
      rw [hl] at hl'; injection hl' with hl'; subst hl'
      have hg := getObj_map (P := P) ha
      split at h
      · rename_i x1 x2 hko hfa
        injection h with h; subst h
        obtain ⟨K', hK', hck, hkind⟩ := checkKey_ok hko
        have := mono0 (μ := μ) hK'
        rw [hd] at this; injection this with this; subst this
        obtain ⟨r', hr', hfr⟩ := findKey_run hkind hd hes hfa
        cases r' with
        | none => exact hfr.elim
        | some p =>
          obtain ⟨j', cv⟩ := p
          obtain ⟨-, hcv⟩ := hfr
          have hck' := hck w
          rw [← isEmpty_conc hes] at hck'
          cases ok
          · exact ⟨cv, hcv, by simp [Instr.lookup, run_underlying hu, hg, hck', hr' w]⟩
          · exact ⟨.tuple #[cv, .bool true], by simp [conc, concL, hcv], by simp [Instr.lookup, run_underlying hu, hg, hck', hr' w]⟩
      · rename_i z hko hfa hz
        injection h with h; subst h
        obtain ⟨K', hK', hck, hkind⟩ := checkKey_ok hko
        have := mono0 (μ := μ) hK'
        rw [hd] at this; injection this with this; subst this
        obtain ⟨r', hr', hfr⟩ := findKey_run hkind hd hes hfa
        obtain ⟨ie, zc, hi, hzc, hconc⟩ := zeroA_conc hz
        have hzr : (zeroValue et).run P w = .ok zc w := by simp [zeroValue, typeInfo, hi, hzc]
        cases r' with
        | some p => exact hfr.elim
        | none =>
          have hck' := hck w
          rw [← isEmpty_conc hes] at hck'
          cases ok
          · exact ⟨zc, hconc μ, by simp [Instr.lookup, run_underlying hu, hg, hck', hr' w, hzr]⟩
          · exact ⟨.tuple #[zc, .bool false], by simp [conc, concL, hconc μ], by simp [Instr.lookup, run_underlying hu, hg, hck', hr' w, hzr]⟩
      · cases h
    · cases h
  · rename_i kt et k hu
    refine ⟨_, _, rfl, rfl, fun c d hc hd => ?_⟩
    rw [conc_map0 hc]
    split at h
    · rename_i z hko hz
      injection h with h; subst h
      obtain ⟨K', hK', hck, hkind⟩ := checkKey_ok hko
      have := mono0 (μ := μ) hK'
      rw [hd] at this; injection this with this; subst this
      obtain ⟨r', hr', hfr⟩ := findKey_run (P := P) (μ := μ) (r := none) hkind hd (es := []) (l := []) rfl rfl
      obtain ⟨ie, zc, hi, hzc, hconc⟩ := zeroA_conc hz
      have hzr : (zeroValue et).run P w = .ok zc w := by simp [zeroValue, typeInfo, hi, hzc]
      cases r' with
      | some p => exact hfr.elim
      | none =>
        have hck' := hck w
        cases ok
        · exact ⟨zc, hconc μ, by simp [Instr.lookup, run_underlying hu, hck', hr' w, hzr]⟩
        · exact ⟨.tuple #[zc, .bool false], by simp [conc, concL, hconc μ], by simp [Instr.lookup, run_underlying hu, hck', hr' w, hzr]⟩
    · cases h
  · cases h
theorem setObj_other {r k : Nat} (o : Obj) (h : k ≠ r) : (w.heap.setIfInBounds r o)[k]? = w.heap[k]? := by rw [Array.getElem?_setIfInBounds_ne (Ne.symm h)]
theorem setObj_same {r : Nat} {o' : Obj} (o : Obj) (h : w.heap[r]? = some o') : (w.heap.setIfInBounds r o)[r]? = some o := by
  have hlt := (Array.getElem?_eq_some_iff.1 h).1
  rw [Array.getElem?_setIfInBounds_self]; simp [hlt]
theorem mp_set {s : St} (hR : Rel B μ (T.get s.hp) w) {i : K} {es es' : List (AV × AV × Nat)} {c c' : Nat} (hb : T.get s.hp i = some (.mp es c)) {l : Loc} (hl : μ i = some l) {o' : Obj} (ho : w.heap[l.blk]? = some o') {arr' : Array MapEntry} (he : concEs μ es' = some arr'.toList) :
    Step B μ (T.get s.hp) s.nx w μ (T.get (setB s i (.mp es' c')).hp) (setB s i (.mp es' c')).nx { w with heap := w.heap.setIfInBounds l.blk (.map arr' c') } := by
  rw [show (setB s i (.mp es' c')).hp = T.set s.hp i (.mp es' c') from rfl, get_set']
  exact Step.set_ hR hb trivial (b' := .mp es' c') trivial hl (by simp) (fun k hk => setObj_other _ hk) rfl rfl rfl ⟨arr', setObj_same _ ho, he⟩
theorem concEs_setN {k v : AV} {kc vc : Value} (hk : conc μ k = some kc) (hv : conc μ v = some vc) : ∀ (es : List (AV × AV × Nat)) (l : List MapEntry) (j : Nat), concEs μ es = some l → concEs μ (setN es j fun e => (k, v, e.2.2)) = some (l.modify j fun e => { e with key := kc, val := vc })
  | [], l, j, h => by injection (show some [] = some l from h) with h; subst h; cases j <;> simp [setN, concEs]
  | e :: es, l, 0, h => by
    obtain ⟨a, b, l', -, -, h3, rfl⟩ := concEs_cons h
    simp [setN, concEs, concE, hk, hv, h3]
  | e :: es, l, j + 1, h => by
    obtain ⟨a, b, l', h1, h2, h3, rfl⟩ := concEs_cons h
    simp [setN, concEs, concE, h1, h2, concEs_setN hk hv es l' j h3]
theorem concEs_delN : ∀ (es : List (AV × AV × Nat)) (l : List MapEntry) (j : Nat), concEs μ es = some l → concEs μ (delN es j) = some (l.eraseIdx j)
  | [], l, j, h => by injection (show some [] = some l from h) with h; subst h; cases j <;> simp [delN, concEs]
  | e :: es, l, 0, h => by
    obtain ⟨a, b, l', -, -, h3, rfl⟩ := concEs_cons h
    simp [delN, h3]
  | e :: es, l, j + 1, h => by
    obtain ⟨a, b, l', h1, h2, h3, rfl⟩ := concEs_cons h
    simp [delN, concEs, concE, h1, h2, concEs_delN es l' j h3]
theorem concEs_push {k v : AV} {kc vc : Value} {bn : Nat} (hk : conc μ k = some kc) (hv : conc μ v = some vc) : ∀ (es : List (AV × AV × Nat)) (l : List MapEntry), concEs μ es = some l → concEs μ (es ++ [(k, v, bn)]) = some (l ++ [{ key := kc, val := vc, born := bn }])
  | [], l, h => by injection (show some [] = some l from h) with h; subst h; simp [concEs, concE, hk, hv]
  | e :: es, l, h => by
    obtain ⟨a, b, l', h1, h2, h3, rfl⟩ := concEs_cons h
    simp [concEs, concE, h1, h2, concEs_push hk hv es l' h3]
theorem concEs_get : ∀ (es : List (AV × AV × Nat)) (l : List MapEntry) (j : Nat) (e : AV × AV × Nat), concEs μ es = some l → es[j]? = some e → ∃ x, l[j]? = some x ∧ conc μ e.1 = some x.key
  | [], l, j, e, _, he => by simp at he
  | x :: xs, l, 0, e, h, he => by
    obtain ⟨a, b, l', h1, h2, h3, rfl⟩ := concEs_cons h
    simp only [List.getElem?_cons_zero, Option.some.injEq] at he; subst he
    exact ⟨_, rfl, h1⟩
  | x :: xs, l, j + 1, e, h, he => by
    obtain ⟨a, b, l', h1, h2, h3, rfl⟩ := concEs_cons h
    simp only [List.getElem?_cons_succ] at he ⊢
    exact concEs_get xs l' j e h3 he
theorem opMapUpdate_goes {s s' : St} (hR : Rel B μ (T.get s.hp) w) {t : TypeId} {m k x : Option AV} (h : opMapUpdate P t m k x s = some s') : ∃ m' k' x', m = some m' ∧ k = some k' ∧ x = some x' ∧ ∀ c d e, conc μ m' = some c → conc μ k' = some d → conc μ x' = some e →
    ∃ w', (Instr.mapUpdate t c d e).run P w = .ok () w' ∧ Step B μ (T.get s.hp) s.nx w μ (T.get s'.hp) s'.nx w' := by
  unfold opMapUpdate at h
  split at h
  case h_2 => cases h
  rename_i kt et i k v hu
  refine ⟨_, _, _, rfl, rfl, rfl, fun c d e hc hd he => ?_⟩
  obtain ⟨l, hl, rfl⟩ := conc_map hc
  split at h
  case h_2 => cases h
  rename_i es ck hb
  obtain ⟨l', arr, hl', ha, hes⟩ := hR.mp hb
  rw [hl] at hl'; injection hl' with hl'; subst hl'
  have hg := getObj_map (P := P) ha
  split at h
  · rename_i j x2 hko hfa
    split at h
    case h_2 => cases h
    rename_i en hen
    split at h
    case h_2 => cases h
    rename_i hsame
    injection h with h; subst h
    simp only [Bool.and_eq_true] at hsame
    obtain ⟨hs1, hs2⟩ := hsame
    have hs1 := sameA_eq _ _ hs1
    obtain ⟨K', hK', hck, hkind⟩ := checkKey_ok hko
    have := mono0 (μ := μ) hK'
    rw [hd] at this; injection this with this; subst this
    obtain ⟨r', hr', hfr⟩ := findKey_run hkind hd hes hfa
    cases r' with
    | none => exact hfr.elim
    | some p =>
      obtain ⟨j', cv⟩ := p
      obtain ⟨rfl, hcv⟩ := hfr
      rw [getL_eq] at hen
      obtain ⟨xe, hxe, hxk⟩ := concEs_get es _ j en hes hen
      rw [← hs1, hd] at hxk
      injection hxk with hxk
      have hold : arr[j]? = some xe := by rw [← Array.getElem?_toList]; exact hxe
      have hkts : (Instr.keyThatStays d d).run P w = .ok d w := by
        have := plainKey_bits (n := 9999) hs2 hd
        simp [Instr.keyThatStays, this]
      refine ⟨{ w with heap := w.heap.setIfInBounds l.blk (.map (arr.modify j fun e' => { e' with key := d, val := e }) ck) }, ?_, ?_⟩
      · simp [Instr.mapUpdate, run_underlying hu, hg, hck w, hr' w, hold, ← hxk, hkts]
        rw [setObj_map _ ha]
      · refine mp_set hR hb hl ha ?_
        rw [Array.toList_modify]
        exact concEs_setN hd he es _ j hes
  · rename_i hko hfa
    injection h with h; subst h
    obtain ⟨K', hK', hck, hkind⟩ := checkKey_ok hko
    have := mono0 (μ := μ) hK'
    rw [hd] at this; injection this with this; subst this
    obtain ⟨r', hr', hfr⟩ := findKey_run hkind hd hes hfa
    cases r' with
    | some p => exact hfr.elim
    | none =>
      refine ⟨{ w with heap := w.heap.setIfInBounds l.blk (.map (arr.push { key := d, val := e, born := ck }) (ck + 1)) }, ?_, ?_⟩
      · simp [Instr.mapUpdate, run_underlying hu, hg, hck w, hr' w]
        rw [setObj_map _ ha]
      · refine mp_set hR hb hl ha ?_
        rw [Array.toList_push]
        exact concEs_push hd he es _ hes
  · cases h
theorem opDelete_goes {s s' : St} (hR : Rel B μ (T.get s.hp) w) {ts : List TypeId} {ty : TypeId} {m k : AV} (h : opDelete P ts m k s = some s') {c d : Value} (hc : conc μ m = some c) (hd : conc μ k = some d) :
    ∃ w', (Builtin.delete_ ts.toArray ty #[c, d]).run P w = .ok (.tuple #[]) w' ∧ Step B μ (T.get s.hp) s.nx w μ (T.get s'.hp) s'.nx w' := by
  unfold opDelete at h
  split at h
  case h_2 => cases h
  rename_i t ts i
  obtain ⟨l, hl, rfl⟩ := conc_map hc
  split at h
  case h_2 => cases h
  rename_i kt et es ck hu hb
  obtain ⟨l', arr, hl', ha, hes⟩ := hR.mp hb
  rw [hl] at hl'; injection hl' with hl'; subst hl'
  have hg := getObj_map (P := P) ha
  split at h
  · rename_i j x2 hko hfa
    injection h with h; subst h
    obtain ⟨K', hK', hck, hkind⟩ := checkKey_ok hko
    have := mono0 (μ := μ) hK'
    rw [hd] at this; injection this with this; subst this
    obtain ⟨r', hr', hfr⟩ := findKey_run hkind hd hes hfa
    cases r' with
    | none => exact hfr.elim
    | some p =>
      obtain ⟨j', cv⟩ := p
      obtain ⟨rfl, hcv⟩ := hfr
      have hck' := hck w
      rw [← isEmpty_conc hes] at hck'
      refine ⟨{ w with heap := w.heap.setIfInBounds l.blk (.map (arr.eraseIdxIfInBounds j) ck) }, ?_, ?_⟩
      · simp [Builtin.delete_, run_underlying hu, hg, hck', hr' w]
        rw [setObj_map _ ha]; rfl
      · refine mp_set hR hb hl ha ?_
        rw [Array.toList_eraseIdxIfInBounds]
        exact concEs_delN es _ j hes
  · rename_i hko hfa
    injection h with h; subst h
    obtain ⟨K', hK', hck, hkind⟩ := checkKey_ok hko
    have := mono0 (μ := μ) hK'
    rw [hd] at this; injection this with this; subst this
    obtain ⟨r', hr', hfr⟩ := findKey_run hkind hd hes hfa
    cases r' with
    | some p => exact hfr.elim
    | none =>
      have hck' := hck w
      rw [← isEmpty_conc hes] at hck'
      refine ⟨{ w with heap := w.heap.setIfInBounds l.blk (.map arr ck) }, ?_, ?_⟩
      · simp [Builtin.delete_, run_underlying hu, hg, hck', hr' w]
        rw [setObj_map _ ha]; rfl
      · have := mp_set (c := ck) (c' := ck) (arr' := arr) hR hb hl ha hes
        refine this.sub fun j b hj => ?_
        rw [show (setB s i (.mp es ck)).hp = T.set s.hp i (.mp es ck) from rfl, get_set']
        unfold updH
        split
        · rename_i e; subst e; rw [hb] at hj; exact hj
        · exact hj
  · cases h
theorem opClear_goes {s s' : St} (hR : Rel B μ (T.get s.hp) w) {ts : List TypeId} {ty : TypeId} {m : AV} (h : opClear P ts m s = some s') {c : Value} (hc : conc μ m = some c) :
    ∃ w', (Builtin.clear_ ts.toArray ty #[c]).run P w = .ok (.tuple #[]) w' ∧ Step B μ (T.get s.hp) s.nx w μ (T.get s'.hp) s'.nx w' := by
  unfold opClear at h
  split at h
  case h_2 => cases h
  rename_i t ts i
  obtain ⟨l, hl, rfl⟩ := conc_map hc
  split at h
  case h_2 => cases h
  rename_i kt et es ck hu hb
  obtain ⟨l', arr, hl', ha, hes⟩ := hR.mp hb
  rw [hl] at hl'; injection hl' with hl'; subst hl'
  have hg := getObj_map (P := P) ha
  injection h with h; subst h
  refine ⟨{ w with heap := w.heap.setIfInBounds l.blk (.map #[] ck) }, ?_, mp_set hR hb hl ha rfl⟩
  simp [Builtin.clear_, run_underlying hu, hg]
  rw [setObj_map _ ha]; rfl
theorem opLen_run {s : St} (hR : Rel B μ (T.get s.hp) w) {ts : List TypeId} {ty : TypeId} {x v : AV} (h : opLen P ts x s = some v) {c : Value} (hc : conc μ x = some c) : ∃ d, conc μ v = some d ∧ (Builtin.len_ ts.toArray ty #[c]).run P w = .ok d w := by
  unfold opLen at h
  split at h
  case h_2 => cases h
  rename_i t ts
  split at h
  · rename_i s' hu
    injection h with h; subst h
    rw [conc_str hc]
    exact ⟨_, rfl, by simp [Builtin.len_, run_underlying hu, bytesV_size, goInt]⟩
  · rename_i e a n k hu
    injection h with h; subst h
    cases a with
    | none => obtain ⟨m, rfl, rfl⟩ := conc_slice0 hc; exact ⟨_, rfl, by simp [Builtin.len_, run_underlying hu, goInt]⟩
    | some p => obtain ⟨l, -, -, rfl⟩ := conc_slice (i := p.1) (o := p.2) hc; exact ⟨_, rfl, by simp [Builtin.len_, run_underlying hu, goInt]⟩
  · rename_i n e hu
    injection h with h; subst h
    exact ⟨_, rfl, by simp [Builtin.len_, run_underlying hu, goInt]⟩
  · rename_i k e hu
    injection h with h; subst h
    rw [conc_map0 hc]
    exact ⟨_, rfl, by simp [Builtin.len_, run_underlying hu, goInt]⟩
  · rename_i k e i hu
    split at h
    · rename_i es ck hb
      injection h with h; subst h
      obtain ⟨l, hl, rfl⟩ := conc_map hc
      obtain ⟨l', arr, hl', ha, hes⟩ := hR.mp hb
      rw [hl] at hl'; injection hl' with hl'; subst hl'
      have hg := getObj_map (P := P) ha
      have hlen := concEs_length _ _ hes
      rw [Array.length_toList] at hlen
      exact ⟨_, rfl, by simp [Builtin.len_, run_underlying hu, hg, goInt, hlen]⟩
    · cases h
  · rename_i a hu
    split at h
    · rename_i n e ha
      injection h with h; subst h
      exact ⟨_, rfl, by simp [Builtin.len_, run_underlying hu, run_underlying ha, goInt]⟩
    · cases h
  · cases h
theorem opCap_run {ts : List TypeId} {ty : TypeId} {x v : AV} (h : opCap P ts x = some v) {c : Value} (hc : conc μ x = some c) : ∃ d, conc μ v = some d ∧ ∀ w, (Builtin.cap_ ts.toArray ty #[c]).run P w = .ok d w := by
  unfold opCap at h
  split at h
  case h_2 => cases h
  rename_i t ts
  split at h
  · rename_i e a n k hu
    injection h with h; subst h
    cases a with
    | none =>
      obtain ⟨m, e, rfl⟩ := conc_slice0 hc
      injection e with e; subst e
      exact ⟨_, rfl, fun w => by simp [Builtin.cap_, run_underlying hu, goInt]⟩
    | some p => obtain ⟨l, -, -, rfl⟩ := conc_slice (i := p.1) (o := p.2) hc; exact ⟨_, rfl, fun w => by simp [Builtin.cap_, run_underlying hu, goInt, capV]⟩
  · cases h
end Go.Proofs.Ythkkphkeonnnfaa.Abs
