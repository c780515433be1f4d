/- A table's bytes: what they are, how long. No condition but those that each theorem names. -/
import Derived.Test.YthkkphkeonnnfaaVD
import Derived.Test.YthkkphkeonnnfaaTV
namespace Go.Proofs.Ythkkphkeonnnfaa.Abs
open Go
set_option linter.unusedVariables false
set_option linter.unusedSimpArgs false
set_option maxRecDepth 100000
set_option maxHeartbeats 4000000
variable {V : K → Option (List AV)}
theorem stS_len {l : List Guard} (h : l.length ≤ 12) (h8 : ∀ x ∈ l, x.rows.l.length ≤ 8) : (stS l).length ≤ 6100 := by
  have h1 := nS_len l.length
  have h2 := flat_le (f := gdS) (c := 500) l (fun x hx => by have := gdS_len x; have := h8 x hx; omega)
  simp only [stS, List.length_append]; omega
def encodeV (t : Table) (e : Option Int) : AV := match e with
  | none => frameV (encS t)
  | some c => .tup [.str [], .int .i64 c]
theorem sgS_len {l : List Int} (h : ∀ x ∈ l, In64 x) : (sgS l).length ≤ 10 + 10 * l.length := by
  have h1 := nS_len l.length
  have h2 := flat_le (f := zS) l (fun x hx => zS_len (h x hx))
  simp only [sgS, List.length_append]; omega
theorem zS_byte (n : Int) : ∀ c ∈ zS n, c < 256 := putS_byte _
theorem sgS_byte (l : List Int) : ∀ c ∈ sgS l, c < 256 := fun c hc => by
  rcases List.mem_append.1 hc with h | h
  · exact nS_byte _ c h
  · exact flat_byte zS_byte l c h
theorem rwS_byte (r : Row) : ∀ c ∈ rwS r, c < 256 := fun c hc => by
  simp only [rwS, List.mem_append] at hc
  rcases hc with h | h | h | h
  · exact nS_byte _ c h
  · exact nS_byte _ c h
  · exact nS_byte _ c h
  · exact flat_byte (fun x => nS_byte _) _ c h
theorem gdS_byte (x : Guard) : ∀ c ∈ gdS x, c < 256 := fun c hc => by
  simp only [gdS, List.mem_append] at hc
  rcases hc with h | h | h
  · exact nS_byte _ c h
  · exact nS_byte _ c h
  · exact flat_byte rwS_byte _ c h
theorem stS_byte (l : List Guard) : ∀ c ∈ stS l, c < 256 := fun c hc => by
  rcases List.mem_append.1 hc with h | h
  · exact nS_byte _ c h
  · exact flat_byte gdS_byte _ c h
theorem inS_byte (x : Instr) : ∀ c ∈ inS x, c < 256 := fun c hc => by
  rcases List.mem_append.1 hc with h | h <;> exact nS_byte _ c h
theorem encS_byte {t : Table} (h : ∀ c ∈ t.name, c < 256) : ∀ c ∈ encS t, c < 256 := fun c hc => by
  simp only [encS, List.mem_append] at hc
  rcases hc with h1 | h1 | h1 | h1 | h1 | h1 | h1 | h1 | h1
  · exact putS_byte _ c h1
  · exact h c h1
  · exact sgS_byte _ c h1
  · exact nS_byte _ c h1
  · exact sgS_byte _ c h1
  · exact nS_byte _ c h1
  · exact flat_byte inS_byte _ c h1
  · exact nS_byte _ c h1
  · exact flat_byte (f := fun s : Sl Guard => stS s.l) (fun s => stS_byte s.l) _ c h1
theorem inS_len (x : Instr) : (inS x).length ≤ 20 := by
  have := nS_len x.k
  have := nS_len x.a
  simp only [inS, List.length_append]; omega
/-- How long the parts are, of a table that may be. -/
structure Lens (t : Table) : Prop where
  name : t.name.length ≤ 16
  regs : (sgS t.regs.l).length ≤ 130
  consts : (sgS t.consts.l).length ≤ 10250
  code : (t.code.l.flatMap inS).length ≤ 81920
  states : (t.states.l.flatMap fun s => stS s.l).length ≤ 73200
  all : (encS t).length ≤ 200000
theorem lens {t : Table} (ht : t.Ok V) (hF : Formed t) : Lens t := by
  obtain ⟨hn, h1, h2, h3, h4, h5, h6, h7⟩ := hF.1
  have hname : t.name.length ≤ 16 := by
    unfold NameS at hn
    simp only [Bool.and_eq_true, decide_eq_true_eq] at hn
    exact hn.1.1.1.2
  have q1 := sgS_len ht.regs.2.2
  have q2 := sgS_len ht.consts.2.2
  have q3 := flat_le (f := inS) t.code.l (fun x _ => inS_len x)
  have q4 := flat_le (f := fun s : Sl Guard => stS s.l) (c := 6100) t.states.l (fun s hs => stS_len (hF.rest s hs).1 (fun x hx => ((hF.rest s hs).2 x hx).2))
  have q5 := putS_len10 (n := t.name.length) (by omega)
  have q6 := nS_len t.slots
  have q7 := nS_len t.code.l.length
  have q8 := nS_len t.states.l.length
  refine ⟨hname, by omega, by omega, by omega, by omega, ?_⟩
  simp only [encS, List.length_append]; omega
end Go.Proofs.Ythkkphkeonnnfaa.Abs
