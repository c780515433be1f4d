/- A run's stack has numbers of 64 bits. No condition but those that each theorem names. -/
import Derived.Test.YtoegffiapnnkiaaGreatMC
namespace Go.Proofs.YtoegffiapnnkiaaGreat.Abs
open Go
set_option linter.unusedVariables false
set_option linter.unusedSimpArgs false
set_option maxRecDepth 100000
set_option maxHeartbeats 4000000
theorem oneS_in {o a:Int} (ha:In64 a):In64 (oneS o a).1:=by
  unfold oneS
  by_cases h1:o=2
  · rw [if_pos h1];show In64 (if a=0 then 1 else 0);split<;>(unfold In64;omega)
  rw [if_neg h1]
  by_cases h2:o=3∧0≤a
  · rw [if_pos h2];exact ha
  rw [if_neg h2]
  by_cases h3:In64 (-a)
  · rw [if_pos h3];exact h3
  rw [if_neg h3];show In64 0;unfold In64;omega
theorem twoS_in {o a b:Int} (ha:In64 a) (hb:In64 b):In64 (twoS o a b).1:=by
  have h0:In64 0:=by unfold In64;omega
  have e:∀x,In64 (exS x).1:=fun x=>by
    unfold exS
    by_cases h:In64 x
    · rw [if_pos h];exact h
    · rw [if_neg h];exact h0
  have e1:∀(p:Prop) [Decidable p],In64 (b01 p).1:=fun p _=>by
    show In64 (if p then 1 else 0)
    split<;>(unfold In64;omega)
  unfold twoS
  by_cases h4:o=4
  · rw [if_pos h4]
    show In64 (min a b);unfold In64 at *;omega
  rw [if_neg h4]
  by_cases h5:o=5
  · rw [if_pos h5]
    show In64 (max a b);unfold In64 at *;omega
  rw [if_neg h5]
  by_cases h11:o=11
  · rw [if_pos h11]
    exact e1 _
  rw [if_neg h11]
  by_cases h12:o=12
  · rw [if_pos h12]
    exact e1 _
  rw [if_neg h12]
  by_cases h13:o=13
  · rw [if_pos h13]
    exact e1 _
  rw [if_neg h13]
  by_cases h14:o=14
  · rw [if_pos h14]
    exact e1 _
  rw [if_neg h14]
  by_cases h15:o=15
  · rw [if_pos h15]
    exact e1 _
  rw [if_neg h15]
  by_cases h16:o=16
  · rw [if_pos h16]
    exact e1 _
  rw [if_neg h16]
  by_cases h7:o=7
  · rw [if_pos h7]
    exact e _
  rw [if_neg h7]
  by_cases h8:o=8
  · rw [if_pos h8]
    exact e _
  rw [if_neg h8]
  by_cases h9:o=9
  · rw [if_pos h9]
    by_cases hb0:b=0
    · rw [if_pos hb0];exact h0
    · rw [if_neg hb0];exact e _
  rw [if_neg h9]
  by_cases h10:o=10
  · rw [if_pos h10]
    by_cases hb0:b=0
    · rw [if_pos hb0];exact h0
    · rw [if_neg hb0];exact tmod_in ha hb hb0
  rw [if_neg h10]
  exact e _
theorem step_in {t:Table} {regs:List Int} {w:Snap} {a a':Int} {S S':List Int} (hc:∀n∈t.consts.l,In64 n) (hr:∀n∈regs,In64 n) (hw:w.Ok) (hS:∀v∈S,In64 v) (h:insF t regs w a S=.go a' S'):∀v∈S',In64 v:=by
  have h0:In64 0:=by unfold In64;omega
  have gd:∀(l:List Int),(∀n∈l,In64 n)→∀i,In64 (l.getD i 0):=fun l hl i=>by
    rw [List.getD_eq_getElem?_getD]
    cases hi:l[i]? with
    | none=>exact h0
    | some x=>exact hl x (List.mem_of_getElem? hi)
  have cons:∀ {v:Int} {S:List Int},In64 v→(∀v∈S,In64 v)→∀u∈v::S,In64 u:=fun hv hS u hu=>by
    rcases List.mem_cons.1 hu with rfl|hu
    · exact hv
    · exact hS u hu
  unfold insF at h
  generalize codeAt t a=x at h
  simp only at h
  split at h
  · injection h with h1 h2;subst h2;exact cons (gd _ hc _) hS
  split at h
  · injection h with h1 h2;subst h2;exact cons (gd _ hr _) hS
  split at h
  · injection h with h1 h2;subst h2;refine cons ?_ hS;split<;>(unfold In64;omega)
  split at h
  · split at h
    · cases h
    · injection h with h1 h2;subst h2;exact cons (hw.get _) hS
  split at h
  · split at h
    · split at h
      · rename_i b S
        unfold pushF at h
        split at h
        · injection h with h1 h2;subst h2;exact cons (oneS_in (hS b (by simp))) fun v hv=>hS v (by simp [hv])
        · cases h
      · cases h
    · split at h
      · rename_i b c S
        unfold pushF at h
        split at h
        · injection h with h1 h2;subst h2;exact cons (twoS_in (hS c (by simp)) (hS b (by simp))) fun v hv=>hS v (by simp [hv])
        · cases h
      · cases h
  split at h
  · split at h
    · split at h
      · injection h with h1 h2;subst h2;exact hS
      · injection h with h1 h2;subst h2;exact fun v hv=>hS v (by simp [hv])
    · cases h
  split at h
  · split at h
    · split at h
      · injection h with h1 h2;subst h2;exact fun v hv=>hS v (by simp [hv])
      · injection h with h1 h2;subst h2;exact fun v hv=>hS v (by simp [hv])
    · cases h
  injection h with h1 h2;subst h2;exact hS
def resV (q:Int×Int×Int):AV:=.tup [.int .i64 q.1,.int .i64 q.2.1,.int .i64 q.2.2]
end Go.Proofs.YtoegffiapnnkiaaGreat.Abs
