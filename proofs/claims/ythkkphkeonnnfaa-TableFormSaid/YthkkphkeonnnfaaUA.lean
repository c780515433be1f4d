/- Chapter 19: what its functions come to, one by one, for every table. No condition but those that each theorem names. -/
import Derived.Test.YthkkphkeonnnfaaTI
import Derived.Test.YthkkphkeonnnfaaTIb
import Derived.Test.YthkkphkeonnnfaaTJ
import Derived.Test.YthkkphkeonnnfaaTQ
import Derived.Test.YthkkphkeonnnfaaTU
import Derived.Test.YthkkphkeonnnfaaWV
import Derived.Test.YthkkphkeonnnfaaAbsK19
namespace Go.Proofs.Ythkkphkeonnnfaa.Abs
open Go Go.RowKit
set_option linter.unusedVariables false
set_option linter.unusedSimpArgs false
set_option maxRecDepth 100000
theorem rowR_c {g : Cg} {V : K → Option (List AV)} (hp : Plain g 78 = true) (hi : Plain g 92 = true) (hh : Plain g 60 = true) {t : Table} (ht : t.Ok V) (x : Row) (n : Int) :
    Cl Try.prog g V 78 [t.v, x.v, .int .i64 n] [] fun o _ => o = .ret (placeI (RowAt t x n)) := by
  by_cases h1 : x.k = 1
  · exact rowR_1 hp hi hh ht x n (by by_cases h2 : x.o = 2; exact .inl ⟨h1, h2⟩; exact .inr ⟨h1, h2⟩)
  · exact rowR_2 hp hi hh ht x n (by omega)
/-- 'caught', and the closed call that is known. -/
noncomputable def G19 : Cg := ⟨25, 93, [⟨10, [], .z, .bool true, [], .z, true⟩]⟩
theorem G19_ok : ∀ m ∈ G19.ms, MemoS Try.prog m := by
  intro m hm
  have hm : m ∈ [(⟨10, [], .z, .bool true, [], .z, true⟩ : Memo)] := hm
  rw [List.mem_singleton] at hm
  subst hm
  exact memo_pure ⟨_, Try.func10, rfl⟩ (fun _ => rfl) awake19.calls
variable {V : K → Option (List AV)} {t : Table}
theorem awakeC : Cl Try.prog G19 V 10 [] [] fun o _ => o = .ret (.bool true) := Cl.memo rfl rfl rfl rfl rfl
theorem nameC (V : K → Option (List AV)) (hr : t.Room) : Cl Try.prog G19 V 50 [.str t.name] [] fun o _ => o = .ret (.bool (NameS t.name)) :=
  name_c rfl rfl rfl rfl rfl rfl rfl rfl rfl rfl hr.name.2 (by have := hr.name.1; omega)
theorem nameRC (V : K → Option (List AV)) (hr : t.Room) : Cl Try.prog G19 V 56 [.str t.name] [] fun o _ => o = .ret (.bool (NameS t.name)) :=
  nameR_c rfl rfl rfl rfl rfl rfl hr.name.2 (by have := hr.name.1; omega)
theorem checkC (ht : t.Ok V) (hr : t.Room) : Cl Try.prog G19 V 13 [t.v] [] fun o _ => o = .ret (.int .i64 ((checkS t).getD 0)) :=
  check_c ⟨rfl, rfl, rfl, rfl, rfl, rfl, rfl, rfl, rfl, rfl, rfl⟩ rfl rfl rfl rfl rfl ht fun V => nameC V hr
theorem spanRC (ht : t.Ok V) (h3 : t.code.l.length ≤ 4096) {f z : Int} (h0 : 0 ≤ f) (h1 : f < z) (h2 : z ≤ t.code.l.length) : Cl Try.prog G19 V 33 [t.v, .agg [.int .i64 f, .int .i64 z]] [] fun o _ => o = .ret (.int .i64 ((spanS t f z).getD 0)) :=
  spanR_c rfl rfl rfl rfl rfl ht h0 h1 h2 h3
theorem checkRC (ht : t.Ok V) (hr : t.Room) : Cl Try.prog G19 V 15 [t.v] [] fun o _ => o = .ret (.int .i64 ((checkS t).getD 0)) :=
  checkR_c rfl rfl ht (formedR_c rfl ht (nameRC V hr) fun x n hx => guardR_c rfl hx (fun r n => rowR_c rfl rfl rfl ht r n) n) (fun h3 f z h0 h1 h2 => spanRC ht h3 h0 h1 h2)
    (fun h3 x hx => rowsR_c rfl rfl x fun y hy => by have := hx y hy; exact spanRC ht h3 this.1 this.2.1 this.2.2)
theorem farC (ht : t.Ok V) : Cl Try.prog G19 V 11 [t.v] [] fun o _ => ∃ v, o = .ret v ∧ ∃ b : Bool, v = .bool b :=
  (far_c rfl rfl ht).mono fun o _ h => by obtain ⟨b, h⟩ := h; exact ⟨_, h, b, rfl⟩
end Go.Proofs.Ythkkphkeonnnfaa.Abs
