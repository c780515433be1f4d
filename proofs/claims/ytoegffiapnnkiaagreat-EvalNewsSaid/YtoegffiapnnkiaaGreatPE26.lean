/- Parts of one proof. No condition but those that each theorem names. -/
import Derived.Test.YtoegffiapnnkiaaGreatPE02
import Derived.Test.YtoegffiapnnkiaaGreatPE14
import Derived.Test.YtoegffiapnnkiaaGreatPE15
import Derived.Test.YtoegffiapnnkiaaGreatPE16
import Derived.Test.YtoegffiapnnkiaaGreatPE22
import Derived.Test.YtoegffiapnnkiaaGreatPE24
import Derived.Test.YtoegffiapnnkiaaGreatPE25
namespace Go.Proofs.YtoegffiapnnkiaaGreat.Abs
open Go Go.RowKit
set_option maxRecDepth 100000
noncomputable def srcM:Memo:=⟨106,[.str [115,116,114,97,116,101,103,121,32,115,32,123,32,114,101,103,32,110,32,105,110,116,32,61,32,45,50,59,32,115,108,111,116,32,111,59,32,115,116,97,116,101,32,97,32,123,32,119,104,101,110,32,104,97,115,32,98,105,100,32,38,38,32,110,32,60,32,51,32,100,111,32,115,117,98,109,105,116,32,98,117,121,32,111,102,32,50,113,32,97,116,32,98,105,100,32,108,105,109,105,116,32,97,115,32,111,44,32,115,101,116,32,110,32,61,32,110,32,43,32,49,44,32,103,111,116,111,32,98,59,32,125,32,115,116,97,116,101,32,98,32,123,125,32,125]],.o .z,.tup [.agg [.str [115],.slice (some ((.o (.i (.i (.i (.o (.i (.o (.i (.i (.o .z)))))))))),0)) 1 (.own 0),.int .i64 1,.slice (some ((.i (.i (.o (.i (.i (.i (.i (.i (.i (.o .z)))))))))),0)) 3 (.own 0),.slice (some ((.i (.o (.o (.o (.i (.i (.o (.o (.o (.i .z)))))))))),0)) 11 (.own 0),.slice (some ((.i (.i (.i (.o (.o (.o (.i (.o (.o (.i .z)))))))))),0)) 2 (.own 0)],.agg [.int .i64 11,.int .i64 1],.int .i64 0,.int .i64 0],
  [((.o (.i (.i (.i (.o (.i (.o (.i (.i (.o .z)))))))))),.cells [.int .i64 (-2)] 2 1 false),
   ((.i (.i (.o (.i (.i (.i (.i (.i (.i (.o .z)))))))))),.cells [.int .i64 3,.int .i64 1,.int .i64 2] 2 1 false),
   ((.i (.o (.o (.o (.i (.i (.o (.o (.o (.i .z)))))))))),.cells [.int .u8 3,.int .i64 1,.int .u8 6,.int .i64 5,.int .u8 4,.int .i64 0,.int .u8 1,.int .i64 0,.int .u8 5,.int .i64 13,.int .u8 1,.int .i64 1,.int .u8 1,.int .i64 2,.int .u8 2,.int .i64 1,.int .u8 4,.int .i64 0,.int .u8 1,.int .i64 1,.int .u8 5,.int .i64 6] 86 2 false),
   ((.i (.o (.o (.o (.o (.o (.i (.o (.o (.i .z)))))))))),.cells [.int .u8 1,.int .u8 1,.int .i64 1,.int .i64 5,.int .i64 6,.int .i64 6,.int .i64 7,.int .i64 7,.int .i64 8,.int .i64 0,.int .i64 0,.int .u8 4,.int .u8 0,.int .i64 0,.int .i64 0,.int .i64 0,.int .i64 0,.int .i64 0,.int .i64 0,.int .i64 0,.int .i64 8,.int .i64 11,.int .u8 5,.int .u8 0,.int .i64 1,.int .i64 0,.int .i64 0,.int .i64 0,.int .i64 0,.int .i64 0,.int .i64 0,.int .i64 0,.int .i64 0] 148 11 false),
   ((.i (.i (.o (.o (.o (.o (.i (.o (.o (.i .z)))))))))),.cells [.int .i64 0,.int .i64 5,.int .u16 2,.int .u16 1,.slice (some ((.i (.o (.o (.o (.o (.o (.i (.o (.o (.i .z)))))))))),0)) 3 (.own 0)] 132 5 false),
   ((.i (.i (.i (.o (.o (.o (.i (.o (.o (.i .z)))))))))),.cells [.slice (some ((.i (.i (.o (.o (.o (.o (.i (.o (.o (.i .z)))))))))),0)) 1 (.own 0),.slice none 0 (.ex 0)] 129 1 false)],(.i (.o (.i (.i (.o (.i (.i (.i (.i (.i .z)))))))))),false⟩
theorem srcM_ok:memoOk Tryz.prog ⟨107,271,[]⟩ 3000 srcM=true:=by decide +kernel
theorem srcMs:∀m∈[srcM],MemoS Tryz.prog m:=fun m hm=>by
  rw [List.mem_singleton] at hm
  subst hm
  exact memo_of (callsS [] (fun _ h=>by cases h) 3000) srcM_ok
end Go.Proofs.YtoegffiapnnkiaaGreat.Abs
namespace Go.Proofs.YtoegffiapnnkiaaGreat.Abs
open Go Go.RowKit
set_option linter.unusedVariables false
set_option linter.unusedSimpArgs false
set_option maxRecDepth 100000
theorem rowR_c {g:Cg} {V:K→Option (List AV)} (hp:Plain g 164=true) (hi:Plain g 189=true) (hh:Plain g 129=true) {t:Table} (ht:t.Ok V) (x:Row) (n:Int) :
    Cl Tryz.prog g V 164 [t.v,x.v,.int .i64 n] [] fun o _=>o=.ret (placeI (RowAt t x n)):=by
  by_cases h1:x.k=1
  · exact rowR_1 hp hi hh ht x n (by by_cases h2:x.o=2;exact .inl ⟨h1,h2⟩;exact .inr ⟨h1,h2⟩)
  · exact rowR_2 hp hi hh ht x n (by omega)
theorem conc_nil {μ:K→Option Loc}:concL μ []=some []:=rfl
theorem conc_cons {μ:K→Option Loc} {v:AV} {c:Value} {l:List AV} {cs:List Value} (h:conc μ v=some c) (k:concL μ l=some cs):concL μ (v::l)=some (c::cs):=by
  simp only [concL,h,k];rfl
variable {V:K→Option (List AV)} {t:Table}
end Go.Proofs.YtoegffiapnnkiaaGreat.Abs
