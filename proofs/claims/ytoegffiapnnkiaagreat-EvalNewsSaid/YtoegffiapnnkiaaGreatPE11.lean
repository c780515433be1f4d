/- Parts of one proof. No condition but those that each theorem names. -/
import Derived.Test.YtoegffiapnnkiaaGreatPE06
import Derived.Tactics
namespace Go.Proofs.YtoegffiapnnkiaaGreat.Abs
open Go
set_option linter.unusedVariables false
set_option linter.unusedSimpArgs false
set_option maxRecDepth 100000
set_option maxHeartbeats 4000000
attribute [local irreducible] W Cl Bd
variable {g:Cg} {V:K→Option (List AV)}
def smallI (c:Int):Bool:=decide (97≤c∧c≤122)
def innerI (c:Int):Bool:=decide ((97≤c∧c≤122)∨(48≤c∧c≤57)∨c=95)
def wordsS:List (List Nat):=[[97,98,115],[97,109,101,110,100],[97,115],[97,115,107],[97,116],[98,105,100],[98,111,111,108],[98,117,121],[99,97,110,99,101,108],[100,111],[102,97,108,115,101],[102,111,107],[103,111,116,111],[104,97,108,116],[104,97,115],[105,110,116],[105,111,99],[108,97,115,116],[108,105,109,105,116],[109,97,114,107,101,116],[109,97,120],[109,105,110],[110,111,119],[111,102],[111,112,101,110],[112,111,115,116],[112,114,105,99,101],[113,116,121],[114,101,103],[115,101,108,108],[115,101,116],[115,105,100,101],[115,108,111,116],[115,116,97,116,101],[115,116,114,97,116,101,103,121],[115,117,98,109,105,116],[116,105,109,101],[116,111],[116,114,117,101],[118,111,108,117,109,101],[119,104,101,110]]
def NameS (s:List Nat):Bool:=decide (1≤s.length∧s.length≤16)&&smallI (s.headD 0:Nat)&&!(wordsS.contains s)&&s.all fun c=>innerI (c:Nat)
theorem small_c (hp:Plain g 175=true) (c:Int):Cl Tryz.prog g V 175 [.int .u8 c] [] fun o _=>o=.ret (.bool (smallI c)):=by
  refine Cl.enter hp Tryz.func175 rfl ?_
  repeat' first|(with_reducible first|refine za ?_|refine zb ?_|refine zc ?_)|refine ym zr ?_|with_reducible refine zj ?_|refine zx zr zr zr ?_|(refine W.gs zr zr zr zr ?_ ?_<;>intro _)|refine W.done zr ?_
  all_goals show RO.ret (AV.bool _)=RO.ret (AV.bool _)
  all_goals congr 2
  all_goals simp [smallI, *]
theorem letter_c (hp:Plain g 162=true) (c:Int):Cl Tryz.prog g V 162 [.int .u8 c] [] fun o _=>o=.ret (.bool (smallI c)):=by
  refine Cl.enter hp Tryz.func162 rfl ?_
  repeat' first|(with_reducible first|refine za ?_|refine zb ?_|refine zc ?_)|refine ym zr ?_|with_reducible refine zj ?_|refine zx zr zr zr ?_|(refine W.gs zr zr zr zr ?_ ?_<;>intro _)|refine W.done zr ?_
  all_goals show RO.ret (AV.bool _)=RO.ret (AV.bool _)
  all_goals congr 2
  all_goals simp [smallI, *]
theorem digit_c (hp:Plain g 207=true) (c:Int):Cl Tryz.prog g V 207 [.int .u8 c] [] fun o _=>o=.ret (.bool (decide (48≤c∧c≤57))):=by
  refine Cl.enter hp Tryz.func207 rfl ?_
  repeat' first|(with_reducible first|refine za ?_|refine zb ?_|refine zc ?_)|refine ym zr ?_|with_reducible refine zj ?_|refine zx zr zr zr ?_|(refine W.gs zr zr zr zr ?_ ?_<;>intro _)|refine W.done zr ?_
  all_goals show RO.ret (AV.bool _)=RO.ret (AV.bool _)
  all_goals congr 2
  all_goals simp [*]
theorem digitR_c (hp:Plain g 188=true) (c:Int):Cl Tryz.prog g V 188 [.int .u8 c] [] fun o _=>o=.ret (.bool (decide (48≤c∧c≤57))):=by
  refine Cl.enter hp Tryz.func188 rfl ?_
  repeat' first|(with_reducible first|refine za ?_|refine zb ?_|refine zc ?_)|refine ym zr ?_|with_reducible refine zj ?_|refine zx zr zr zr ?_|(refine W.gs zr zr zr zr ?_ ?_<;>intro _)|refine W.done zr ?_
  all_goals show RO.ret (AV.bool _)=RO.ret (AV.bool _)
  all_goals congr 2
  all_goals simp [*]
theorem inner_c (hp:Plain g 177=true) (hs:Plain g 175=true) (hd:Plain g 207=true) (c:Int):Cl Tryz.prog g V 177 [.int .u8 c] [] fun o _=>o=.ret (.bool (innerI c)):=by
  refine Cl.enter hp Tryz.func177 rfl ?_
  repeat' first|refine W.callP rfl rfl rfl rfl (small_c hs _) ?_|refine W.callP rfl rfl rfl rfl (digit_c hd _) ?_|(with_reducible first|refine za ?_|refine zb ?_|refine zc ?_)|refine ym zr ?_|with_reducible refine zj ?_|refine zx zr zr zr ?_|(refine W.gs zr zr zr zr ?_ ?_<;>intro _)|refine W.done zr ?_
  all_goals show RO.ret (AV.bool _)=RO.ret (AV.bool _)
  all_goals congr 2
  all_goals (by_cases h1:97≤c∧c≤122<;>by_cases h2:48≤c∧c≤57<;>simp_all [innerI,smallI])
  all_goals (rw [Bool.eq_iff_iff];simp;omega)
theorem goes_c (hp:Plain g 163=true) (hs:Plain g 162=true) (hd:Plain g 188=true) (c:Int):Cl Tryz.prog g V 163 [.int .u8 c] [] fun o _=>o=.ret (.bool (innerI c)):=by
  refine Cl.enter hp Tryz.func163 rfl ?_
  repeat' first|refine W.callP rfl rfl rfl rfl (letter_c hs _) ?_|refine W.callP rfl rfl rfl rfl (digitR_c hd _) ?_|(with_reducible first|refine za ?_|refine zb ?_|refine zc ?_)|refine ym zr ?_|with_reducible refine zj ?_|refine zx zr zr zr ?_|(refine W.gs zr zr zr zr ?_ ?_<;>intro _)|refine W.done zr ?_
  all_goals show RO.ret (AV.bool _)=RO.ret (AV.bool _)
  all_goals congr 2
  all_goals (by_cases h1:97≤c∧c≤122<;>by_cases h2:48≤c∧c≤57<;>simp_all [innerI,smallI])
  all_goals (rw [Bool.eq_iff_iff];simp;omega)
theorem eqN_refl:∀(s:List Nat),eqN s s=true
  | []=>rfl
  | x::s=>by
    show @Bool.rec (fun _=>Bool) false (eqN s s) (Nat.beq (x%256) (x%256))=true
    rw [show Nat.beq (x%256) (x%256)=true from Nat.beq_refl _];exact eqN_refl s
theorem nan1_c (hp:Plain g 232=true) (s:List Nat):Cl Tryz.prog g V 232 [.str s] [] fun o _=>o=.ret (.bool false):=by
  have h:=eqN_refl s
  refine Cl.enter hp Tryz.func232 rfl ?_
  repeat' first|(with_reducible first|refine za ?_|refine zb ?_|refine zc ?_)|refine ym zr ?_|with_reducible refine zj ?_|refine W.done zr ?_
  rw [h];rfl
theorem nan2_c (hp:Plain g 254=true) (s:List Nat):Cl Tryz.prog g V 254 [.str s] [] fun o _=>o=.ret (.bool false):=by
  have h:=eqN_refl s
  refine Cl.enter hp Tryz.func254 rfl ?_
  repeat' first|(with_reducible first|refine za ?_|refine zb ?_|refine zc ?_)|refine ym zr ?_|with_reducible refine zj ?_|refine W.done zr ?_
  rw [h];rfl
theorem less_c (hp:Plain g 231=true) (hn:Plain g 254=true) (s u:List Nat):Cl Tryz.prog g V 231 [.str s,.str u] [] fun o _=>o=.ret (.bool (ltN s u)):=by
  refine Cl.enter hp Tryz.func231 rfl ?_
  repeat' first|refine W.callP rfl rfl rfl rfl (nan2_c hn _) ?_|(with_reducible first|refine za ?_|refine zb ?_|refine zc ?_)|refine ym zr ?_|with_reducible refine zj ?_|refine zx zr zr zr ?_|refine W.done zr ?_
  all_goals rfl
theorem words_c (hp:Plain g 206=true):Cl Tryz.prog g V 206 [] [] fun o Δ=>∃i,o=.ret (.slice (some (i,0)) 41 (.ex 41))∧Δ=[(i,.cells (wordsS.map AV.str) 9 1 true)]:=by
  refine Cl.enter hp Tryz.func206 rfl ?_
  repeat' first|(refine W.bsl tblOk rfl rfl rfl rfl (by decide) rfl rfl rfl ?_;intro i_)|(with_reducible first|refine za ?_|refine zb ?_|refine zc ?_)|refine ym zr ?_|with_reducible refine zj ?_|refine W.done zr ?_
  exact ⟨i_,rfl,by kernel_rfl⟩
theorem wordsR_c (hp:Plain g 187=true):Cl Tryz.prog g V 187 [] [] fun o Δ=>∃i,o=.ret (.slice (some (i,0)) 41 (.ex 41))∧Δ=[(i,.cells (wordsS.map AV.str) 9 1 true)]:=by
  refine Cl.enter hp Tryz.func187 rfl ?_
  repeat' first|(refine W.bsl tblOk rfl rfl rfl rfl (by decide) rfl rfl rfl ?_;intro i_)|(with_reducible first|refine za ?_|refine zb ?_|refine zc ?_)|refine ym zr ?_|with_reducible refine zj ?_|refine W.done zr ?_
  exact ⟨i_,rfl,by kernel_rfl⟩
theorem ltN_cons (x y:Nat) (a b:List Nat):ltN (x::a) (y::b)=(decide (x%256<y%256)||(decide (x%256=y%256)&&ltN a b)):=by
  simp only [ltN]
  cases h1:Nat.blt (x%256) (y%256) with
  | true=>have:=Nat.blt_eq.mp h1;simp [this]
  | false =>
    have h2:¬x%256<y%256:=fun h=>by rw [Nat.blt_eq.mpr h] at h1;cases h1
    cases h3:Nat.beq (x%256) (y%256) with
    | true=>have:=Nat.beq_eq.mp h3;simp [h2,this]
    | false =>
      have h4:¬x%256=y%256:=fun h=>by rw [h,Nat.beq_refl] at h3;cases h3
      simp [h2,h4]
theorem ltN_nil (a:List Nat):ltN a []=false:=by cases a<;>rfl
theorem ltN_trans:∀(a b c:List Nat),ltN a b=true→ltN b c=true→ltN a c=true
  | a,[],c,h,_=>by rw [ltN_nil] at h;cases h
  | a,y::b,[],_,h=>by rw [ltN_nil] at h;cases h
  | [],y::b,z::c,_,_=>rfl
  | x::a,y::b,z::c,h1,h2=>by
    rw [ltN_cons] at h1 h2 ⊢
    simp only [Bool.or_eq_true,Bool.and_eq_true,decide_eq_true_eq] at h1 h2 ⊢
    rcases h1 with h1|⟨h1,h3⟩
    · rcases h2 with h2|⟨h2,h4⟩
      · exact .inl (by omega)
      · exact .inl (by omega)
    · rcases h2 with h2|⟨h2,h4⟩
      · exact .inl (by omega)
      · exact .inr ⟨by omega,ltN_trans a b c h3 h4⟩
theorem ltN_irrefl:∀(a:List Nat),ltN a a=false
  | []=>rfl
  | x::a=>by rw [ltN_cons,ltN_irrefl a];simp
theorem eqN_iff:∀(a b:List Nat),(∀c∈a,c<256)→(∀c∈b,c<256)→(eqN a b=true↔a=b)
  | [],[],_,_=>by simp [eqN]
  | [],y::b,_,_=>by simp [eqN]
  | x::a,[],_,_=>by simp [eqN]
  | x::a,y::b,h1,h2=>by
    have ih:=eqN_iff a b (fun c hc=>h1 c (by simp [hc])) (fun c hc=>h2 c (by simp [hc]))
    have e1:x%256=x:=Nat.mod_eq_of_lt (h1 x (by simp))
    have e2:y%256=y:=Nat.mod_eq_of_lt (h2 y (by simp))
    show (@Bool.rec (fun _=>Bool) false (eqN a b) (Nat.beq (x%256) (y%256))=true)↔_
    rw [e1,e2]
    cases h:Nat.beq x y with
    | true=>have:=Nat.beq_eq.mp h;subst this;simpa using ih
    | false =>
      have:¬x=y:=fun e=>by rw [e,Nat.beq_refl] at h;cases h
      simp [this]
theorem words_sorted:∀i j:Fin 41,i<j→ltN (wordsS.getD i []) (wordsS.getD j [])=true:=by decide +kernel
theorem words_len:wordsS.length=41:=by decide
theorem words_small:∀w∈wordsS,∀c∈w,c<256:=by decide +kernel
def wd (i:Nat):List Nat:=wordsS.getD i []
theorem wd_lt {i j:Nat} (h:i<j) (hj:j<41):ltN (wd i) (wd j)=true:=words_sorted ⟨i,by omega⟩ ⟨j,hj⟩ h
theorem wd_cell {i:Nat} (h:i<41):getL (wordsS.map AV.str) i=some (.str (wd i)):=by
  rw [getL_eq,List.getElem?_map,List.getElem?_eq_getElem (by rw [words_len];exact h),wd,List.getD_eq_getElem?_getD,List.getElem?_eq_getElem (by rw [words_len];exact h)]
  rfl
theorem mem_wd {s:List Nat} (h:s∈wordsS):∃i,i<41∧wd i=s:=by
  obtain ⟨i,hi,e⟩:=List.getElem_of_mem h
  rw [words_len] at hi
  exact ⟨i,hi,by rw [wd,List.getD_eq_getElem?_getD,List.getElem?_eq_getElem (by rw [words_len];exact hi)];exact e⟩
theorem wd_mem {i:Nat} (h:i<41):wd i∈wordsS:=by
  rw [wd,List.getD_eq_getElem?_getD,List.getElem?_eq_getElem (by rw [words_len];exact h)]
  exact List.getElem_mem _
theorem word_at {s:List Nat} {lo:Nat} (hs:∀c∈s,c<256) (hlo:lo≤41) (h1:∀k,k<lo→ltN (wd k) s=true) (h2:∀k,lo≤k→k<41→ltN (wd k) s=false):wordsS.contains s=(decide (lo<41)&&eqN (wd lo) s):=by
  rw [Bool.eq_iff_iff]
  simp only [List.contains_iff_mem,Bool.and_eq_true,decide_eq_true_eq]
  constructor
  · intro h
    obtain ⟨k,hk,rfl⟩:=mem_wd h
    have e:k=lo:=by
      rcases Nat.lt_trichotomy k lo with h3|h3|h3
      · have:=h1 k h3;rw [ltN_irrefl] at this;cases this
      · exact h3
      · have h4:=wd_lt h3 hk;rw [h2 lo (by omega) (by omega)] at h4;cases h4
    subst e
    exact ⟨hk,eqN_refl _⟩
  · rintro ⟨h3,h4⟩
    rw [←(eqN_iff _ _ (words_small _ (wd_mem h3)) hs).1 h4]
    exact wd_mem h3
theorem bsearch_c (hp:Plain g 205=true) (hl:Plain g 231=true) (hn:Plain g 254=true) (hn2:Plain g 232=true) {i:K} (hV:V i=some (wordsS.map AV.str)) {s:List Nat} (hs:∀c∈s,c<256) :
    Cl Tryz.prog g V 205 [.slice (some (i,0)) 41 (.ex 41),.str s] [] fun o _=>∃lo,o=.ret (.tup [lo,.bool (wordsS.contains s)]):=by
  refine Cl.enter hp Tryz.func205 rfl ?_
  repeat first|(with_reducible first|refine za ?_|refine zb ?_|refine zc ?_)|refine ym zr ?_|with_reducible refine ze ?_
  refine W.loopR (α:={ p:Nat×Nat // p.1≤p.2∧p.2≤41∧(∀k,k<p.1→ltN (wd k) s=true)∧∀k,p.2≤k→k<41→ltN (wd k) s=false }) (fun p=>p.1.2-p.1.1) (fun p=>[(0,_),(1,_),(6,_),(7,.int .i64 (p.1.1:Nat)),(8,.int .i64 (p.1.2:Nat))]) (fun _=>_) ⟨(0,41),by omega,by omega,fun k h=>by omega,fun k h h'=>by omega⟩ ⟨rfl,rfl,rfl,rfl,rfl⟩ (List.Sublist.refl _) ?_
  rintro ⟨⟨lo,hi⟩,h0,h1,h2,h3⟩ ih
  simp only at ih h0 h1 h2 h3 ⊢
  repeat first|(with_reducible first|refine za ?_|refine zb ?_|refine zc ?_)|refine ym zr ?_
  refine W.condP rfl ?_ ?_<;>intro hlt
  · have hlt:lo<hi:=by omega
    have em:IntKind.i64.wrap ((IntKind.u64.wrap (IntKind.i64.wrap ((lo:Int)+hi))).fdiv (2^(min (1:Int).toNat IntKind.u64.bits)))=(((lo+hi)/2:Nat):Int):=by
      rw [w64 (n:=(lo:Int)+hi) (by omega) (by omega),wrap_in .u64 _ (by simp only [isSig,if_false,Bool.false_eq_true];omega) (by simp only [lim];omega)]
      have:((lo:Int)+hi).fdiv (2^(min (1:Int).toNat IntKind.u64.bits))=(((lo+hi)/2:Nat):Int):=by
        rw [show (2^(min (1:Int).toNat IntKind.u64.bits):Int)=2 from rfl,Int.fdiv_eq_ediv_of_nonneg _ (by omega)];omega
      rw [this]
      exact w64 (by omega) (by omega)
    have hc:partG tbl 9 (wordsS.map AV.str) (0+(((lo+hi)/2:Nat):Int).toNat * 1)=some (.str (wd ((lo+hi)/2))):=by
      have:0+(((lo+hi)/2:Nat):Int).toNat * 1=(lo+hi)/2:=by omega
      rw [this];exact wd_cell (by omega)
    have ew:IntKind.i64.wrap ((((lo+hi)/2:Nat):Int)+1)=(((lo+hi)/2+1:Nat):Int):=by rw [w64 (by omega) (by omega)];omega
    repeat first|refine W.shr rfl rfl rfl rfl (by decide) ?_|(with_reducible first|refine za ?_|refine zb ?_|refine zc ?_)|refine ym zr ?_|(with_reducible first|refine zd ?_|refine ze ?_)
    rw [em]
    repeat' first|refine W.ia tblOk rfl rfl rfl rfl rfl rfl rfl (by omega) (by omega) ?_|refine W.ldV tblOk rfl rfl rfl hV hc ?_|refine W.callP rfl rfl rfl rfl (less_c hl hn _ _) ?_|(with_reducible first|refine zb ?_|refine zc ?_)|refine ym zr ?_|with_reducible refine zf ?_|(refine W.cond zr ?_ ?_<;>intro _)
    · rw [ew]
      have h9:=ih ⟨((lo+hi)/2+1,hi),by show (lo+hi)/2+1≤hi;omega,h1,fun k hk=>by
        rcases Nat.lt_or_ge k ((lo+hi)/2) with h|h
        · exact ltN_trans _ _ _ (wd_lt h (by omega)) ‹_›
        · have:k=(lo+hi)/2:=by have:k<(lo+hi)/2+1:=hk;omega
          rw [this];assumption,h3⟩ (by show hi-((lo+hi)/2+1)<hi-lo;omega)
      refine W.weak _ _ ?_ ?_ h9
      · exact ⟨rfl,rfl,rfl,rfl,rfl⟩
      · exact List.Sublist.refl _
    · have h9:=ih ⟨(lo,(lo+hi)/2),by show lo≤(lo+hi)/2;omega,by show (lo+hi)/2≤41;omega,h2,fun k hk hk'=>by
        rcases Nat.lt_or_ge ((lo+hi)/2) k with h|h
        · refine Bool.eq_false_iff.2 fun h4=>?_
          have:=ltN_trans _ _ _ (wd_lt h hk') h4
          simp_all
        · have:k=(lo+hi)/2:=by have:(lo+hi)/2≤k:=hk;omega
          rw [this];assumption⟩ (by show (lo+hi)/2-lo<hi-lo;omega)
      refine W.weak _ _ ?_ ?_ h9
      · exact ⟨rfl,rfl,rfl,rfl,rfl⟩
      · exact List.Sublist.refl _
  · have e:hi=lo:=by omega
    subst e
    have hw:=word_at hs h1 h2 h3
    have hc:hi<41→partG tbl 9 (wordsS.map AV.str) (0+((hi:Nat):Int).toNat * 1)=some (.str (wd hi)):=fun h=>by
      have:0+((hi:Nat):Int).toNat * 1=hi:=by omega
      rw [this];exact wd_cell h
    repeat' first|refine W.ia tblOk rfl rfl rfl rfl rfl rfl rfl (by omega) (by omega) ?_|refine W.ldV tblOk rfl rfl rfl hV (hc (by omega)) ?_|refine W.callP rfl rfl rfl rfl (nan1_c hn2 _) ?_|(with_reducible first|refine za ?_|refine zb ?_|refine zc ?_)|refine ym zr ?_|(with_reducible first|refine zg ?_|refine zh ?_|refine zi ?_|refine zj ?_)|refine zx zr zr zr ?_|(refine W.gs zr zr zr zr ?_ ?_<;>intro _)|(refine W.gsB zr zr zr zr ?_ ?_<;>intro _)|refine W.done zr ?_
    · refine ⟨.int .i64 (hi:Nat),?_⟩;rw [hw,decide_eq_true (by omega),‹eqN _ _=true›];rfl
    · refine ⟨.int .i64 (hi:Nat),?_⟩;rw [hw,decide_eq_true (by omega),‹eqN _ _=false›];rfl
    · refine ⟨.int .i64 (hi:Nat),?_⟩;rw [hw,decide_eq_false (by omega)];rfl
theorem word_c (hp:Plain g 176=true) (hw:Plain g 206=true) (hb:Plain g 205=true) (hl:Plain g 231=true) (hn:Plain g 254=true) (hn2:Plain g 232=true) {s:List Nat} (hs:∀c∈s,c<256) :
    Cl Tryz.prog g V 176 [.str s] [] fun o _=>o=.ret (.bool (wordsS.contains s)):=by
  refine Cl.enter hp Tryz.func176 rfl ?_
  repeat first|(with_reducible first|refine za ?_|refine zb ?_|refine zc ?_)|refine ym zr ?_
  refine W.callR (Δ:=[]) (R:=[]) rfl rfl rfl rfl (words_c hw) ?_ ?_
  · rintro v Δ' ⟨i,hv,-⟩;cases hv
  rintro v Δ' ⟨i,hv,rfl⟩
  injection hv with hv;subst hv
  repeat first|refine ym zr ?_
  refine W.callL rfl rfl rfl rfl (bsearch_c (i:=i) hb hl hn hn2 ?_ hs) ?_ ?_
  · show (if i=i then _ else _)=_
    rw [if_pos rfl];rfl
  · rintro v Δ' ⟨lo,hv⟩;cases hv
  rintro v Δ' ⟨lo,hv⟩
  injection hv with hv;subst hv
  repeat' first|(with_reducible first|refine za ?_|refine zb ?_|refine zc ?_)|refine ym zr ?_|with_reducible refine zj ?_|refine W.done zr ?_
  rfl
theorem wordR_c (hp:Plain g 161=true) (hw:Plain g 187=true) {s:List Nat} (hs:∀c∈s,c<256) :
    Cl Tryz.prog g V 161 [.str s] [] fun o _=>o=.ret (.bool (wordsS.contains s)):=by
  refine Cl.enter hp Tryz.func161 rfl ?_
  repeat first|(with_reducible first|refine za ?_|refine zb ?_|refine zc ?_)|refine ym zr ?_
  refine W.callR (Δ:=[]) (R:=[]) rfl rfl rfl rfl (wordsR_c hw) ?_ ?_
  · rintro v Δ' ⟨i,hv,-⟩;cases hv
  rintro v Δ' ⟨i,hv,rfl⟩
  injection hv with hv;subst hv
  repeat first|(with_reducible first|refine za ?_|refine zb ?_|refine zc ?_)|refine ym zr ?_|with_reducible refine ze ?_
  refine W.loopR (α:={ k:Nat // k≤41∧∀j,j<k→wd j≠s }) (fun k=>41-k.1) (fun k=>[(0,_),(3,_),(4,.int .i64 (k.1:Nat))]) (fun _=>_) ⟨0,by omega,fun j h=>by omega⟩ ⟨rfl,rfl,rfl⟩ (List.Sublist.refl _) ?_
  rintro ⟨k,h0,h1⟩ ih
  simp only at ih h0 h1 ⊢
  repeat first|(with_reducible first|refine za ?_|refine zb ?_|refine zc ?_)|refine ym zr ?_
  refine W.condP rfl ?_ ?_<;>intro hlt
  · have hlt:k<41:=by omega
    have hc:partG tbl 9 (wordsS.map AV.str) (0+((k:Nat):Int).toNat * 1)=some (.str (wd k)):=by
      have:0+((k:Nat):Int).toNat * 1=k:=by omega
      rw [this];exact wd_cell hlt
    have ew:IntKind.i64.wrap ((k:Int)+1)=((k+1:Nat):Int):=by rw [w64 (by omega) (by omega)];omega
    have he:=eqN_iff (wd k) s (words_small _ (wd_mem hlt)) hs
    repeat' first|refine W.ia tblOk rfl rfl rfl rfl rfl rfl rfl (by omega) (by omega) ?_|refine W.ldO tblOk 0 rfl rfl rfl hc rfl rfl ?_|(with_reducible first|refine za ?_|refine zb ?_|refine zc ?_)|refine ym zr ?_|(with_reducible first|refine zd ?_|refine ze ?_|refine zf ?_|refine zj ?_|refine zk ?_|refine zl ?_)|(refine W.cond zr ?_ ?_<;>intro _)|refine W.done zr ?_
    · show RO.ret (AV.bool true)=RO.ret (AV.bool _)
      have:wordsS.contains s=true:=by rw [←he.1 ‹_›];exact List.contains_iff_mem.2 (wd_mem hlt)
      rw [this]
    · rw [ew]
      have h9:=ih ⟨k+1,by omega,fun j hj=>by
        rcases Nat.lt_or_ge j k with h|h
        · exact h1 j h
        · have:j=k:=by omega
          rw [this];intro e;rw [he.2 e] at *;simp_all⟩ (by show 41-(k+1)<41-k;omega)
      refine W.weak _ _ ?_ ?_ h9
      · exact ⟨rfl,rfl,rfl⟩
      · exact List.Sublist.refl _
  · skip
    repeat' first|(with_reducible first|refine za ?_|refine zb ?_|refine zc ?_)|refine ym zr ?_|(with_reducible first|refine zg ?_|refine zh ?_|refine zi ?_|refine zj ?_)|refine W.done zr ?_
    show RO.ret (AV.bool false)=RO.ret (AV.bool _)
    have:wordsS.contains s=false:=by
      refine Bool.eq_false_iff.2 fun h=>?_
      obtain ⟨j,hj,e⟩:=mem_wd (List.contains_iff_mem.1 h)
      exact h1 j (by omega) e
    rw [this]
theorem nameS_cons {c:Nat} {r:List Nat} (hc:c<256):NameS (c::r)=(decide ((c::r).length≤16)&&smallI ((c%256:Nat):Int)&&!(wordsS.contains (c::r))&&(c::r).all fun c=>innerI (c:Nat)):=by
  unfold NameS
  rw [show decide (1≤(c::r).length∧(c::r).length≤16)=decide ((c::r).length≤16) by simp,List.headD_cons,Nat.mod_eq_of_lt hc]
theorem name_c (hp:Plain g 142=true) (h1:Plain g 175=true) (h2:Plain g 207=true) (h3:Plain g 177=true) (h4:Plain g 176=true) (hw:Plain g 206=true) (hb:Plain g 205=true) (hl:Plain g 231=true) (hn:Plain g 254=true) (hn2:Plain g 232=true) {s:List Nat} (hs:∀c∈s,c<256) (hlen:s.length≤281474976710656) :
    Cl Tryz.prog g V 142 [.str s] [] fun o _=>o=.ret (.bool (NameS s)):=by
  refine Cl.enter hp Tryz.func142 rfl ?_
  rcases s with _|⟨c,r⟩
  · skip
    repeat' first|(with_reducible first|refine za ?_|refine zb ?_|refine zc ?_)|refine ym zr ?_|(with_reducible first|refine zj ?_|refine zk ?_)|refine zx zr zr zr ?_|refine W.condT zr ?_|refine W.done zr ?_
    rfl
  have hc:c<256:=hs c (by simp)
  rw [nameS_cons hc]
  generalize hS:c::r=s at hs hlen ⊢
  have h0:s[(0:Int).toNat]?=some c:=by rw [←hS];rfl
  have hne:eqN s []=false:=by rw [←hS];rfl
  repeat first|(with_reducible first|refine za ?_|refine zb ?_|refine zc ?_)|refine ym zr ?_
  rw [show eqN s (List.map UInt8.toNat (ByteArray.mk #[]).data.toList)=false from hne]
  repeat' first|refine W.idx tblOk rfl rfl rfl rfl rfl (by decide) h0 ?_|refine W.callP rfl rfl rfl rfl (small_c h1 _) ?_|refine W.callP rfl rfl rfl rfl (word_c h4 hw hb hl hn hn2 hs) ?_|(with_reducible first|refine za ?_|refine zb ?_|refine zc ?_)|refine ym zr ?_|(with_reducible first|refine zd ?_|refine ze ?_|refine zj ?_|refine zk ?_)|refine zx zr zr zr ?_|refine W.condT zr ?_|(refine W.cond zr ?_ ?_<;>intro _)|(refine W.gs zr zr zr zr ?_ ?_<;>intro _)|(refine W.gsB zr zr zr zr ?_ ?_<;>intro _)|refine W.done zr ?_
  · show RO.ret (AV.bool false)=RO.ret (AV.bool _)
    have:decide (s.length≤16)=false:=decide_eq_false (by omega)
    rw [this];rfl
  · show RO.ret (AV.bool false)=RO.ret (AV.bool _)
    simp_all
  · show RO.ret (AV.bool false)=RO.ret (AV.bool _)
    simp_all
  have hr:(decide (s.length≤16)&&smallI ((c%256:Nat):Int)&&!(wordsS.contains s)&&s.all fun c=>innerI (c:Nat))=s.all fun c=>innerI (c:Nat):=by
    have:decide (s.length≤16)=true:=decide_eq_true (by omega)
    simp_all
  rw [hr]
  generalize hA:(s.all fun c=>innerI (c:Nat))=A
  refine W.loopR (α:={ i:Nat // i≤s.length∧A=(s.drop i).all fun c=>innerI (c:Nat) }) (fun i=>s.length-i.1) (fun i=>[(0,_),(22,_),(23,.int .i64 (i.1:Nat))]) (fun _=>_) ⟨0,by omega,hA.symm⟩ ⟨rfl,rfl,rfl⟩ (List.Sublist.refl _) ?_
  rintro ⟨i,hi1,hi2⟩ ih
  simp only at ih hi1 hi2 ⊢
  repeat first|(with_reducible first|refine za ?_|refine zb ?_|refine zc ?_)|refine ym zr ?_
  refine W.condP rfl ?_ ?_<;>intro hlt
  · have hlt:i<s.length:=by omega
    rw [List.drop_eq_getElem_cons hlt,List.all_cons] at hi2
    have hx:s[((i:Nat):Int).toNat]?=some s[i]:=by rw [show ((i:Nat):Int).toNat=i by omega];exact List.getElem?_eq_getElem hlt
    have hm:s[i]%256=s[i]:=Nat.mod_eq_of_lt (hs _ (List.getElem_mem hlt))
    have ew:IntKind.i64.wrap ((i:Int)+1)=((i+1:Nat):Int):=by rw [w64 (by omega) (by omega)];omega
    repeat' first|refine W.idx tblOk rfl rfl rfl rfl rfl (by omega) hx ?_|refine W.callP rfl rfl rfl rfl (inner_c h3 h1 h2 _) ?_|(with_reducible first|refine za ?_|refine zb ?_|refine zc ?_)|refine ym zr ?_|(with_reducible first|refine zd ?_|refine ze ?_|refine zf ?_|refine zj ?_|refine zk ?_|refine zl ?_)|(refine W.cond zr ?_ ?_<;>intro _)|refine W.done zr ?_
    · rename_i hq
      rw [hm,Bool.not_eq_true'] at hq
      rw [hi2,hq];rfl
    · rename_i hq
      rw [hm,Bool.not_eq_false'] at hq
      rw [ew]
      have h9:=ih ⟨i+1,by omega,by rw [hi2,hq,Bool.true_and]⟩ (by show s.length-(i+1)<s.length-i;omega)
      refine W.weak _ _ ?_ ?_ h9
      · exact ⟨rfl,rfl,rfl⟩
      · exact List.Sublist.refl _
  · rw [List.drop_eq_nil_of_le (by omega)] at hi2
    repeat' first|(with_reducible first|refine za ?_|refine zb ?_|refine zc ?_)|refine ym zr ?_|(with_reducible first|refine zg ?_|refine zh ?_|refine zi ?_|refine zj ?_)|refine W.done zr ?_
    rw [hi2];rfl
theorem nameR_c (hp:Plain g 125=true) (h1:Plain g 162=true) (h2:Plain g 188=true) (h3:Plain g 163=true) (h4:Plain g 161=true) (hw:Plain g 187=true) {s:List Nat} (hs:∀c∈s,c<256) (hlen:s.length≤281474976710656) :
    Cl Tryz.prog g V 125 [.str s] [] fun o _=>o=.ret (.bool (NameS s)):=by
  refine Cl.enter hp Tryz.func125 rfl ?_
  rcases s with _|⟨c,r⟩
  · skip
    repeat first|refine W.callP rfl rfl rfl rfl (wordR_c h4 hw hs) ?_|(with_reducible first|refine za ?_|refine zb ?_|refine zc ?_)|refine ym zr ?_|(with_reducible first|refine zj ?_|refine zk ?_)|refine zx zr zr zr ?_|refine W.condT zr ?_
    rw [show wordsS.contains []=false by decide]
    repeat' first|refine W.done zr ?_
    all_goals rfl
  have hc:c<256:=hs c (by simp)
  rw [nameS_cons hc]
  have hl1:1≤(c::r).length:=by simp
  generalize hS:c::r=s at hs hlen hl1 ⊢
  have h0:s[(0:Int).toNat]?=some c:=by rw [←hS];rfl
  repeat' first|refine W.idx tblOk rfl rfl rfl rfl rfl (by decide) h0 ?_|refine W.callP rfl rfl rfl rfl (letter_c h1 _) ?_|refine W.callP rfl rfl rfl rfl (wordR_c h4 hw hs) ?_|(with_reducible first|refine za ?_|refine zb ?_|refine zc ?_)|refine ym zr ?_|(with_reducible first|refine zd ?_|refine ze ?_|refine zj ?_|refine zk ?_)|refine zx zr zr zr ?_|refine W.condT zr ?_|(refine W.cond zr ?_ ?_<;>intro _)|(refine W.gs zr zr zr zr ?_ ?_<;>intro _)|(refine W.gsB zr zr zr zr ?_ ?_<;>intro _)|refine W.done zr ?_
  · show RO.ret (AV.bool false)=RO.ret (AV.bool _)
    simp_all
  · exfalso;omega
  · show RO.ret (AV.bool false)=RO.ret (AV.bool _)
    have:decide (s.length≤16)=false:=decide_eq_false (by omega)
    rw [this];rfl
  · show RO.ret (AV.bool false)=RO.ret (AV.bool _)
    simp_all
  have hr:(decide (s.length≤16)&&smallI ((c%256:Nat):Int)&&!(wordsS.contains s)&&s.all fun c=>innerI (c:Nat))=s.all fun c=>innerI (c:Nat):=by
    have:decide (s.length≤16)=true:=decide_eq_true (by omega)
    simp_all
  rw [hr]
  generalize hA:(s.all fun c=>innerI (c:Nat))=A
  refine W.loopR (α:={ i:Nat // i≤s.length∧A=(s.drop i).all fun c=>innerI (c:Nat) }) (fun i=>s.length-i.1) (fun i=>[(0,_),(4,.int .i64 (i.1:Nat))]) (fun _=>_) ⟨0,by omega,hA.symm⟩ ⟨rfl,rfl⟩ (List.Sublist.refl _) ?_
  rintro ⟨i,hi1,hi2⟩ ih
  simp only at ih hi1 hi2 ⊢
  repeat first|(with_reducible first|refine za ?_|refine zb ?_|refine zc ?_)|refine ym zr ?_
  refine W.condP rfl ?_ ?_<;>intro hlt
  · have hlt:i<s.length:=by omega
    rw [List.drop_eq_getElem_cons hlt,List.all_cons] at hi2
    have hx:s[((i:Nat):Int).toNat]?=some s[i]:=by rw [show ((i:Nat):Int).toNat=i by omega];exact List.getElem?_eq_getElem hlt
    have hm:s[i]%256=s[i]:=Nat.mod_eq_of_lt (hs _ (List.getElem_mem hlt))
    have ew:IntKind.i64.wrap ((i:Int)+1)=((i+1:Nat):Int):=by rw [w64 (by omega) (by omega)];omega
    repeat' first|refine W.idx tblOk rfl rfl rfl rfl rfl (by omega) hx ?_|refine W.callP rfl rfl rfl rfl (goes_c h3 h1 h2 _) ?_|(with_reducible first|refine za ?_|refine zb ?_|refine zc ?_)|refine ym zr ?_|(with_reducible first|refine zd ?_|refine ze ?_|refine zf ?_|refine zj ?_|refine zk ?_|refine zl ?_)|(refine W.cond zr ?_ ?_<;>intro _)|refine W.done zr ?_
    · rename_i hq
      rw [hm,Bool.not_eq_true'] at hq
      rw [hi2,hq];rfl
    · rename_i hq
      rw [hm,Bool.not_eq_false'] at hq
      rw [ew]
      have h9:=ih ⟨i+1,by omega,by rw [hi2,hq,Bool.true_and]⟩ (by show s.length-(i+1)<s.length-i;omega)
      refine W.weak _ _ ?_ ?_ h9
      · exact ⟨rfl,rfl⟩
      · exact List.Sublist.refl _
  · rw [List.drop_eq_nil_of_le (by omega)] at hi2
    repeat' first|(with_reducible first|refine za ?_|refine zb ?_|refine zc ?_)|refine ym zr ?_|(with_reducible first|refine zg ?_|refine zh ?_|refine zi ?_|refine zj ?_)|refine W.done zr ?_
    rw [hi2];rfl
end Go.Proofs.YtoegffiapnnkiaaGreat.Abs
