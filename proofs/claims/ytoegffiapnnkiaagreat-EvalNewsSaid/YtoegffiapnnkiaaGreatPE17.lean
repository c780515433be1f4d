/- Parts of one proof. No condition but those that each theorem names. -/
import Derived.Test.YtoegffiapnnkiaaGreatPE05
import Derived.Test.YtoegffiapnnkiaaGreatPE13
namespace Go.Proofs.YtoegffiapnnkiaaGreat.Abs
open Go
set_option linter.unusedVariables false
set_option linter.unusedSimpArgs false
set_option maxRecDepth 100000
set_option maxHeartbeats 4000000
attribute [local irreducible] W Cl Bd
variable {g:Cg} {V:K→Option (List AV)}
def hB (h l:K) (f:Int) (n:Nat) (c:Cp) (bad:Bool):K×Bk:=(h,.cells [.int .i64 f,.slice (some (l,0)) n c,.bool bad] 300 3 true)
def lB (l:K) (L:List Int):K×Bk:=(l,.cells (L.map (AV.int .i64)) 3 1 false)
theorem hl_ne {h l:K} {f:Int} {n:Nat} {c:Cp} {bad:Bool} {l':K} {L:List Int}:(hB h l f n c bad).2≠(lB l' L).2:=by
  intro e;simp [hB,lB] at e
structure LOk (L:List Int):Prop where
  len:L.length≤10000
  ok:∀n∈L,-1≤n∧n≤64
def lAt (L:List Int) (a:Int):Int:=L.getD a.toNat 0
def comeR (L:List Int) (bad:Bool) (i n:Int):List Int×Bool:=if 0≤n∧n≤64∧(lAt L i<0∨lAt L i=n) then (L.set i.toNat n,bad) else (L,true)
theorem LOk.come {L:List Int} (hL:LOk L) (bad:Bool) (i n:Int):LOk (comeR L bad i n).1:=by
  unfold comeR
  split
  · rename_i hc
    refine ⟨by simp [hL.len],fun m hm=>?_⟩
    rcases List.mem_or_eq_of_mem_set hm with h|h
    · exact hL.ok m h
    · omega
  · exact hL
theorem comeR_len (L:List Int) (bad:Bool) (i n:Int):(comeR L bad i n).1.length=L.length:=by unfold comeR;split<;>simp
theorem lAt_ok {L:List Int} (hL:LOk L) (a:Int):-1≤lAt L a∧lAt L a≤64:=by
  unfold lAt
  rw [List.getD_eq_getElem?_getD]
  cases h:L[a.toNat]? with
  | none=>simp
  | some x=>exact hL.ok x (List.mem_of_getElem? h)
theorem lload {L:List Int} {a:Int} (h0:0≤a) (h1:a<L.length):partG tbl 3 (L.map (AV.int .i64)) (0+a.toNat * 1)=some (.int .i64 (lAt L a)):=by
  show getL (L.map (AV.int .i64)) (0+a.toNat * 1)=_
  rw [getL_eq,List.getElem?_map,Nat.zero_add,Nat.mul_one,lAt,List.getD_eq_getElem?_getD,List.getElem?_eq_getElem (by omega)]
  rfl
theorem lstore {L:List Int} {a:Int} (h0:0≤a) (h1:a<L.length) (y:Int):setLs (L.map (AV.int .i64)) (0+a.toNat * 1) [.int .i64 y]=some ((L.set a.toNat y).map (AV.int .i64)):=by
  rw [setLs_set _ _ _ (by simp;omega),List.map_set,Nat.zero_add,Nat.mul_one]
theorem comeR_c (hp:Plain g 165=true) (h l:K) {f:Int} {c:Cp} {bad:Bool} {L:List Int} (hL:LOk L) {N:Nat} (hN:L.length=N) {a:Int} (n:Int) (hf:0≤f∧f≤10000) (h0:f≤a) (h1:a-f<L.length) :
    Cl Tryz.prog g V 165 [.ptr (some (h,0)),.int .i64 a,.int .i64 n] [hB h l f N c bad,lB l L] fun o Δ=>o=.ret (.tup [])∧hB h l f N c (comeR L bad (a-f) n).2∈Δ∧lB l (comeR L bad (a-f) n).1∈Δ:=by
  subst hN
  have hLl:=hL.len
  have e1:IntKind.i64.wrap (a-f)=a-f:=w64 (by omega) (by omega)
  have hl:=lload (L:=L) (a:=a-f) (by omega) h1
  have hs:=lstore (L:=L) (a:=a-f) (by omega) h1
  have hok:0≤n∧n≤64∧(lAt L (a-f)<0∨lAt L (a-f)=n)→comeR L bad (a-f) n=(L.set (a-f).toNat n,bad):=fun h=>by unfold comeR;rw [if_pos h]
  have hno:¬(0≤n∧n≤64∧(lAt L (a-f)<0∨lAt L (a-f)=n))→comeR L bad (a-f) n=(L,true):=fun h=>by unfold comeR;rw [if_neg h]
  generalize comeR L bad (a-f) n=r at hok hno ⊢
  unfold hB lB
  refine Cl.enter hp Tryz.func165 rfl ?_
  repeat first|(with_reducible first|refine za ?_|refine zb ?_|refine zc ?_)|refine ym zr ?_|refine yn 0 zr ?_
  rw [e1]
  repeat' first|refine W.ia tblOk rfl rfl rfl rfl rfl rfl rfl (by omega) (by omega) ?_|refine W.ldO tblOk 1 rfl rfl rfl hl rfl rfl ?_|(refine W.fr1 ?_;refine W.stF tblOk rfl rfl rfl rfl rfl rfl rfl (hs _) ?_)|(with_reducible first|refine za ?_|refine zb ?_|refine zc ?_)|refine ym zr ?_|refine yn 0 zr ?_|refine yq zr ?_|(with_reducible first|refine zd ?_|refine zj ?_|refine zk ?_)|refine zx zr zr zr ?_|(refine W.condP zr ?_ ?_<;>intro _)|refine W.condT zr ?_|refine W.condF zr ?_|(refine W.gs zr zr zr zr ?_ ?_<;>intro _)|refine W.done zr ?_|refine W.doneN zr ?_
  all_goals first
    | (rw [hno (by omega)];refine ⟨rfl,by simp,by simp⟩;done)
    | (rw [hok (by omega)];refine ⟨rfl,by simp,by simp⟩;done)
    | (exfalso;omega)
    | trace_state
def stepR (f:Int) (L:List Int) (bad:Bool) (x:Instr) (a:Int):List Int×Bool :=
  let n:=lAt L (a-f)
  let go:=fun (p:List Int×Bool) (b m:Int)=>comeR p.1 p.2 (b-f) m
  let r:=if x.k=5 then go (L,bad) (a+1) (n+1-if x.a≤3 then 1 else 2) else if x.k=6∨x.k=7 then go (go (L,bad) x.a n) (a+1) (n-1)
    else if x.k=8 then go (go (L,bad) x.a (n-1)) (a+1) (n-1) else if x.k=9 then go (L,bad) x.a n else go (L,bad) (a+1) (n+1)
  (r.1,r.2||decide (n<if x.k=5 then (if x.a≤3 then 1 else 2) else if 6≤x.k∧x.k≤8 then 1 else 0))
section
variable {f:Int} {L:List Int} {bad:Bool} {x:Instr} {a:Int}
theorem stepR_5a (hk:x.k=5) (ha:x.a≤3):stepR f L bad x a=((comeR L bad (a+1-f) (lAt L (a-f)+1-1)).1,(comeR L bad (a+1-f) (lAt L (a-f)+1-1)).2||decide (lAt L (a-f)<1)):=by simp only [stepR,if_pos hk,if_pos ha]
theorem stepR_5b (hk:x.k=5) (ha:¬x.a≤3):stepR f L bad x a=((comeR L bad (a+1-f) (lAt L (a-f)+1-2)).1,(comeR L bad (a+1-f) (lAt L (a-f)+1-2)).2||decide (lAt L (a-f)<2)):=by simp only [stepR,if_pos hk,if_neg ha]
theorem stepR_67 (hk:x.k=6∨x.k=7):stepR f L bad x a=((comeR (comeR L bad (x.a-f) (lAt L (a-f))).1 (comeR L bad (x.a-f) (lAt L (a-f))).2 (a+1-f) (lAt L (a-f)-1)).1,(comeR (comeR L bad (x.a-f) (lAt L (a-f))).1 (comeR L bad (x.a-f) (lAt L (a-f))).2 (a+1-f) (lAt L (a-f)-1)).2||decide (lAt L (a-f)<1)):=by
  simp only [stepR,if_neg (show ¬x.k=5 by omega),if_pos hk,if_pos (show 6≤x.k∧x.k≤8 by omega)]
theorem stepR_8 (hk:x.k=8):stepR f L bad x a=((comeR (comeR L bad (x.a-f) (lAt L (a-f)-1)).1 (comeR L bad (x.a-f) (lAt L (a-f)-1)).2 (a+1-f) (lAt L (a-f)-1)).1,(comeR (comeR L bad (x.a-f) (lAt L (a-f)-1)).1 (comeR L bad (x.a-f) (lAt L (a-f)-1)).2 (a+1-f) (lAt L (a-f)-1)).2||decide (lAt L (a-f)<1)):=by
  simp only [stepR,if_neg (show ¬x.k=5 by omega),if_neg (show ¬(x.k=6∨x.k=7) by omega),if_pos hk,if_pos (show 6≤x.k∧x.k≤8 by omega)]
theorem stepR_9 (hk:x.k=9):stepR f L bad x a=((comeR L bad (x.a-f) (lAt L (a-f))).1,(comeR L bad (x.a-f) (lAt L (a-f))).2||decide (lAt L (a-f)<0)):=by
  simp only [stepR,if_neg (show ¬x.k=5 by omega),if_neg (show ¬(x.k=6∨x.k=7) by omega),if_neg (show ¬x.k=8 by omega),if_pos hk,if_neg (show ¬(6≤x.k∧x.k≤8) by omega)]
theorem stepR_e (hk:¬x.k=5) (h2:¬(6≤x.k∧x.k≤9)):stepR f L bad x a=((comeR L bad (a+1-f) (lAt L (a-f)+1)).1,(comeR L bad (a+1-f) (lAt L (a-f)+1)).2||decide (lAt L (a-f)<0)):=by
  simp only [stepR,if_neg hk,if_neg (show ¬(x.k=6∨x.k=7) by omega),if_neg (show ¬x.k=8 by omega),if_neg (show ¬x.k=9 by omega),if_neg (show ¬(6≤x.k∧x.k≤8) by omega)]
end
theorem stepR_c (hp:Plain g 166=true) (hc:Plain g 165=true) (h l:K) {f:Int} {c:Cp} {bad:Bool} {L:List Int} (hL:LOk L) {N:Nat} (hN:L.length=N) {x:Instr} {a:Int} (hf:0≤f∧f≤10000) (h0:f≤a) (h1:a+1-f<L.length) (hx:6≤x.k∧x.k≤9→f≤x.a∧x.a-f<L.length) (hn:0≤lAt L (a-f)) :
    Cl Tryz.prog g V 166 [.ptr (some (h,0)),x.v,.int .i64 a] [hB h l f N c bad,lB l L] fun o Δ=>o=.ret (.tup [])∧hB h l f N c (stepR f L bad x a).2∈Δ∧lB l (stepR f L bad x a).1∈Δ:=by
  have hLl:=hL.len
  have hb0:=lAt_ok hL (a-f)
  have e0:IntKind.i64.wrap (a-f)=a-f:=w64 (by omega) (by omega)
  have e4:IntKind.i64.wrap (a+1)=a+1:=w64 (by omega) (by omega)
  have e5:IntKind.i64.wrap (lAt L (a-f)+1)=lAt L (a-f)+1:=w64 (by omega) (by omega)
  have e6:IntKind.i64.wrap (lAt L (a-f)-1)=lAt L (a-f)-1:=w64 (by omega) (by omega)
  have e7:IntKind.i64.wrap (lAt L (a-f)+1-1)=lAt L (a-f)+1-1:=w64 (by omega) (by omega)
  have e8:IntKind.i64.wrap (lAt L (a-f)+1-2)=lAt L (a-f)+1-2:=w64 (by omega) (by omega)
  have hl:=lload (L:=L) (a:=a-f) (by omega) (by omega)
  refine Cl.enter hp Tryz.func166 rfl ?_
  repeat first|(refine W.ia tblOk rfl rfl rfl rfl rfl rfl rfl (by rw [e0];omega) (by rw [e0];omega) ?_)|(with_reducible first|refine za ?_|refine zb ?_|refine zc ?_)|refine ym zr ?_|refine yn 1 zr ?_|(refine yo zr ?_;intro _)|refine zw (by decide +kernel) ?_
  rw [e0]
  repeat first|refine W.ldO tblOk 2 rfl rfl rfl hl rfl rfl ?_|(with_reducible first|refine za ?_|refine zb ?_|refine zc ?_)|refine ym zr ?_|refine yn 0 zr ?_|with_reducible refine ze ?_
  refine W.fr2 (W.fr2 ?_)
  repeat' first|(refine W.condP rfl ?_ ?_<;>intro _<;>first|(exfalso;omega)|skip)|(refine W.callR (Δ:=[hB _ _ _ _ _ _,lB _ _]) rfl rfl rfl rfl (comeR_c hc _ _ (L:=L) hL hN _ hf (by first|omega|(rw [e4];omega)|(have:=hx (by omega);omega)) (by first|omega|(rw [e4];omega)|(have:=hx (by omega);omega))) (by rintro v Δ' ⟨h,-⟩;cases h) ?_;rintro v_ Δ_ ⟨hv_,hm1_,hm2_⟩;injection hv_ with hv_;subst hv_;refine W.keep2 _ _ hm1_ hm2_ hl_ne ?_;clear hm1_ hm2_;(try rw [e4]);(try rw [e5]);(try rw [e6]);(try rw [e7]);(try rw [e8]))|(refine W.callR (Δ:=[hB _ _ _ _ _ _,lB _ _]) rfl rfl rfl rfl (comeR_c hc _ _ (hL.come _ _ _) ((comeR_len _ _ _ _).trans hN) _ hf (by first|omega|(rw [e4];omega)|(have:=hx (by omega);omega)) (by rw [comeR_len];first|omega|(rw [e4];omega))) (by rintro v Δ' ⟨h,-⟩;cases h) ?_;rintro v_ Δ_ ⟨hv_,hm1_,hm2_⟩;injection hv_ with hv_;subst hv_;refine W.keep2 _ _ hm1_ hm2_ hl_ne ?_;clear hm1_ hm2_;(try rw [e4]);(try rw [e5]);(try rw [e6]);(try rw [e7]);(try rw [e8]))|(with_reducible first|refine za ?_|refine zb ?_|refine zc ?_)|refine ym zr ?_|refine yn 0 zr ?_|refine yn 2 zr ?_|refine yq zr ?_|(with_reducible first|refine zd ?_|refine zf ?_)|refine zx zr zr zr ?_|(refine W.gsB zr zr zr zr ?_ ?_<;>intro _)|refine W.doneN zr ?_
  all_goals rename_i hq_
  all_goals first
    | (exfalso;omega)
    | (rw [stepR_5a (by assumption) (by assumption)];simp only [Int.add_sub_cancel] at hq_ ⊢;refine ⟨rfl,?_,?_⟩<;>simp [hB,lB,hq_];done)
    | (rw [stepR_5b (by assumption) (by assumption)];refine ⟨rfl,?_,?_⟩<;>simp [hB,lB,hq_];done)
    | (rw [stepR_67 (by omega)];refine ⟨rfl,?_,?_⟩<;>simp [hB,lB,hq_];done)
    | (rw [stepR_8 (by assumption)];refine ⟨rfl,?_,?_⟩<;>simp [hB,lB,hq_];done)
    | (rw [stepR_9 (by assumption)];refine ⟨rfl,?_,?_⟩<;>simp [hB,lB,hq_,hn];done)
    | (rw [stepR_e (by omega) (by omega)];refine ⟨rfl,?_,?_⟩<;>simp [hB,lB,hq_,hn];done)
    | trace_state
end Go.Proofs.YtoegffiapnnkiaaGreat.Abs
