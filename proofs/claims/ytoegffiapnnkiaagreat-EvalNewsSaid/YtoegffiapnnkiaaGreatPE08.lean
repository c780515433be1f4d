/- Parts of one proof. No condition but those that each theorem names. -/
import Derived.Test.YtoegffiapnnkiaaGreatPE06
namespace Go.Proofs.YtoegffiapnnkiaaGreat.Abs
open Go
set_option linter.unusedSimpArgs false
set_option linter.unusedVariables false
set_option maxRecDepth 100000
set_option maxHeartbeats 4000000
attribute [local irreducible] W Cl Bd
variable {g:Cg} {V:K→Option (List AV)}
def hb (h:K) (H:List Int):K×Bk:=(h,.cells (H.map (AV.int .u8)) 281 4097 true)
structure HOk (H:List Int):Prop where
  len:H.length=4097
  ok:∀n∈H,0≤n∧n≤65
def hAt (H:List Int) (a:Int):Int:=H.getD a.toNat 0
def comeS (H:List Int) (a n:Int):Option (List Int):=if 0≤n∧n≤64∧(hAt H a=0∨hAt H a=n+1) then some (H.set a.toNat (n+1)) else none
theorem hAt_ok {H:List Int} (hH:HOk H) (a:Int):0≤hAt H a∧hAt H a≤65:=by
  unfold hAt
  rw [List.getD_eq_getElem?_getD]
  cases h:H[a.toNat]? with
  | none=>simp
  | some x=>exact hH.ok x (List.mem_of_getElem? h)
theorem HOk.come {H H':List Int} {a n:Int} (hH:HOk H) (h:comeS H a n=some H'):HOk H':=by
  unfold comeS at h
  split at h
  · rename_i hc
    injection h with h;subst h
    refine ⟨by simp [hH.len],fun m hm=>?_⟩
    rcases List.mem_or_eq_of_mem_set hm with h|h
    · exact hH.ok m h
    · omega
  · cases h
theorem hload {H:List Int} (hH:HOk H) {a:Int} (h0:0≤a) (h1:a<4097):partG tbl 5 (H.map (AV.int .u8)) (0+a.toNat * 1)=some (.int .u8 (hAt H a)):=by
  show getL (H.map (AV.int .u8)) (0+a.toNat * 1)=_
  have hl:=hH.len
  rw [getL_eq,List.getElem?_map,Nat.zero_add,Nat.mul_one,hAt,List.getD_eq_getElem?_getD,List.getElem?_eq_getElem (by omega)]
  rfl
theorem setLs_set (v:AV):∀(l:List AV) (i:Nat),i<l.length→setLs l i [v]=some (l.set i v)
  | [],i,h=>by simp at h
  | x::l,0,h=>by
    show consO v (setLs l 0 [])=_
    cases l<;>rfl
  | x::l,i+1,h=>by
    show consO x (setLs l i [v])=_
    rw [setLs_set v l i (by simpa using h)];rfl
theorem hstore {H:List Int} (hH:HOk H) {a:Int} (h0:0≤a) (h1:a<4097) (y:Int):setLs (H.map (AV.int .u8)) (0+a.toNat * 1) [.int .u8 y]=some ((H.set a.toNat y).map (AV.int .u8)):=by
  rw [setLs_set _ _ _ (by simp [hH.len];omega),List.map_set,Nat.zero_add,Nat.mul_one]
theorem w8 {n:Int} (h0:0≤n) (h1:n≤255):IntKind.u8.wrap n=n:=wrap_in .u8 n (by simp only [isSig,if_false,Bool.false_eq_true];omega) (by simp only [lim];omega)
theorem come_c (hp:Plain g 146=true) (hm:Plain g 112=true) (h:K) {H:List Int} (hH:HOk H) {a:Int} (n:Int) (h0:0≤a) (h1:a<4097) :
    Cl Tryz.prog g V 146 [.ptr (some (h,0)),.int .i64 a,.int .i64 n] [hb h H] fun o Δ=>if (comeS H a n).isSome=true then o=.ret (.tup [])∧hb h ((comeS H a n).getD [])∈Δ else o=.pan (pn 192):=by
  have hl:=hload hH h0 h1
  have hs:=hstore hH h0 h1
  have hb0:=hAt_ok hH a
  have e1:IntKind.i64.wrap (hAt H a)=hAt H a:=w64 (by omega) (by omega)
  unfold hb
  refine Cl.enter hp Tryz.func146 rfl ?_
  repeat' first|(refine W.callM rfl rfl rfl rfl (must_c hm _ _) (by decide +kernel) ?_ ?_<;>intro hm_<;>(try simp only [decide_eq_true_eq,decide_eq_false_iff_not,Bool.true_eq_false,Bool.false_eq_true] at hm_))|refine W.iaA tblOk rfl rfl rfl rfl rfl rfl h0 h1 ?_|refine W.ldO tblOk 0 rfl rfl rfl hl rfl rfl ?_|refine W.stF tblOk rfl rfl rfl rfl rfl rfl rfl (hs _) ?_|(with_reducible first|refine za ?_|refine zb ?_|refine zc ?_)|refine ym zr ?_|refine zx zr zr zr ?_|(refine W.gs zr zr zr zr ?_ ?_<;>intro _)|refine W.doneN zr ?_
  all_goals first
    | (have e2:IntKind.i64.wrap (n+1)=n+1:=w64 (by omega) (by omega)
       have e3:IntKind.u8.wrap (n+1)=n+1:=w8 (by omega) (by omega)
       have hc:comeS H a n=some (H.set a.toNat (n+1)):=by unfold comeS;rw [if_pos (by first|omega|(rw [e1,e2] at hm_;omega))]
       refine of_some _ hc ⟨rfl,?_⟩
       rw [hc,e2,e3];simp [hb];done)
    | (refine of_none ?_ (by first|exact rfl|exact True.intro);unfold comeS;rw [if_neg]
       rintro ⟨q1,q2,q3⟩
       have e2:IntKind.i64.wrap (n+1)=n+1:=w64 (by omega) (by omega)
       rw [e1,e2] at hm_;omega)
    | (refine of_none ?_ (by first|exact rfl|exact True.intro);unfold comeS;rw [if_neg];omega)
    | (exfalso;omega)
    | skip
def goS (H:List Int) (x:Instr) (a:Int):Option (List Int) :=
  let n:=hAt H a-1
  if n<0 then none else if x.k=5 then (if x.a>3 then (if n-1≥1 then comeS H (a+1) (n-1) else none) else (if n≥1 then comeS H (a+1) n else none))
  else if x.k=6∨x.k=7 then (comeS H (a+1) (n-1)).bind fun H=>comeS H x.a n
  else if x.k=8 then (comeS H (a+1) (n-1)).bind fun H=>comeS H x.a (n-1)
  else if x.k=9 then comeS H x.a n else comeS H (a+1) (n+1)
theorem go1_c (hp:Plain g 147=true) (hc:Plain g 146=true) (hm:Plain g 112=true) (h:K) {H:List Int} (hH:HOk H) {x:Instr} {a:Int} (h0:0≤a) (h1:a+1<4097) (hx:6≤x.k∧x.k≤9→0≤x.a∧x.a<4097) :
    Cl Tryz.prog g V 147 [.ptr (some (h,0)),x.v,.int .i64 a] [hb h H] fun o Δ=>if (goS H x a).isSome=true then o=.ret (.tup [])∧hb h ((goS H x a).getD [])∈Δ else o=.pan (pn 192):=by
  have hl:=hload hH h0 (by omega)
  have hb0:=hAt_ok hH a
  have e0:IntKind.i64.wrap (hAt H a)=hAt H a:=w64 (by omega) (by omega)
  have e1:IntKind.i64.wrap (hAt H a-1)=hAt H a-1:=w64 (by omega) (by omega)
  have e2:IntKind.i64.wrap (hAt H a-1-1)=hAt H a-1-1:=w64 (by omega) (by omega)
  have e3:IntKind.i64.wrap (hAt H a-1+1)=hAt H a-1+1:=w64 (by omega) (by omega)
  have e4:IntKind.i64.wrap (a+1)=a+1:=w64 (by omega) (by omega)
  refine Cl.enter hp Tryz.func147 rfl ?_
  repeat first|(refine W.iaA tblOk rfl rfl rfl rfl rfl rfl h0 (by omega) ?_)|refine W.ldO tblOk 1 rfl rfl rfl hl rfl rfl ?_|(with_reducible first|refine za ?_|refine zb ?_|refine zc ?_)|refine ym zr ?_|(refine yo zr ?_;intro _)
  simp only [e0,e1]
  repeat' first|(refine W.callM rfl rfl rfl rfl (must_c hm _ _) (by decide +kernel) ?_ ?_<;>intro hm_<;>(try simp only [decide_eq_true_eq,decide_eq_false_iff_not,Bool.true_eq_false,Bool.false_eq_true] at hm_))|(refine W.fr1 ?_;refine W.callF rfl rfl rfl rfl (come_c hc hm _ hH _ (by first|omega|(rw [e4];omega)) (by first|omega|(rw [e4];omega))) (by decide +kernel) ?_ ?_<;>intro hm_)|(with_reducible first|refine za ?_|refine zb ?_|refine zc ?_)|refine ym zr ?_|refine yn 0 zr ?_|refine yn 1 zr ?_|(with_reducible first|refine zd ?_|refine ze ?_|refine zf ?_)|(refine W.condP zr ?_ ?_<;>intro _)|refine W.doneN zr ?_
  all_goals (try simp only [e2,e3,e4] at *)
  all_goals first
    | (with_reducible refine W.mono ?_ (fun _ _ h=>h)
       obtain ⟨H1,hH1⟩:=Option.isSome_iff_exists.1 hm_
       have hO1:=hH.come hH1
       simp only [hH1,Option.getD_some])
    | (have hN:=Option.not_isSome_iff_eq_none.1 hm_
       refine of_none ?_ (by first|exact rfl|exact True.intro)
       simp only [goS]
       rw [if_neg (by omega)]
       first
         | (rw [if_pos (by omega),if_pos (by omega),if_pos (by omega)];exact hN)
         | (rw [if_pos (by omega),if_neg (by omega),if_pos (by omega)];exact hN)
         | (rw [if_neg (by omega),if_pos (by omega),hN];rfl)
         | (rw [if_neg (by omega),if_neg (by omega),if_pos (by omega),hN];rfl)
         | (rw [if_neg (by omega),if_neg (by omega),if_neg (by omega),if_pos (by omega)];exact hN)
         | (rw [if_neg (by omega),if_neg (by omega),if_neg (by omega),if_neg (by omega)];exact hN))
    | (refine of_none ?_ (by first|exact rfl|exact True.intro);simp only [goS];rw [if_pos (by omega)])
    | (refine of_none ?_ (by first|exact rfl|exact True.intro);simp only [goS];rw [if_neg (by omega),if_pos (by omega)];first|rw [if_pos (by omega),if_neg (by omega)]|rw [if_neg (by omega),if_neg (by omega)])
    | (obtain ⟨H1,hH1⟩:=Option.isSome_iff_exists.1 hm_
       suffices hc:goS H x a=some H1 from of_some _ hc ⟨rfl,by rw [hc,hH1];simp [hb]⟩
       simp only [goS]
       rw [if_neg (by omega)]
       first
         | (rw [if_pos (by omega),if_pos (by omega),if_pos (by omega)];exact hH1)
         | (rw [if_pos (by omega),if_neg (by omega),if_pos (by omega)];exact hH1)
         | (rw [if_neg (by omega),if_neg (by omega),if_neg (by omega),if_pos (by omega)];exact hH1)
         | (rw [if_neg (by omega),if_neg (by omega),if_neg (by omega),if_neg (by omega)];exact hH1))
  repeat' first|(refine W.callF rfl rfl rfl rfl (come_c hc hm _ hO1 _ (hx (by omega)).1 (hx (by omega)).2) (by decide +kernel) ?_ ?_<;>intro hm_)|(with_reducible first|refine zc ?_|refine zf ?_)|refine W.doneN zr ?_
  all_goals (try simp only [e2] at *)
  all_goals first
    | (obtain ⟨H2,hH2⟩:=Option.isSome_iff_exists.1 hm_
       suffices hc:goS H x a=some H2 from of_some _ hc ⟨rfl,by rw [hc,hH2];simp [hb]⟩
       simp only [goS]
       rw [if_neg (by omega),if_neg (by omega)]
       first
         | (rw [if_pos (by omega),hH1];exact hH2)
         | (rw [if_neg (by omega),if_pos (by omega),hH1];exact hH2))
    | (refine of_none ?_ (by first|exact rfl|exact True.intro);simp only [Option.not_isSome_iff_eq_none] at hm_
       simp only [goS]
       rw [if_neg (by omega),if_neg (by omega)]
       first
         | (rw [if_pos (by omega),hH1];exact hm_)
         | (rw [if_neg (by omega),if_pos (by omega),hH1];exact hm_))
  all_goals trace_state
  all_goals omega
end Go.Proofs.YtoegffiapnnkiaaGreat.Abs
