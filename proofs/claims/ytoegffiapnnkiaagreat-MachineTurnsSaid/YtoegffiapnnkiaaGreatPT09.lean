/- Parts of one proof. No condition but those that each theorem names. -/
import Derived.Test.YtoegffiapnnkiaaGreatPT08
import Derived.Laws.BitsLemmas
namespace Go.Proofs.YtoegffiapnnkiaaGreat.Abs
open Go
set_option linter.unusedVariables false
set_option linter.unusedSimpArgs false
set_option maxRecDepth 100000
set_option maxHeartbeats 4000000
instance (x:Int):Decidable (In64 x):=inferInstanceAs (Decidable (_∧_))
theorem mU64 (n:Int):IntKind.u64.wrap n=n%18446744073709551616:=by simp [IntKind.wrap,IntKind.bits,IntKind.signed]
theorem mU64_id {x:Int} (h0:0≤x) (h1:x<18446744073709551616):IntKind.u64.wrap x=x:=by rw [mU64];omega
def tellV (x:Int):AV:=.tup [.int .i64 (if In64 x then x else 0),.bool (decide (In64 x))]
def toldV (n:Int) (c:Bool):AV:=.tup [.int .i64 (if c=true then n else 0),.bool c]
theorem toldV_eq {n x:Int} {c:Bool} (h:c=decide (In64 x)) (hn:In64 x→n=x):toldV n c=tellV x:=by
  subst h
  unfold toldV tellV
  by_cases h:In64 x
  · rw [hn h];simp [h]
  · simp [h]
def exV (n:Int) (c:Bool):AV:=.tup [.int .i64 (if c=true then n else 0),.int .i64 (if c=true then 0 else 10)]
def ab (a:Int):Int:=if a<0 then -a else a
theorem ab_range {a:Int} (ha:In64 a):0≤ab a∧ab a≤9223372036854775808:=by unfold In64 at ha;unfold ab;split<;>omega
def sg (n:Int) (m:Bool):Int:=if m=true then -n else n
theorem prod4 (a b c d B:Int):(a * B+b) * (c * B+d)=a * c * (B * B)+(a * d+b * c) * B+b * d:=by
  simp only [Int.add_mul,Int.mul_add]
  ac_rfl
theorem and32 (x:Int) (h0:0≤x) (h1:x<18446744073709551616):bitI .and .u64 x 4294967295=x%4294967296:=by
  have:bits .and .u64 x (2^32-1)=x%2^32:=bits_mask .u64 64 (by decide) (fun n h0 h1=>mU64_id h0 (by omega)) 32 (by decide) x h0 (by omega)
  exact this
theorem halves (x:Int) (h0:0≤x) (h1:x<18446744073709551616):x=x/4294967296 * 4294967296+x%4294967296∧0≤x/4294967296∧x/4294967296≤4294967295∧0≤x%4294967296∧x%4294967296≤4294967295:=by omega
theorem prod_le {a b A B:Int} (ha0:0≤a) (ha:a≤A) (hb0:0≤b) (hb:b≤B):0≤a * b∧a * b≤A * B :=
  ⟨Int.mul_nonneg ha0 hb0,Int.le_trans (Int.mul_le_mul_of_nonneg_right ha hb0) (Int.mul_le_mul_of_nonneg_left hb (by omega))⟩
theorem sg_ab (a b:Int):sg (ab a * ab b) (decide (a<0) != decide (b<0))=a * b:=by
  unfold sg ab
  by_cases h1:a<0<;>by_cases h2:b<0<;>simp [h1,h2,Int.neg_mul,Int.mul_neg]
theorem tm {x y:Int} (h:0≤x):Int.tmod x y=x%y:=Int.tmod_eq_emod_of_nonneg h
theorem td {x y:Int} (h:0≤x):Int.tdiv x y=x/y:=Int.tdiv_eq_ediv_of_nonneg h
theorem tdiv_ab (a b:Int):Int.tdiv a b=sg (ab a/ab b) (decide (a<0) != decide (b<0)):=by
  unfold sg ab
  by_cases h1:a<0<;>by_cases h2:b<0
  · simp only [h1,h2,if_pos]
    rw [if_neg (by simp),←Int.tdiv_eq_ediv_of_nonneg (by omega),Int.neg_tdiv,Int.tdiv_neg,Int.neg_neg]
  · simp only [h1,h2,if_pos,if_neg,not_false_eq_true]
    rw [if_pos (by simp),←Int.tdiv_eq_ediv_of_nonneg (by omega),Int.neg_tdiv,Int.neg_neg]
  · simp only [h1,h2,if_pos,if_neg,not_false_eq_true]
    rw [if_pos (by simp),←Int.tdiv_eq_ediv_of_nonneg (by omega),Int.tdiv_neg,Int.neg_neg]
  · simp only [h1,h2,if_neg,not_false_eq_true]
    rw [if_neg (by simp),←Int.tdiv_eq_ediv_of_nonneg (by omega)]
theorem tmod_ab (a b:Int):Int.tmod a b=sg (ab a%ab b) (decide (a<0)):=by
  unfold sg ab
  by_cases h1:a<0<;>by_cases h2:b<0
  · simp only [h1,h2,if_pos,decide_true]
    rw [←Int.tmod_eq_emod_of_nonneg (by omega),Int.neg_tmod,Int.tmod_neg,Int.neg_neg]
  · simp only [h1,h2,if_pos,if_neg,not_false_eq_true,decide_true]
    rw [←Int.tmod_eq_emod_of_nonneg (by omega),Int.neg_tmod,Int.neg_neg]
  · simp only [h1,h2,if_pos,if_neg,not_false_eq_true,decide_false]
    rw [if_neg (by simp),←Int.tmod_eq_emod_of_nonneg (by omega),Int.tmod_neg]
  · simp only [h1,h2,if_neg,not_false_eq_true,decide_false]
    rw [if_neg (by simp),←Int.tmod_eq_emod_of_nonneg (by omega)]
theorem ab_pos {b:Int} (h:b≠0):0<ab b:=by unfold ab;split<;>omega
theorem ediv_le {n d:Int} (h0:0≤n) (hd:0<d):0≤n/d∧n/d≤n:=⟨Int.ediv_nonneg h0 (by omega),Int.ediv_le_self d h0⟩
theorem tdiv_bounds {a b:Int} (ha:In64 a) (hb:b≠0):-9223372036854775808≤Int.tdiv a b∧Int.tdiv a b≤9223372036854775808:=by
  have A:=ab_range ha
  have q:=ediv_le A.1 (ab_pos hb)
  rw [tdiv_ab]
  unfold sg
  split<;>omega
theorem tdiv_out {a b:Int} (ha:In64 a) (hb:In64 b) (h:b≠0):In64 (Int.tdiv a b)↔¬(a=-9223372036854775808∧b=-1):=by
  have hq:=tdiv_bounds ha h
  constructor
  · rintro hi ⟨rfl,rfl⟩
    revert hi;decide
  · intro hn
    refine ⟨hq.1,?_⟩
    by_cases h1:a=-9223372036854775808
    · have h2:b≠-1:=fun e=>hn ⟨h1,e⟩
      have hb2:=hb
      unfold In64 at hb2
      rw [tdiv_ab,h1]
      have hab:ab b=1∨2≤ab b:=by unfold ab;split<;>omega
      have e:ab (-9223372036854775808)=9223372036854775808:=by decide
      rw [e]
      rcases hab with hab|hab
      · rw [hab]
        have hb1:b=1:=by unfold ab at hab;split at hab<;>omega
        subst hb1
        decide
      · have hle:(9223372036854775808:Int)/ab b≤9223372036854775808/2:=by
          have h3:(9223372036854775808:Int)/ab b * ab b≤9223372036854775808:=Int.ediv_mul_le _ (by omega)
          have h4:0≤(9223372036854775808:Int)/ab b:=Int.ediv_nonneg (by omega) (by omega)
          have h5:(9223372036854775808:Int)/ab b * 2≤9223372036854775808/ab b * ab b:=Int.mul_le_mul_of_nonneg_left hab h4
          omega
        have h4:0≤(9223372036854775808:Int)/ab b:=Int.ediv_nonneg (by omega) (by omega)
        unfold sg
        split<;>omega
    · rw [tdiv_ab]
      have A:ab a≤9223372036854775807:=by unfold In64 at ha;unfold ab;split<;>omega
      have q:=ediv_le (ab_range ha).1 (ab_pos h)
      unfold sg
      split<;>omega
theorem tmod_in {a b:Int} (ha:In64 a) (hb:In64 b) (h:b≠0):In64 (Int.tmod a b):=by
  have A:=ab_range ha
  have B:=ab_range hb
  have hp:=ab_pos h
  have m0:=Int.emod_nonneg (ab a) (show ab b≠0 by omega)
  have m1:=Int.emod_lt_of_pos (ab a) hp
  rw [tmod_ab]
  unfold In64 sg
  split<;>omega
theorem mul_words {x y:Int} (hx0:0≤x) (hx:x<18446744073709551616) (hy0:0≤y) (hy:y<18446744073709551616):∃q11 q10 q01 q00:Int,x/4294967296 * (y/4294967296)=q11∧x/4294967296 * (y%4294967296)=q10∧x%4294967296 * (y/4294967296)=q01∧x%4294967296 * (y%4294967296)=q00 ∧
    x * y=q11 * (4294967296 * 4294967296)+(q10 * 4294967296+q01 * 4294967296)+q00∧(0≤q11∧q11≤4294967295 * 4294967295)∧(0≤q10∧q10≤4294967295 * 4294967295)∧(0≤q01∧q01≤4294967295 * 4294967295)∧(0≤q00∧q00≤4294967295 * 4294967295):=by
  obtain ⟨ex,x1,x2,x3,x4⟩:=halves x hx0 hx
  obtain ⟨ey,y1,y2,y3,y4⟩:=halves y hy0 hy
  have e:=prod4 (x/4294967296) (x%4294967296) (y/4294967296) (y%4294967296) 4294967296
  rw [←ex,←ey,Int.add_mul] at e
  exact ⟨_,_,_,_,rfl,rfl,rfl,rfl,e,prod_le x1 x2 y1 y2,prod_le x1 x2 y3 y4,prod_le x3 x4 y1 y2,prod_le x3 x4 y3 y4⟩
attribute [local irreducible] W Cl Bd
variable {g:Cg} {V:K→Option (List AV)}
theorem truth_c (hp:Plain g 116=true) (c:Bool):Cl Tryz.prog g V 116 [.bool c] [] fun o _=>o=.ret (.int .i64 (if c=true then 1 else 0)):=by
  refine Cl.enter hp Tryz.func116 rfl ?_
  cases c
  repeat' first|(with_reducible first|refine za ?_|refine zb ?_|refine zc ?_)|refine ym zr ?_|(with_reducible first|refine zd ?_|refine zj ?_|refine zk ?_)|refine W.condT zr ?_|refine W.condF zr ?_|refine W.done zr ?_
  all_goals rfl
theorem truthR_c (hp:Plain g 208=true) (c:Bool):Cl Tryz.prog g V 208 [.bool c] [] fun o _=>o=.ret (.int .i64 (if c=true then 1 else 0)):=by
  refine Cl.enter hp Tryz.func208 rfl ?_
  cases c
  repeat' first|(with_reducible first|refine za ?_|refine zb ?_|refine zc ?_)|refine ym zr ?_|(with_reducible first|refine zd ?_|refine zj ?_|refine zk ?_)|refine W.condT zr ?_|refine W.condF zr ?_|refine W.done zr ?_
  all_goals rfl
theorem told_c (hp:Plain g 179=true) (n:Int) (c:Bool):Cl Tryz.prog g V 179 [.int .i64 n,.bool c] [] fun o _=>o=.ret (toldV n c):=by
  refine Cl.enter hp Tryz.func179 rfl ?_
  cases c
  repeat' first|(with_reducible first|refine za ?_|refine zb ?_|refine zc ?_)|refine ym zr ?_|(with_reducible first|refine zd ?_|refine zj ?_|refine zk ?_)|refine W.condT zr ?_|refine W.condF zr ?_|refine W.done zr ?_
  all_goals rfl
theorem exact_c (hp:Plain g 148=true) (n:Int) (c:Bool):Cl Tryz.prog g V 148 [.int .i64 n,.bool c] [] fun o _=>o=.ret (exV n c):=by
  refine Cl.enter hp Tryz.func148 rfl ?_
  cases c
  repeat' first|(with_reducible first|refine za ?_|refine zb ?_|refine zc ?_)|refine ym zr ?_|(with_reducible first|refine zd ?_|refine zj ?_|refine zk ?_)|refine W.condT zr ?_|refine W.condF zr ?_|refine W.done zr ?_
  all_goals rfl
theorem exactR_c (hp:Plain g 210=true) (n:Int) (c:Bool):Cl Tryz.prog g V 210 [.int .i64 n,.bool c] [] fun o _=>o=.ret (exV n c):=by
  refine Cl.enter hp Tryz.func210 rfl ?_
  cases c
  repeat' first|(with_reducible first|refine za ?_|refine zb ?_|refine zc ?_)|refine ym zr ?_|(with_reducible first|refine zd ?_|refine zj ?_|refine zk ?_)|refine W.condT zr ?_|refine W.condF zr ?_|refine W.done zr ?_
  all_goals rfl
structure NumG (g:Cg):Prop where
  told:Plain g 179=true
  add:Plain g 150=true
  sub:Plain g 151=true
  mul:Plain g 152=true
  div:Plain g 153=true
  mod:Plain g 154=true
  neg:Plain g 149=true
  size:Plain g 181=true
  signed:Plain g 182=true
  mul64:Plain g 180=true
  addR:Plain g 211=true
  subR:Plain g 212=true
  mulR:Plain g 213=true
  divR:Plain g 236=true
  modR:Plain g 237=true
  negR:Plain g 209=true
  sizeR:Plain g 234=true
  signedR:Plain g 235=true
  wide:Plain g 233=true
theorem ret2 {x y:Int} {c d:Bool} (h1:x=y) (h2:c=d):RO.ret (AV.tup [.int .i64 x,.bool c])=.ret (.tup [.int .i64 y,.bool d]):=by rw [h1,h2]
theorem tell_eq {n x:Int} {c:Bool} (h:c=decide (In64 x)) (hn:In64 x→n=x):RO.ret (AV.tup [.int .i64 (if c=true then n else 0),.bool c])=.ret (tellV x):=congrArg RO.ret (toldV_eq h hn)
theorem add_c (N:NumG g) {a b:Int} (ha:In64 a) (hb:In64 b):Cl Tryz.prog g V 150 [.int .i64 a,.int .i64 b] [] fun o _=>o=.ret (tellV (a+b)):=by
  refine Cl.enter N.add Tryz.func150 rfl ?_
  unfold In64 at ha hb
  repeat' first|refine W.callP rfl rfl rfl rfl (told_c N.told _ _) ?_|(with_reducible first|refine za ?_|refine zb ?_|refine zc ?_)|refine ym zr ?_|with_reducible refine zj ?_|refine W.done zr ?_
  all_goals
    refine tell_eq ?_ fun h=>by unfold In64 at h;exact w64 h.1 h.2
    rw [wrap64]
    by_cases h1:(0:Int)<b<;>by_cases h2:In64 (a+b)<;>simp only [h1,h2,decide_true,decide_false]<;>unfold In64 at h2<;>simp<;>omega
theorem sub_c (N:NumG g) {a b:Int} (ha:In64 a) (hb:In64 b):Cl Tryz.prog g V 151 [.int .i64 a,.int .i64 b] [] fun o _=>o=.ret (tellV (a-b)):=by
  refine Cl.enter N.sub Tryz.func151 rfl ?_
  unfold In64 at ha hb
  repeat' first|refine W.callP rfl rfl rfl rfl (told_c N.told _ _) ?_|(with_reducible first|refine za ?_|refine zb ?_|refine zc ?_)|refine ym zr ?_|with_reducible refine zj ?_|refine W.done zr ?_
  all_goals
    refine tell_eq ?_ fun h=>by unfold In64 at h;exact w64 h.1 h.2
    rw [wrap64]
    by_cases h1:(0:Int)<b<;>by_cases h2:In64 (a-b)<;>simp only [h1,h2,decide_true,decide_false]<;>unfold In64 at h2<;>simp<;>omega
theorem neg_c (N:NumG g) {a:Int} (ha:In64 a):Cl Tryz.prog g V 149 [.int .i64 a] [] fun o _=>o=.ret (tellV (-a)):=by
  refine Cl.enter N.neg Tryz.func149 rfl ?_
  unfold In64 at ha
  repeat' first|refine W.callP rfl rfl rfl rfl (told_c N.told _ _) ?_|(with_reducible first|refine za ?_|refine zb ?_|refine zc ?_)|refine ym zr ?_|with_reducible refine zj ?_|refine W.done zr ?_
  all_goals
    refine tell_eq ?_ fun h=>by unfold In64 at h;rw [w64 (by omega) (by omega)];omega
    by_cases h1:a=-9223372036854775808
    · subst h1;decide
    · rw [show decide (In64 (-a))=true from decide_eq_true (by unfold In64;omega)]
      simp [h1]
theorem size_c (N:NumG g) {a:Int} (ha:In64 a):Cl Tryz.prog g V 181 [.int .i64 a] [] fun o _=>o=.ret (.int .u64 (ab a)):=by
  refine Cl.enter N.size Tryz.func181 rfl ?_
  unfold In64 at ha
  repeat' first|(with_reducible first|refine za ?_|refine zb ?_|refine zc ?_)|refine ym zr ?_|(with_reducible first|refine zd ?_|refine zj ?_|refine zk ?_)|(refine W.condP zr ?_ ?_<;>intro _)|refine W.done zr ?_
  all_goals
    show RO.ret (AV.int .u64 _)=RO.ret (AV.int .u64 _)
    congr 2
    simp only [mU64]
    unfold ab
    split<;>omega
theorem sizeR_c (N:NumG g) {a:Int} (ha:In64 a):Cl Tryz.prog g V 234 [.int .i64 a] [] fun o _=>o=.ret (.int .u64 (ab a)):=by
  refine Cl.enter N.sizeR Tryz.func234 rfl ?_
  unfold In64 at ha
  repeat' first|(with_reducible first|refine za ?_|refine zb ?_|refine zc ?_)|refine ym zr ?_|(with_reducible first|refine zd ?_|refine zj ?_|refine zk ?_)|(refine W.condP zr ?_ ?_<;>intro _)|refine W.done zr ?_
  all_goals
    show RO.ret (AV.int .u64 _)=RO.ret (AV.int .u64 _)
    congr 2
    try simp only [mU64,wrap64]
    unfold ab
    split<;>omega
theorem signed64_c (N:NumG g) {n:Int} (h0:0≤n) (h1:n<18446744073709551616) (m:Bool):Cl Tryz.prog g V 182 [.int .u64 n,.bool m] [] fun o _=>o=.ret (tellV (sg n m)):=by
  refine Cl.enter N.signed Tryz.func182 rfl ?_
  cases m
  repeat' first|refine W.callP rfl rfl rfl rfl (told_c N.told _ _) ?_|(with_reducible first|refine za ?_|refine zb ?_|refine zc ?_)|refine ym zr ?_|(with_reducible first|refine zd ?_|refine zj ?_|refine zk ?_)|refine W.condT zr ?_|refine W.condF zr ?_|refine W.done zr ?_
  · refine tell_eq ?_ fun h=>?_
    · rw [decide_eq_decide]
      show _↔In64 n
      unfold In64;omega
    · have h:In64 n:=h
      show _=n
      unfold In64 at h;rw [wrap64];omega
  · refine tell_eq ?_ fun h=>?_
    · rw [decide_eq_decide]
      show _↔In64 (-n)
      unfold In64;omega
    · have h:In64 (-n):=h
      show _=-n
      unfold In64 at h;rw [wrap64,wrap64];omega
theorem signedR64_c (N:NumG g) {n:Int} (h0:0≤n) (h1:n<18446744073709551616) (m:Bool):Cl Tryz.prog g V 235 [.int .u64 n,.bool m] [] fun o _=>o=.ret (tellV (sg n m)):=by
  refine Cl.enter N.signedR Tryz.func235 rfl ?_
  cases m
  repeat' first|(with_reducible first|refine za ?_|refine zb ?_|refine zc ?_)|refine ym zr ?_|(with_reducible first|refine zd ?_|refine zj ?_|refine zk ?_)|refine zx zr zr zr ?_|(refine W.condP zr ?_ ?_<;>intro _)|refine W.condT zr ?_|refine W.condF zr ?_|refine W.done zr ?_
  · show RO.ret (AV.tup [_,_])=.ret (tellV n)
    unfold tellV
    rw [if_neg (by unfold In64;omega),decide_eq_false (by unfold In64;omega)]
  · show RO.ret (AV.tup [_,_])=.ret (tellV n)
    unfold tellV
    rw [if_pos (by unfold In64;omega),decide_eq_true (by unfold In64;omega),w64 (by omega) (by omega)]
  · show RO.ret (AV.tup [_,_])=.ret (tellV (-n))
    unfold tellV
    rw [if_pos (by unfold In64;omega),decide_eq_true (by unfold In64;omega)]
    subst ‹n=_›;rfl
  · show RO.ret (AV.tup [_,_])=.ret (tellV (-n))
    unfold tellV
    rw [if_neg (by unfold In64;omega),decide_eq_false (by unfold In64;omega)]
  · show RO.ret (AV.tup [_,_])=.ret (tellV (-n))
    unfold tellV
    rw [if_pos (by unfold In64;omega),decide_eq_true (by unfold In64;omega),w64 (n:=n) (by omega) (by omega),w64 (by omega) (by omega),Int.zero_sub]
theorem wide_c (N:NumG g) {x y:Int} (hx0:0≤x) (hx:x<18446744073709551616) (hy0:0≤y) (hy:y<18446744073709551616):Cl Tryz.prog g V 233 [.int .u64 x,.int .u64 y] [] fun o _=>o=.ret (.tup [.int .u64 (x * y/18446744073709551616),.int .u64 (x * y%18446744073709551616)]):=by
  refine Cl.enter N.wide Tryz.func233 rfl ?_
  obtain ⟨q11,q10,q01,q00,e11,e10,e01,e00,e,p11,p10,p01,p00⟩:=mul_words hx0 hx hy0 hy
  have ex:∀ {z:Int},0≤z→z<18446744073709551616→IntKind.u64.wrap z=z:=fun h0 h1=>mU64_id h0 h1
  repeat' first|refine W.div rfl rfl rfl rfl (by decide) ?_|refine W.rem rfl rfl rfl rfl (by decide) ?_|(with_reducible first|refine za ?_|refine zb ?_|refine zc ?_)|refine ym zr ?_|with_reducible refine zj ?_|refine zw (by decide +kernel) ?_|refine W.done zr ?_
  all_goals
    show RO.ret (AV.tup [.int .u64 _,.int .u64 _])=RO.ret (AV.tup [.int .u64 _,.int .u64 _])
    rw [td hx0,td hy0,tm hx0,tm hy0,ex (z:=x/4294967296) (by omega) (by omega),ex (z:=y/4294967296) (by omega) (by omega),e11,e10,e01,e00]
    generalize x * y=P at e ⊢
    clear e11 e10 e01 e00
    rw [ex (z:=q00) (by omega) (by omega),ex (z:=q10) (by omega) (by omega),ex (z:=q01) (by omega) (by omega),ex (z:=q11) (by omega) (by omega)]
    rw [td (x:=q00) (by omega),td (x:=q10) (by omega),td (x:=q01) (by omega),tm (x:=q00) (by omega),tm (x:=q10) (by omega),tm (x:=q01) (by omega)]
    rw [ex (z:=q00/4294967296) (by omega) (by omega),ex (z:=q10/4294967296) (by omega) (by omega),ex (z:=q01/4294967296) (by omega) (by omega)]
    rw [ex (z:=q00/4294967296+q10%4294967296) (by omega) (by omega),ex (z:=q00/4294967296+q10%4294967296+q01%4294967296) (by omega) (by omega)]
    rw [td (x:=q00/4294967296+q10%4294967296+q01%4294967296) (by omega),tm (x:=q00/4294967296+q10%4294967296+q01%4294967296) (by omega)]
    rw [ex (z:=(q00/4294967296+q10%4294967296+q01%4294967296)/4294967296) (by omega) (by omega),ex (z:=q11+q10/4294967296) (by omega) (by omega),ex (z:=q11+q10/4294967296+q01/4294967296) (by omega) (by omega),ex (z:=q11+q10/4294967296+q01/4294967296+(q00/4294967296+q10%4294967296+q01%4294967296)/4294967296) (by omega) (by omega)]
    rw [ex (z:=(q00/4294967296+q10%4294967296+q01%4294967296)%4294967296 * 4294967296) (by omega) (by omega),ex (by omega) (by omega)]
    congr 3
    · congr 1;omega
    · congr 2;omega
theorem mul64_c (N:NumG g) {x y:Int} (hx0:0≤x) (hx:x<18446744073709551616) (hy0:0≤y) (hy:y<18446744073709551616):Cl Tryz.prog g V 180 [.int .u64 x,.int .u64 y] [] fun o _=>o=.ret (.tup [.int .u64 (x * y/18446744073709551616),.int .u64 (x * y%18446744073709551616)]):=by
  refine Cl.enter N.mul64 Tryz.func180 rfl ?_
  obtain ⟨q11,q10,q01,q00,e11,e10,e01,e00,e,p11,p10,p01,p00⟩:=mul_words hx0 hx hy0 hy
  have ex:∀ {z:Int},0≤z→z<18446744073709551616→IntKind.u64.wrap z=z:=fun h0 h1=>mU64_id h0 h1
  have sh:∀z:Int,z.fdiv (2^(min (32:Int).toNat IntKind.u64.bits))=z/4294967296:=fun z=>by
    rw [show (2:Int)^(min (32:Int).toNat IntKind.u64.bits)=4294967296 from rfl,Int.fdiv_eq_ediv_of_nonneg _ (by decide)]
  repeat' first|refine W.shr rfl rfl rfl rfl (by decide) ?_|(with_reducible first|refine za ?_|refine zb ?_|refine zc ?_)|refine ym zr ?_|with_reducible refine zj ?_|refine W.done zr ?_
  all_goals
    show RO.ret (AV.tup [.int .u64 _,.int .u64 _])=RO.ret (AV.tup [.int .u64 _,.int .u64 _])
    simp only [sh]
    rw [and32 x hx0 hx,and32 y hy0 hy,mU64 (x * y),e11,e10,e01,e00]
    generalize x * y=P at e ⊢
    clear e11 e10 e01 e00
    rw [ex (z:=q00) (by omega) (by omega),ex (z:=q10) (by omega) (by omega),ex (z:=q01) (by omega) (by omega),ex (z:=q11) (by omega) (by omega)]
    rw [ex (z:=q10+q00/4294967296) (by omega) (by omega),and32 _ (by omega) (by omega)]
    rw [ex (z:=(q10+q00/4294967296)%4294967296+q01) (by omega) (by omega),ex (z:=q11+(q10+q00/4294967296)/4294967296) (by omega) (by omega),ex (by omega) (by omega)]
    congr 3
    congr 1;omega
theorem mul_c (N:NumG g) {a b:Int} (ha:In64 a) (hb:In64 b):Cl Tryz.prog g V 152 [.int .i64 a,.int .i64 b] [] fun o _=>o=.ret (tellV (a * b)):=by
  refine Cl.enter N.mul Tryz.func152 rfl ?_
  have A:=ab_range ha
  have B:=ab_range hb
  have hp:=prod_le A.1 A.2 B.1 B.2
  have hs:=sg_ab a b
  have hm:0≤ab a * ab b%18446744073709551616∧ab a * ab b%18446744073709551616<18446744073709551616:=by omega
  repeat' first|refine W.callP rfl rfl rfl rfl (size_c N ha) ?_|refine W.callP rfl rfl rfl rfl (size_c N hb) ?_|refine W.callP rfl rfl rfl rfl (mul64_c N A.1 (by omega) B.1 (by omega)) ?_|refine W.callP rfl rfl rfl rfl (signed64_c N hm.1 hm.2 _) ?_|(with_reducible first|refine za ?_|refine zb ?_|refine zc ?_)|refine ym zr ?_|(with_reducible first|refine zd ?_|refine zj ?_|refine zk ?_)|(refine W.condP zr ?_ ?_<;>intro _)|refine W.done zr ?_
  · show RO.ret (AV.tup [_,_])=.ret (tellV (a * b))
    have:¬In64 (a * b):=by rw [←hs];unfold sg In64;split<;>omega
    unfold tellV
    rw [if_neg this,decide_eq_false this]
  · show RO.ret (tellV (sg (ab a * ab b%18446744073709551616) (decide (a<0) != decide (b<0))))=_
    rw [show ab a * ab b%18446744073709551616=ab a * ab b by omega,hs]
theorem mulR_c (N:NumG g) {a b:Int} (ha:In64 a) (hb:In64 b):Cl Tryz.prog g V 213 [.int .i64 a,.int .i64 b] [] fun o _=>o=.ret (tellV (a * b)):=by
  refine Cl.enter N.mulR Tryz.func213 rfl ?_
  have A:=ab_range ha
  have B:=ab_range hb
  have hp:=prod_le A.1 A.2 B.1 B.2
  have hs:=sg_ab a b
  have hm:0≤ab a * ab b%18446744073709551616∧ab a * ab b%18446744073709551616<18446744073709551616:=by omega
  repeat' first|refine W.callP rfl rfl rfl rfl (sizeR_c N ha) ?_|refine W.callP rfl rfl rfl rfl (sizeR_c N hb) ?_|refine W.callP rfl rfl rfl rfl (wide_c N A.1 (by omega) B.1 (by omega)) ?_|refine W.callP rfl rfl rfl rfl (signedR64_c N hm.1 hm.2 _) ?_|(with_reducible first|refine za ?_|refine zb ?_|refine zc ?_)|refine ym zr ?_|(with_reducible first|refine zd ?_|refine zj ?_|refine zk ?_)|(refine W.condP zr ?_ ?_<;>intro _)|refine W.done zr ?_
  · show RO.ret (AV.tup [_,_])=.ret (tellV (a * b))
    have:¬In64 (a * b):=by rw [←hs];unfold sg In64;split<;>omega
    unfold tellV
    rw [if_neg this,decide_eq_false this]
  · show RO.ret (tellV (sg (ab a * ab b%18446744073709551616) (decide (a<0) != decide (b<0))))=_
    rw [show ab a * ab b%18446744073709551616=ab a * ab b by omega,hs]
theorem addR_c (N:NumG g) {a b:Int} (ha:In64 a) (hb:In64 b):Cl Tryz.prog g V 211 [.int .i64 a,.int .i64 b] [] fun o _=>o=.ret (tellV (a+b)):=by
  refine Cl.enter N.addR Tryz.func211 rfl ?_
  unfold In64 at ha hb
  repeat' first|(with_reducible first|refine za ?_|refine zb ?_|refine zc ?_)|refine ym zr ?_|(with_reducible first|refine zd ?_|refine zj ?_|refine zk ?_)|refine zx zr zr zr ?_|(refine W.condP zr ?_ ?_<;>intro _)|refine W.condT zr ?_|refine W.condF zr ?_|(refine W.gs zr zr zr zr ?_ ?_<;>intro _)|refine W.done zr ?_
  all_goals
    show RO.ret (AV.tup [_,_])=.ret (tellV (a+b))
    unfold tellV
    try simp only [wrap64] at *
    by_cases hi:In64 (a+b)
    · first
        | (exfalso;unfold In64 at hi;omega)
        | (rw [if_pos hi,decide_eq_true hi];unfold In64 at hi;exact ret2 (by omega) rfl)
    · first
        | (exfalso;unfold In64 at hi;omega)
        | (rw [if_neg hi,decide_eq_false hi])
theorem subR_c (N:NumG g) {a b:Int} (ha:In64 a) (hb:In64 b):Cl Tryz.prog g V 212 [.int .i64 a,.int .i64 b] [] fun o _=>o=.ret (tellV (a-b)):=by
  refine Cl.enter N.subR Tryz.func212 rfl ?_
  unfold In64 at ha hb
  repeat' first|(with_reducible first|refine za ?_|refine zb ?_|refine zc ?_)|refine ym zr ?_|(with_reducible first|refine zd ?_|refine zj ?_|refine zk ?_)|refine zx zr zr zr ?_|(refine W.condP zr ?_ ?_<;>intro _)|refine W.condT zr ?_|refine W.condF zr ?_|(refine W.gs zr zr zr zr ?_ ?_<;>intro _)|refine W.done zr ?_
  all_goals
    show RO.ret (AV.tup [_,_])=.ret (tellV (a-b))
    unfold tellV
    try simp only [wrap64] at *
    by_cases hi:In64 (a-b)
    · first
        | (exfalso;unfold In64 at hi;omega)
        | (rw [if_pos hi,decide_eq_true hi];unfold In64 at hi;exact ret2 (by omega) rfl)
    · first
        | (exfalso;unfold In64 at hi;omega)
        | (rw [if_neg hi,decide_eq_false hi])
theorem negR_c (N:NumG g) {a:Int} (ha:In64 a):Cl Tryz.prog g V 209 [.int .i64 a] [] fun o _=>o=.ret (tellV (-a)):=by
  refine Cl.enter N.negR Tryz.func209 rfl ?_
  unfold In64 at ha
  repeat' first|(with_reducible first|refine za ?_|refine zb ?_|refine zc ?_)|refine ym zr ?_|(with_reducible first|refine zd ?_|refine zj ?_|refine zk ?_)|(refine W.condP zr ?_ ?_<;>intro _)|refine W.done zr ?_
  all_goals
    show RO.ret (AV.tup [_,_])=.ret (tellV (-a))
    unfold tellV
    try simp only [wrap64] at *
    by_cases hi:In64 (-a)
    · first
        | (exfalso;unfold In64 at hi;omega)
        | (rw [if_pos hi,decide_eq_true hi];unfold In64 at hi;exact ret2 (by omega) rfl)
    · first
        | (exfalso;unfold In64 at hi;omega)
        | (rw [if_neg hi,decide_eq_false hi])
def dvV (a b:Int):AV:=if b=0 then .tup [.int .i64 0,.bool false] else tellV (Int.tdiv a b)
def mdV (a b:Int):AV:=if b=0 then .tup [.int .i64 0,.bool false] else .tup [.int .i64 (Int.tmod a b),.bool true]
theorem div_c (N:NumG g) {a b:Int} (ha:In64 a) (hb:In64 b):Cl Tryz.prog g V 153 [.int .i64 a,.int .i64 b] [] fun o _=>o=.ret (dvV a b):=by
  refine Cl.enter N.div Tryz.func153 rfl ?_
  unfold dvV
  by_cases h:b=0
  · rw [if_pos h]
    subst h
    repeat' first|(with_reducible first|refine za ?_|refine zb ?_|refine zc ?_)|refine ym zr ?_|(with_reducible first|refine zj ?_|refine zk ?_)|refine zx zr zr zr ?_|refine W.condT zr ?_|refine W.done zr ?_
    all_goals first|rfl|(exfalso;omega)
  · rw [if_neg h]
    have ho:=tdiv_out ha hb h
    repeat' first|refine W.div rfl rfl rfl rfl h ?_|(with_reducible first|refine za ?_|refine zb ?_|refine zc ?_)|refine ym zr ?_|(with_reducible first|refine zd ?_|refine zj ?_|refine zk ?_)|refine zx zr zr zr ?_|(refine W.condP zr ?_ ?_<;>intro _)|refine W.condT zr ?_|refine W.condF zr ?_|(refine W.gs zr zr zr zr ?_ ?_<;>intro _)|refine W.done zr ?_
    all_goals
      show RO.ret (AV.tup [_,_])=.ret (tellV (Int.tdiv a b))
      unfold tellV
      by_cases hi:In64 (Int.tdiv a b)
      · have h9:=ho.1 hi
        first
          | (exfalso;omega)
          | (rw [if_pos hi,decide_eq_true hi];unfold In64 at hi;exact ret2 (w64 hi.1 hi.2) rfl)
      · have h9:=Classical.not_not.1 fun h=>hi (ho.2 h)
        first
          | (exfalso;omega)
          | (rw [if_neg hi,decide_eq_false hi])
theorem mod_c (N:NumG g) {a b:Int} (ha:In64 a) (hb:In64 b):Cl Tryz.prog g V 154 [.int .i64 a,.int .i64 b] [] fun o _=>o=.ret (mdV a b):=by
  refine Cl.enter N.mod Tryz.func154 rfl ?_
  unfold mdV
  by_cases h:b=0
  · rw [if_pos h]
    subst h
    repeat' first|(with_reducible first|refine za ?_|refine zb ?_|refine zc ?_)|refine ym zr ?_|(with_reducible first|refine zd ?_|refine zj ?_|refine zk ?_)|(refine W.condP zr ?_ ?_<;>intro _)|refine W.done zr ?_
    all_goals first|rfl|(exfalso;omega)
  · rw [if_neg h]
    repeat' first|refine W.rem rfl rfl rfl rfl h ?_|(with_reducible first|refine za ?_|refine zb ?_|refine zc ?_)|refine ym zr ?_|(with_reducible first|refine zd ?_|refine zj ?_|refine zk ?_)|(refine W.condP zr ?_ ?_<;>intro _)|refine W.done zr ?_
    all_goals first|rfl|(exfalso;omega)
theorem divR_c (N:NumG g) {a b:Int} (ha:In64 a) (hb:In64 b):Cl Tryz.prog g V 236 [.int .i64 a,.int .i64 b] [] fun o _=>o=.ret (dvV a b):=by
  refine Cl.enter N.divR Tryz.func236 rfl ?_
  unfold dvV
  by_cases h:b=0
  · rw [if_pos h]
    subst h
    repeat' first|(with_reducible first|refine za ?_|refine zb ?_|refine zc ?_)|refine ym zr ?_|(with_reducible first|refine zd ?_|refine zj ?_|refine zk ?_)|(refine W.condP zr ?_ ?_<;>intro _)|refine W.done zr ?_
    all_goals first|rfl|(exfalso;omega)
  · rw [if_neg h]
    have A:=ab_range ha
    have hp:=ab_pos h
    have q:=ediv_le A.1 hp
    have e:IntKind.u64.wrap (Int.tdiv (ab a) (ab b))=ab a/ab b:=by rw [td A.1,mU64_id (by omega) (by omega)]
    repeat' first|refine W.callP rfl rfl rfl rfl (sizeR_c N ha) ?_|refine W.callP rfl rfl rfl rfl (sizeR_c N hb) ?_|(refine W.div rfl rfl rfl rfl (by omega) ?_;rw [e])|refine W.callP rfl rfl rfl rfl (signedR64_c N q.1 (by omega) _) ?_|(with_reducible first|refine za ?_|refine zb ?_|refine zc ?_)|refine ym zr ?_|(with_reducible first|refine zd ?_|refine zj ?_|refine zk ?_)|(refine W.condP zr ?_ ?_<;>intro _)|refine W.done zr ?_
    · exact absurd ‹b=0› h
    · show RO.ret (tellV (sg (ab a/ab b) (decide (a<0) != decide (b<0))))=_
      rw [←tdiv_ab]
theorem modR_c (N:NumG g) {a b:Int} (ha:In64 a) (hb:In64 b):Cl Tryz.prog g V 237 [.int .i64 a,.int .i64 b] [] fun o _=>o=.ret (mdV a b):=by
  refine Cl.enter N.modR Tryz.func237 rfl ?_
  unfold mdV
  by_cases h:b=0
  · rw [if_pos h]
    subst h
    repeat' first|(with_reducible first|refine za ?_|refine zb ?_|refine zc ?_)|refine ym zr ?_|(with_reducible first|refine zd ?_|refine zj ?_|refine zk ?_)|(refine W.condP zr ?_ ?_<;>intro _)|refine W.done zr ?_
    all_goals first|rfl|(exfalso;omega)
  · rw [if_neg h]
    have A:=ab_range ha
    have B:=ab_range hb
    have hp:=ab_pos h
    have m0:=Int.emod_nonneg (ab a) (show ab b≠0 by omega)
    have m1:=Int.emod_lt_of_pos (ab a) hp
    repeat' first|refine W.callP rfl rfl rfl rfl (sizeR_c N ha) ?_|refine W.callP rfl rfl rfl rfl (sizeR_c N hb) ?_|(refine W.rem rfl rfl rfl rfl (by omega) ?_;rw [tm A.1])|refine W.callP rfl rfl rfl rfl (signedR64_c N m0 (by omega) _) ?_|(with_reducible first|refine za ?_|refine zb ?_|refine zc ?_)|refine ym zr ?_|(with_reducible first|refine zd ?_|refine zj ?_|refine zk ?_)|(refine W.condP zr ?_ ?_<;>intro _)|refine W.done zr ?_
    · exact absurd ‹b=0› h
    · show RO.ret (tellV (sg (ab a%ab b) (decide (a<0))))=_
      rw [←tmod_ab]
      have:=tmod_in ha hb h
      unfold tellV
      rw [if_pos this,decide_eq_true this]
end Go.Proofs.YtoegffiapnnkiaaGreat.Abs
