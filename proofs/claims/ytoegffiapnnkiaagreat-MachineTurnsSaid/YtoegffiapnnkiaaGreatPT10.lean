/- Parts of one proof. No condition but those that each theorem names. -/
import Derived.Test.YtoegffiapnnkiaaGreatPT09
namespace Go.Proofs.YtoegffiapnnkiaaGreat.Abs
open Go
set_option linter.unusedVariables false
set_option linter.unusedSimpArgs false
set_option maxRecDepth 100000
set_option maxHeartbeats 4000000
attribute [local irreducible] W Cl Bd
variable {g:Cg} {V:K→Option (List AV)}
def oneS (o a:Int):Int×Int:=if o=2 then (if a=0 then 1 else 0,0) else if o=3∧0≤a then (a,0) else if In64 (-a) then (-a,0) else (0,10)
def exS (x:Int):Int×Int:=if In64 x then (x,0) else (0,10)
def b01 (p:Prop) [Decidable p]:Int×Int:=(if p then 1 else 0,0)
def twoS (o a b:Int):Int×Int :=
  if o=4 then (min a b,0) else if o=5 then (max a b,0) else if o=11 then b01 (a=b) else if o=12 then b01 (¬a=b) else if o=13 then b01 (a<b) else if o=14 then b01 (a≤b)
  else if o=15 then b01 (b<a) else if o=16 then b01 (b≤a) else if o=7 then exS (a-b) else if o=8 then exS (a * b)
  else if o=9 then (if b=0 then (0,11) else exS (Int.tdiv a b)) else if o=10 then (if b=0 then (0,11) else (Int.tmod a b,0)) else exS (a+b)
def pairV (q:Int×Int):AV:=.tup [.int .i64 q.1,.int .i64 q.2]
theorem exV_eq {n x:Int} {c:Bool} (h:c=decide (In64 x)) (hn:In64 x→n=x):exV n c=pairV (exS x):=by
  subst h
  unfold exV exS pairV
  by_cases h:In64 x
  · rw [hn h];simp [h]
  · simp [h]
theorem exV_tell (x:Int):exV (if In64 x then x else 0) (decide (In64 x))=pairV (exS x):=exV_eq rfl fun h=>if_pos h
structure OprG (g:Cg):Prop where
  N:NumG g
  truth:Plain g 116=true
  exact:Plain g 148=true
  single:Plain g 119=true
  double:Plain g 120=true
  truthR:Plain g 208=true
  exactR:Plain g 210=true
  one:Plain g 184=true
  two:Plain g 185=true
  split:Plain g 214=true
  get:Plain g 117=true
  fields:Plain g 137=true
  getR:Plain g 183=true
theorem single_c (O:OprG g) {a:Int} (ha:In64 a) (o:Int):Cl Tryz.prog g V 119 [.int .u8 o,.int .i64 a] [] fun r _=>r=.ret (pairV (oneS o a)):=by
  refine Cl.enter O.single Tryz.func119 rfl ?_
  repeat' first|refine W.callP rfl rfl rfl rfl (truth_c O.truth _) ?_|refine W.callP rfl rfl rfl rfl (neg_c O.N ha) ?_|refine W.callP rfl rfl rfl rfl (exact_c O.exact _ _) ?_|(with_reducible first|refine za ?_|refine zb ?_|refine zc ?_)|refine ym zr ?_|(with_reducible first|refine zd ?_|refine ze ?_|refine zf ?_|refine zj ?_|refine zk ?_|refine zl ?_)|refine zx zr zr zr ?_|(refine W.condP zr ?_ ?_<;>intro _)|refine W.condF zr ?_|(refine W.gs zr zr zr zr ?_ ?_<;>intro _)|refine W.done zr ?_
  all_goals first
    | (show RO.ret (pairV (if decide (a=0)=true then 1 else 0,0))=_;simp [oneS, *];done)
    | (show RO.ret (pairV (a,0))=_;simp [oneS, *];done)
    | (show RO.ret (exV _ _)=_;rw [exV_tell];simp [oneS,exS, *];done)
    | trace_state
theorem one_c (O:OprG g) {a:Int} (ha:In64 a) (o:Int):Cl Tryz.prog g V 184 [.int .u8 o,.int .i64 a] [] fun r _=>r=.ret (pairV (oneS o a)):=by
  refine Cl.enter O.one Tryz.func184 rfl ?_
  repeat' first|refine W.callP rfl rfl rfl rfl (truthR_c O.truthR _) ?_|refine W.callP rfl rfl rfl rfl (negR_c O.N ha) ?_|refine W.callP rfl rfl rfl rfl (exactR_c O.exactR _ _) ?_|(with_reducible first|refine za ?_|refine zb ?_|refine zc ?_)|refine ym zr ?_|(with_reducible first|refine zd ?_|refine zj ?_|refine zk ?_)|refine zx zr zr zr ?_|(refine W.condP zr ?_ ?_<;>intro _)|refine W.condF zr ?_|(refine W.gs zr zr zr zr ?_ ?_<;>intro _)|refine W.done zr ?_
  all_goals first
    | (show RO.ret (pairV (if decide (a=0)=true then 1 else 0,0))=_;simp [oneS, *];done)
    | (show RO.ret (pairV (a,0))=_;simp [oneS, *];done)
    | (show RO.ret (exV _ _)=_;rw [exV_tell];simp [oneS,exS, *];done)
    | trace_state
theorem split_c (O:OprG g) {a b:Int} (ha:In64 a) (hb:In64 b) {o:Int} (ho:o=9∨o=10):Cl Tryz.prog g V 214 [.int .u8 o,.int .i64 a,.int .i64 b] [] fun r _=>r=.ret (pairV (twoS o a b)):=by
  refine Cl.enter O.split Tryz.func214 rfl ?_
  by_cases h:b=0
  · subst h
    repeat' first|(with_reducible first|refine za ?_|refine zb ?_|refine zc ?_)|refine ym zr ?_|(with_reducible first|refine zd ?_|refine zj ?_|refine zk ?_)|(refine W.condP zr ?_ ?_<;>intro _)|refine W.done zr ?_
    all_goals first
      | (rcases ho with rfl|rfl<;>rfl)
      | (exfalso;omega)
  · have h1:dvV a b=tellV (Int.tdiv a b):=if_neg h
    have h2:mdV a b=.tup [.int .i64 (Int.tmod a b),.bool true]:=if_neg h
    have hd:=divR_c (g:=g) (V:=V) O.N ha hb
    have hm:=modR_c (g:=g) (V:=V) O.N ha hb
    rw [h1] at hd
    rw [h2] at hm
    rcases ho with rfl|rfl
    repeat' first|refine W.callP rfl rfl rfl rfl hd ?_|refine W.callP rfl rfl rfl rfl hm ?_|refine W.callP rfl rfl rfl rfl (exactR_c O.exactR _ _) ?_|(with_reducible first|refine za ?_|refine zb ?_|refine zc ?_)|refine ym zr ?_|(with_reducible first|refine zd ?_|refine zj ?_|refine zk ?_)|(refine W.condP zr ?_ ?_<;>intro _)|refine W.done zr ?_
    all_goals first
      | exact absurd ‹b=0› h
      | (exfalso;omega)
      | (show RO.ret (exV _ _)=_;rw [exV_tell];simp [twoS,h];done)
      | (show RO.ret (pairV (Int.tmod a b,0))=_;simp [twoS,h];done)
      | trace_state
theorem b01_is (p:Prop) [Decidable p]:RO.ret (AV.tup [.int .i64 (if decide p=true then 1 else 0),.int .i64 0])=.ret (pairV (b01 p)):=by simp [pairV,b01]
theorem b01_ex (p:Prop) [Decidable p]:RO.ret (exV (if decide p=true then 1 else 0) true)=.ret (pairV (b01 p)):=by simp [pairV,b01,exV]
theorem double_c (O:OprG g) {a b:Int} (ha:In64 a) (hb:In64 b) {o:Int} (h0:4≤o) (h1:o≤16):Cl Tryz.prog g V 120 [.int .u8 o,.int .i64 a,.int .i64 b] [] fun r _=>r=.ret (pairV (twoS o a b)):=by
  refine Cl.enter O.double Tryz.func120 rfl ?_
  repeat' first|refine W.callP rfl rfl rfl rfl (truth_c O.truth _) ?_|refine W.callP rfl rfl rfl rfl (add_c O.N ha hb) ?_|refine W.callP rfl rfl rfl rfl (sub_c O.N ha hb) ?_|refine W.callP rfl rfl rfl rfl (mul_c O.N ha hb) ?_|(refine W.callP rfl rfl rfl rfl (div_c O.N ha hb) ?_;rw [show dvV a b=tellV (Int.tdiv a b) from if_neg (by assumption)])|(refine W.callP rfl rfl rfl rfl (mod_c O.N ha hb) ?_;rw [show mdV a b=.tup [.int .i64 (Int.tmod a b),.bool true] from if_neg (by assumption)])|refine W.callP rfl rfl rfl rfl (exact_c O.exact _ _) ?_|(with_reducible first|refine za ?_|refine zb ?_|refine zc ?_)|refine ym zr ?_|(with_reducible first|refine zd ?_|refine ze ?_|refine zf ?_|refine zj ?_|refine zk ?_|refine zl ?_)|(refine W.condP zr ?_ ?_<;>intro _)|refine W.done zr ?_
  all_goals first
    | (subst ‹o=11›;exact b01_is _)
    | (subst ‹o=12›;exact b01_is _)
    | (subst ‹o=13›;exact b01_is _)
    | (subst ‹o=14›;exact b01_is _)
    | (subst ‹o=15›;exact b01_is _)
    | (subst ‹o=16›;exact b01_is _)
    | (subst ‹o=4›;rw [show twoS 4 a b=(if b<a then b else a,0) by show (min a b,(0:Int))=_;congr 1;split<;>omega];rfl)
    | (subst ‹o=5›;rw [show twoS 5 a b=(if a<b then b else a,0) by show (max a b,(0:Int))=_;congr 1;split<;>omega];rfl)
    | (show RO.ret (exV _ _)=_;rw [exV_tell];simp [twoS, *];done)
    | (subst ‹o=10›;show RO.ret (pairV (Int.tmod a b,0))=.ret (pairV (if b=0 then (0,11) else (Int.tmod a b,0)));rw [if_neg (show ¬b=0 by assumption)])
    | (show RO.ret (pairV (_,11))=_;simp [twoS, *];done)
    | (exfalso;omega)
    | trace_state
theorem two_c (O:OprG g) {a b:Int} (ha:In64 a) (hb:In64 b) {o:Int} (h0:4≤o) (h1:o≤16):Cl Tryz.prog g V 185 [.int .u8 o,.int .i64 a,.int .i64 b] [] fun r _=>r=.ret (pairV (twoS o a b)):=by
  refine Cl.enter O.two Tryz.func185 rfl ?_
  repeat' first|refine W.callP rfl rfl rfl rfl (truthR_c O.truthR _) ?_|refine W.callP rfl rfl rfl rfl (addR_c O.N ha hb) ?_|refine W.callP rfl rfl rfl rfl (subR_c O.N ha hb) ?_|refine W.callP rfl rfl rfl rfl (mulR_c O.N ha hb) ?_|(refine W.callP rfl rfl rfl rfl (split_c O ha hb ?ho) ?_;(case ho=>omega))|refine W.callP rfl rfl rfl rfl (exactR_c O.exactR _ _) ?_|(with_reducible first|refine za ?_|refine zb ?_|refine zc ?_)|refine ym zr ?_|(with_reducible first|refine zd ?_|refine ze ?_|refine zf ?_|refine zj ?_|refine zk ?_|refine zl ?_)|(refine W.condP zr ?_ ?_<;>intro _)|refine W.done zr ?_
  all_goals first
    | (subst ‹o=11›;exact b01_ex _)
    | (subst ‹o=12›;exact b01_ex _)
    | (subst ‹o=13›;exact b01_ex _)
    | (subst ‹o=14›;exact b01_ex _)
    | (subst ‹o=15›;exact b01_ex _)
    | (subst ‹o=16›;exact b01_ex _)
    | (subst ‹o=4›;rw [show twoS 4 a b=(if a<b then a else b,0) by show (min a b,(0:Int))=_;congr 1;split<;>omega];first|(rw [if_pos (show a<b by assumption)];rfl)|(rw [if_neg (show ¬a<b by assumption)];rfl))
    | (subst ‹o=5›;rw [show twoS 5 a b=(if b<a then a else b,0) by show (max a b,(0:Int))=_;congr 1;split<;>omega];first|(rw [if_pos (show b<a by assumption)];rfl)|(rw [if_neg (show ¬b<a by assumption)];rfl))
    | (show RO.ret (pairV (twoS o a b))=_;rfl)
    | (show RO.ret (exV _ _)=_;rw [exV_tell];simp [twoS, *];done)
    | (exfalso;omega)
    | trace_state
structure Snap where
  bid:Int
  ask:Int
  last:Int
  volume:Int
  now:Int
  open_:Int
def Snap.v (w:Snap):AV:=.agg [.int .i64 w.bid,.int .i64 w.ask,.int .i64 w.last,.int .i64 w.volume,.int .i64 w.now,.int .i64 w.open_]
def Snap.get (w:Snap) (f:Int):Int:=if f=1 then w.bid else if f=2 then w.ask else if f=3 then w.last else if f=4 then w.volume else if f=5 then w.now else if f=6 then w.open_ else 0
structure Snap.Ok (w:Snap):Prop where
  bid:In64 w.bid
  ask:In64 w.ask
  last:In64 w.last
  volume:In64 w.volume
  now:In64 w.now
  open_:In64 w.open_
theorem Snap.Ok.get {w:Snap} (h:w.Ok) (f:Int):In64 (w.get f):=by
  unfold Snap.get
  (repeat' split)<;>first|exact h.bid|exact h.ask|exact h.last|exact h.volume|exact h.now|exact h.open_|(unfold In64;omega)
theorem fields_c (O:OprG g) (w:Snap):Cl Tryz.prog g V 137 [w.v] [] fun r _=>r=.ret (.agg [.int .i64 0,.int .i64 w.bid,.int .i64 w.ask,.int .i64 w.last,.int .i64 w.volume,.int .i64 w.now,.int .i64 w.open_]):=by
  refine Cl.enter O.fields Tryz.func137 rfl ?_
  repeat' first|refine W.bldA tblOk rfl rfl rfl rfl rfl rfl ?_|refine W.doneC tblOk (.cell 0 rfl rfl rfl rfl .nil) ?_|(with_reducible first|refine za ?_|refine zb ?_|refine zc ?_)|refine ym zr ?_|refine yn 1 zr ?_|(refine yo zr ?_;intro _)|(refine yp zr ?_;intro _)|refine yq zr ?_|with_reducible refine zj ?_
  rfl
theorem getR_c (O:OprG g) (w:Snap) (f:Int):Cl Tryz.prog g V 183 [w.v,.int .u8 f] [] fun r _=>r=.ret (.int .i64 (w.get f)):=by
  refine Cl.enter O.getR Tryz.func183 rfl ?_
  repeat' first|(with_reducible first|refine za ?_|refine zb ?_|refine zc ?_)|refine ym zr ?_|refine yn 0 zr ?_|(refine yo zr ?_;intro _)|(with_reducible first|refine zd ?_|refine ze ?_|refine zf ?_|refine zj ?_|refine zk ?_|refine zl ?_)|(refine W.condP zr ?_ ?_<;>intro _)|refine W.done zr ?_
  all_goals first
    | (simp [Snap.get,oneOr, *];done)
    | trace_state
theorem get_c (O:OprG g) (w:Snap) {f:Int} (h0:0≤f):Cl Tryz.prog g V 117 [w.v,.int .u8 f] [] fun r _=>r=.ret (.int .i64 (w.get f)):=by
  refine Cl.enter O.get Tryz.func117 rfl ?_
  repeat first|(with_reducible first|refine za ?_|refine zb ?_|refine zc ?_)|refine ym zr ?_|(refine yo zr ?_;intro _)
  refine W.condP rfl ?_ ?_<;>intro h
  · skip
    repeat' first|(with_reducible first|refine za ?_|refine zb ?_|refine zc ?_)|refine ym zr ?_|(with_reducible first|refine zj ?_|refine zk ?_)|refine W.done zr ?_
    simp only [Snap.get]
    rw [if_neg (by omega),if_neg (by omega),if_neg (by omega),if_neg (by omega),if_neg (by omega),if_neg (by omega)]
    rfl
  · obtain ⟨n,rfl⟩:=Int.eq_ofNat_of_zero_le h0
    have hn:n≤6:=by omega
    have:n=0∨n=1∨n=2∨n=3∨n=4∨n=5∨n=6:=by omega
    rcases this with rfl|rfl|rfl|rfl|rfl|rfl|rfl
    repeat' first|refine W.callP rfl rfl rfl rfl (fields_c O w) ?_|refine W.idxA tblOk rfl rfl rfl rfl rfl rfl (by decide) (by decide) rfl ?_|(with_reducible first|refine za ?_|refine zb ?_|refine zc ?_)|refine ym zr ?_|refine yn 0 zr ?_|(with_reducible first|refine zd ?_|refine zj ?_)|refine W.done zr ?_
    all_goals first|rfl|trace_state
end Go.Proofs.YtoegffiapnnkiaaGreat.Abs
