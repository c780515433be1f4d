/- Parts of one proof. No condition but those that each theorem names. -/
import Derived.Test.YtoegffiapnnkiaaGreatPT19
namespace Go.Proofs.YtoegffiapnnkiaaGreat.Abs
open Go
set_option linter.unusedVariables false
set_option linter.unusedSimpArgs false
set_option maxRecDepth 100000
set_option maxHeartbeats 4000000
def stk (L:List Int) (n:Int):List AV:=L.map (AV.int .i64)++[.int .i64 n]
theorem stk_n {L:List Int} {n:Int} (h:L.length=64):(stk L n)[64]?=some (.int .i64 n):=by
  unfold stk;rw [List.getElem?_append_right (by simp [h])];simp [h]
theorem stk_get {L:List Int} {n:Int} {i:Nat} {v:Int} (h:L[i]?=some v):(stk L n)[i]?=some (.int .i64 v):=by
  have hl:=(List.getElem?_eq_some_iff.1 h).1
  unfold stk;rw [List.getElem?_append_left (by simpa using hl)];simp [h]
theorem stk_set {L:List Int} {n:Int} {i:Nat} (v:Int) (hi:i<L.length):setLs (stk L n) i [.int .i64 v]=some (stk (L.set i v) n):=by
  rw [setLs_one _ _ _ (by simp [stk];omega)]
  unfold stk
  rw [List.set_append_left _ _ (by simpa using hi),List.map_set]
theorem stk_setn {L:List Int} {n:Int} (m:Int) (h:L.length=64):setLs (stk L n) 64 [.int .i64 m]=some (stk L m):=by
  rw [setLs_one _ _ _ (by simp [stk,h])]
  unfold stk
  rw [List.set_append_right _ _ (by simp [h])]
  simp [h]
def Sk (S:List Int) (bk:Bk):Prop:=∃L:List Int,L.length=64∧L.take S.length=S.reverse∧bk=.cells (stk L (S.length:Int)) 223 65 true
theorem Sk.nil:Sk [] (.cells (stk (List.replicate 64 0) 0) 223 65 true):=⟨_,by simp,rfl,rfl⟩
theorem take_succ {L S:List Int} {v:Int} (h:L.take (S.length+1)=S.reverse++[v]):L.take S.length=S.reverse∧L[S.length]?=some v:=by
  have h1:(L.take (S.length+1)).take S.length=S.reverse:=by rw [h];simp
  rw [List.take_take,Nat.min_eq_left (by omega)] at h1
  refine ⟨h1,?_⟩
  have:(L.take (S.length+1))[S.length]?=some v:=by rw [h];simp
  rwa [List.getElem?_take_of_lt (by omega)] at this
attribute [local irreducible] W Cl Bd
variable {g:Cg} {V:K→Option (List AV)}
structure StkG (g:Cg):Prop where
  lay:Plain g 114=true
  take:Plain g 118=true
  top:Plain g 115=true
theorem lay_c (G:StkG g) (k:K) {S:List Int} {bk:Bk} (h:Sk S bk) (v:Int) (hn:S.length<64) :
    Cl Tryz.prog g V 114 [.ptr (some (k,0)),.int .i64 v] [(k,bk)] fun o Δ=>o=.ret (.tup [])∧∃bk',Δ=[(k,bk')]∧Sk (v::S) bk':=by
  obtain ⟨L,hl,ht,rfl⟩:=h
  have p1:partG tbl 3 (stk L (S.length:Int)) 64=some (.int .i64 (S.length:Int)):=part_leaf rfl (stk_n hl)
  have s1:setLs (stk L (S.length:Int)) (0+(S.length:Int).toNat * 1) [.int .i64 v]=some (stk (L.set S.length v) (S.length:Int)):=by
    rw [show 0+(S.length:Int).toNat * 1=S.length by omega];exact stk_set v (by omega)
  have p2:partG tbl 3 (stk (L.set S.length v) (S.length:Int)) 64=some (.int .i64 (S.length:Int)):=part_leaf rfl (stk_n (by simpa using hl))
  have e1:IntKind.i64.wrap ((S.length:Int)+1)=((S.length+1:Nat):Int):=by rw [w64 (by omega) (by omega)];omega
  have s2:=stk_setn (n:=(S.length:Int)) (((S.length+1:Nat)):Int) (L:=L.set S.length v) (by simpa using hl)
  refine Cl.enter G.lay Tryz.func114 rfl ?_
  have h0:(0:Int)≤(S.length:Int):=by omega
  have h1:(S.length:Int)<((64:Nat):Int):=by omega
  repeat first|refine W.iaA tblOk rfl rfl rfl rfl rfl rfl h0 h1 ?_|refine W.ldO tblOk 0 rfl rfl rfl p1 rfl rfl ?_|refine W.ldO tblOk 0 rfl rfl rfl p2 rfl rfl ?_|refine W.stF tblOk rfl rfl rfl rfl rfl rfl rfl s1 ?_|(with_reducible first|refine za ?_|refine zb ?_|refine zc ?_)|refine ym zr ?_|refine zw (by decide +kernel) ?_
  rw [e1]
  repeat' first|refine W.stF tblOk rfl rfl rfl rfl rfl rfl rfl s2 ?_|with_reducible refine zc ?_|refine W.doneN zr ?_
  refine ⟨rfl,_,rfl,L.set S.length v,by simpa using hl,?_,rfl⟩
  rw [List.length_cons,List.take_succ_eq_append_getElem (by simp;omega),List.take_set,ht,List.getElem_set_self,List.reverse_cons]
  rw [List.set_eq_of_length_le (by simp)]
theorem top_c (G:StkG g) (k:K) {S:List Int} {bk:Bk} {v:Int} (h:Sk (v::S) bk) :
    Cl Tryz.prog g V 115 [.ptr (some (k,0))] [(k,bk)] fun o Δ=>o=.ret (.int .i64 v)∧Δ=[(k,bk)]:=by
  obtain ⟨L,hl,ht,rfl⟩:=h
  rw [List.length_cons,List.reverse_cons] at ht
  obtain ⟨-,hv⟩:=take_succ ht
  have hsl:S.length<64:=by have:=(List.getElem?_eq_some_iff.1 hv).1;omega
  have p1:partG tbl 3 (stk L ((v::S).length:Int)) 64=some (.int .i64 ((v::S).length:Int)):=part_leaf rfl (stk_n hl)
  have e1:IntKind.i64.wrap (((v::S).length:Int)-1)=(S.length:Int):=by rw [List.length_cons,w64 (by omega) (by omega)];omega
  have p2:partG tbl 2 (stk L ((v::S).length:Int)) (0+(S.length:Int).toNat * 1)=some (.int .i64 v):=part_leaf rfl (by rw [show 0+(S.length:Int).toNat * 1=S.length by omega];exact stk_get hv)
  refine Cl.enter G.top Tryz.func115 rfl ?_
  have h0:(0:Int)≤(S.length:Int):=by omega
  have h1:(S.length:Int)<((64:Nat):Int):=by omega
  repeat first|refine W.ldO tblOk 0 rfl rfl rfl p1 rfl rfl ?_|(with_reducible first|refine za ?_|refine zb ?_|refine zc ?_)|refine ym zr ?_|refine zw (by decide +kernel) ?_
  rw [e1]
  repeat' first|refine W.iaA tblOk rfl rfl rfl rfl rfl rfl h0 h1 ?_|refine W.ldO tblOk 0 rfl rfl rfl p2 rfl rfl ?_|with_reducible refine zc ?_|refine ym zr ?_|with_reducible refine zj ?_|refine W.done zr ?_
  exact ⟨rfl,rfl⟩
theorem take_c' (G:StkG g) (k:K) {S:List Int} {bk:Bk} {v:Int} (h:Sk (v::S) bk) :
    Cl Tryz.prog g V 118 [.ptr (some (k,0))] [(k,bk)] fun o Δ=>o=.ret (.int .i64 v)∧∃bk',Δ=[(k,bk')]∧Sk S bk':=by
  obtain ⟨L,hl,ht,rfl⟩:=h
  rw [List.length_cons,List.reverse_cons] at ht
  obtain ⟨ht',hv⟩:=take_succ ht
  have hsl:S.length<64:=by have:=(List.getElem?_eq_some_iff.1 hv).1;omega
  have p1:partG tbl 3 (stk L ((v::S).length:Int)) 64=some (.int .i64 ((v::S).length:Int)):=part_leaf rfl (stk_n hl)
  have e1:IntKind.i64.wrap (((v::S).length:Int)-1)=(S.length:Int):=by rw [List.length_cons,w64 (by omega) (by omega)];omega
  have s1:=stk_setn (n:=((v::S).length:Int)) (S.length:Int) (L:=L) hl
  have p3:partG tbl 3 (stk L (S.length:Int)) 64=some (.int .i64 (S.length:Int)):=part_leaf rfl (stk_n hl)
  have p2:partG tbl 2 (stk L (S.length:Int)) (0+(S.length:Int).toNat * 1)=some (.int .i64 v):=part_leaf rfl (by rw [show 0+(S.length:Int).toNat * 1=S.length by omega];exact stk_get hv)
  refine Cl.enter G.take Tryz.func118 rfl ?_
  have h0:(0:Int)≤(S.length:Int):=by omega
  have h1:(S.length:Int)<((64:Nat):Int):=by omega
  repeat first|refine W.ldO tblOk 0 rfl rfl rfl p1 rfl rfl ?_|(with_reducible first|refine za ?_|refine zb ?_|refine zc ?_)|refine ym zr ?_
  rw [e1]
  repeat' first|refine W.stF tblOk rfl rfl rfl rfl rfl rfl rfl s1 ?_|refine W.iaA tblOk rfl rfl rfl rfl rfl rfl h0 h1 ?_|refine W.ldO tblOk 0 rfl rfl rfl p3 rfl rfl ?_|refine W.ldO tblOk 0 rfl rfl rfl p2 rfl rfl ?_|(with_reducible first|refine za ?_|refine zc ?_)|refine ym zr ?_|with_reducible refine zj ?_|refine zw (by decide +kernel) ?_|refine W.done zr ?_
  exact ⟨rfl,_,rfl,L,hl,ht',rfl⟩
end Go.Proofs.YtoegffiapnnkiaaGreat.Abs
