/- Parts of one proof. No condition but those that each theorem names. -/
import Derived.Test.YtoegffiapnnkiaaGreatPE34
import Derived.Test.YtoegffiapnnkiaaGreatPE38
namespace Go.Proofs.YtoegffiapnnkiaaGreat.Abs
open Go
set_option linter.unusedVariables false
set_option linter.unusedSimpArgs false
def Guard.er (g:Guard):Guard:=⟨g.when,g.fields,g.regs,⟨none,.ex 0,g.rows.l⟩⟩
def erG (s:Sl Guard):Sl Guard:=⟨none,.ex 0,s.l.map Guard.er⟩
def Table.er (t:Table):Table:=⟨t.name,⟨none,.ex 0,t.regs.l⟩,t.slots,⟨none,.ex 0,t.consts.l⟩,⟨none,.ex 0,t.code.l⟩,⟨none,.ex 0,t.states.l.map erG⟩⟩
theorem SameG.er {x y:Guard} (h:SameG x y):x.er=y.er:=by
  obtain ⟨h1,h2,h3,h4⟩:=h
  unfold Guard.er
  rw [h1,h2,h3,h4]
theorem SameT.er {x y:Table} (h:SameT x y):x.er=y.er:=by
  have hs:x.states.l.map erG=y.states.l.map erG:=by
    refine List.ext_getElem (by simp [h.slen]) fun i h1 h2=>?_
    simp only [List.length_map] at h1 h2
    obtain ⟨q1,q2⟩:=h.states i h1 h2
    simp only [List.getElem_map]
    unfold erG
    congr 1
    refine List.ext_getElem (by simp [q1]) fun k h3 h4=>?_
    simp only [List.length_map] at h3 h4
    simp only [List.getElem_map]
    exact (q2 k h3 h4).er
  unfold Table.er
  rw [h.name,h.slots,h.regs,h.consts,h.code,hs]
variable (t:Table)
theorem Index_er (r:Row):Index t.er r=Index t r:=by
  unfold Index Table.er
  simp only [List.length_map]
theorem RowAt_er (r:Row) (n:Int):RowAt t.er r n=RowAt t r n:=by
  unfold RowAt
  rw [Index_er]
theorem rowsAt_er:∀(l:List Row) (p n:Int),rowsAt t.er p l n=rowsAt t p l n
  | [],_,_=>rfl
  | r::l,p,n=>by
    simp only [rowsAt,RowAt_er]
    congr 1
    exact congrArg _ (funext fun m=>rowsAt_er l _ _)
theorem guardAt_er (g:Guard) (n:Int):guardAt t.er g.er n=guardAt t g n:=by
  unfold guardAt
  rw [rowsAt_er];rfl
theorem guardsAt_er:∀(l:List Guard) (n:Int),guardsAt t.er (l.map Guard.er) n=guardsAt t l n
  | [],_=>rfl
  | g::l,n=>by
    simp only [List.map_cons,guardsAt,guardAt_er]
    exact congrArg _ (funext fun m=>guardsAt_er l _)
theorem statesAt_er:∀(l:List (Sl Guard)) (n:Int),statesAt t.er (l.map erG) n=statesAt t l n
  | [],_=>rfl
  | g::l,n=>by
    simp only [List.map_cons,statesAt]
    have e:(erG g).l=g.l.map Guard.er:=rfl
    rw [e,List.length_map,guardsAt_er]
    congr 1
    exact congrArg _ (funext fun m=>statesAt_er l _)
theorem Formed_er:Formed t.er↔Formed t:=by
  unfold Formed
  have e1:statesAt t.er t.er.states.l 0=statesAt t t.states.l 0:=statesAt_er t _ _
  have e2:Heads t.er↔Heads t:=by unfold Heads Table.er;simp only [List.length_map]
  rw [e1,e2]
  exact Iff.rfl
theorem standAll_er (z:Int):∀(m:Nat) (i:Int),standAll t.er z m i=standAll t z m i
  | 0,_=>rfl
  | m+1,i=>by
    simp only [standAll,standAll_er z m]
    rfl
theorem runS_er:∀(m:Nat) (i:Int) (H:List Int),runS t.er m i H=runS t m i H
  | 0,_,_=>rfl
  | m+1,i,H=>by
    simp only [runS]
    have e:goS H (codeAt t.er i) i=goS H (codeAt t i) i:=rfl
    rw [e]
    exact congrArg _ (funext fun G=>runS_er m _ G)
theorem spanS_er (f z:Int):spanS t.er f z=spanS t f z:=by
  unfold spanS
  rw [standAll_er]
  have:(comeS H0 f 0).bind (runS t.er (z-f).toNat f)=(comeS H0 f 0).bind (runS t (z-f).toNat f):=congrArg _ (funext fun G=>runS_er t _ _ G)
  rw [this]
theorem spansErr_er:∀(l:List Span),spansErr t.er l=spansErr t l
  | []=>rfl
  | x::l=>by simp only [spansErr,spanS_er,spansErr_er l]
theorem rowsErr_er:∀(l:List Row),rowsErr t.er l=rowsErr t l
  | []=>rfl
  | x::l=>by simp only [rowsErr,spansErr_er,rowsErr_er l]
theorem guardErr_er (g:Guard):guardErr t.er g.er=guardErr t g:=by
  unfold guardErr
  have e1:maskErr t.er g.er=maskErr t g:=rfl
  have e2:rowsErr t.er g.er.rows.l=rowsErr t g.rows.l:=rowsErr_er t _
  rw [spanS_er,e1,e2];rfl
theorem guardsErr_er:∀(l:List Guard),guardsErr t.er (l.map Guard.er)=guardsErr t l
  | []=>rfl
  | x::l=>by simp only [List.map_cons,guardsErr,guardErr_er,guardsErr_er l]
theorem statesErr_er:∀(l:List (Sl Guard)),statesErr t.er (l.map erG)=statesErr t l
  | []=>rfl
  | x::l=>by
    have e:(erG x).l=x.l.map Guard.er:=rfl
    simp only [List.map_cons,statesErr,statesErr_er l]
    rw [e,guardsErr_er]
theorem checkS_er:checkS t.er=checkS t:=by
  unfold checkS
  have e:statesErr t.er t.er.states.l=statesErr t t.states.l:=statesErr_er t _
  rw [e]
  by_cases h:Formed t
  · rw [if_pos h,if_pos ((Formed_er t).2 h)]
  · rw [if_neg h,if_neg (fun k=>h ((Formed_er t).1 k))]
theorem SameT.check {x y:Table} (h:SameT x y):checkS x=checkS y:=by
  rw [←checkS_er x,←checkS_er y,h.er]
end Go.Proofs.YtoegffiapnnkiaaGreat.Abs
