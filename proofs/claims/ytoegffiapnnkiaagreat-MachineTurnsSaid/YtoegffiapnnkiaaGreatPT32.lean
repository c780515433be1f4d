/- Parts of one proof. No condition but those that each theorem names. -/
import Derived.Test.YtoegffiapnnkiaaGreatPT31
namespace Go.Proofs.YtoegffiapnnkiaaGreat.Abs
open Go
set_option linter.unusedVariables false
set_option linter.unusedSimpArgs false
set_option maxRecDepth 100000
noncomputable def sideD (t:Table) (w:Snap) (b:Bod) (r:Row):Int×Bod :=
  ((partF t w b r.side).1,if r.k=1∧(partF t w b r.side).2.err=0∧(partF t w b r.side).1≠1∧(partF t w b r.side).1≠2 then { (partF t w b r.side).2 with err:=201 } else (partF t w b r.side).2)
noncomputable def actD (b:Bod) (r:Row) (s q p v:Int):Bod :=
  if b.err=0 then
    (if r.k=1 then { b with acts:=b.acts++[⟨1,r.o,IntKind.u8.wrap s,p,q,r.i⟩] }
     else if r.k=2 then { b with acts:=b.acts++[⟨2,r.o,0,p,q,r.i⟩] }
     else if r.k=3 then { b with acts:=b.acts++[⟨3,r.o,0,p,q,r.i⟩] }
     else if r.k=4 then { b with regs:=b.regs.set r.i.toNat v }
     else if r.k=5 then { b with s:=r.i }
     else { b with st:=2 })
  else b
noncomputable def rowD (t:Table) (w:Snap) (b:Bod) (r:Row):Bod :=
  actD (partF t w (partF t w (partF t w (sideD t w b r).2 r.qty).2 r.price).2 r.value).2 r (sideD t w b r).1 (partF t w (sideD t w b r).2 r.qty).1 (partF t w (partF t w (sideD t w b r).2 r.qty).2 r.price).1 (partF t w (partF t w (partF t w (sideD t w b r).2 r.qty).2 r.price).2 r.value).1
noncomputable def doD (t:Table) (w:Snap):List Row→Bod→Bod
  | [],b=>b
  | r::l,b=>if (rowD t w b r).err=0 then doD t w l (rowD t w b r) else rowD t w b r
theorem partF_no (t:Table) (w:Snap) (b:Bod) {x:Span} (h:x.no):partF t w b x=(0,b):=by
  unfold partF
  rw [if_pos h.2]
  split<;>rfl
def Like (a b:Bod):Prop:=a.err=b.err∧a.steps=b.steps∧(b.err=0→a=b)
theorem Like.rfl' (a:Bod):Like a a:=⟨rfl,rfl,fun _=>rfl⟩
theorem like_if {B C:Bod} (h1:C.err=B.err) (h2:C.steps=B.steps):Like (if B.err=0 then C else B) C:=by
  split
  · exact Like.rfl' _
  · rename_i he;exact ⟨h1.symm,h2.symm,fun h0=>absurd (h1 ▸ h0) he⟩
theorem rowD_like (t:Table) (w:Snap) (b:Bod) {r:Row} (hr:RowOk t r) (ho:if r.k=1 then 1≤r.o∧r.o≤5 else r.o=0):Like (rowD t w b r) (rowF t w b r):=by
  have hk:=hr.k
  have hre:=hr.rest
  unfold Row.rest at hre
  have hacts:∀(c:Bod) (x y:Span),(partF t w (partF t w c x).2 y).2.acts=c.acts:=fun c x y=>by rw [(partF_same t w _ y).2.1,(partF_same t w c x).2.1]
  have no1:¬r.k=1→r.side.no→sideD t w b r=(0,b):=fun h h0=>by
    unfold sideD
    rw [partF_no t w b h0,if_neg (fun x=>h x.1)]
  have hY:r.k=1∨r.k=2∨r.k=3→rowF t w b r={ (partF t w (partF t w (sideF t w b r).2 r.qty).2 r.price).2 with acts:=(partF t w (partF t w (sideF t w b r).2 r.qty).2 r.price).2.acts++[⟨r.k,if r.k=1 then r.o else 0,if r.k=1 then IntKind.u8.wrap (sideF t w b r).1 else 0,(partF t w (partF t w (sideF t w b r).2 r.qty).2 r.price).1,(partF t w (sideF t w b r).2 r.qty).1,r.i⟩] }:=fun h=>by
    unfold rowF
    rw [if_pos h]
    unfold layF
    rw [hacts]
  rcases (by omega:r.k=1∨r.k=2∨r.k=3∨r.k=4∨r.k=5∨r.k=6) with h|h|h|h|h|h
  · have hv:r.value.no:=by
      rw [if_pos h] at hre
      split at hre
      · exact hre.2
      · exact hre
    have es:sideD t w b r=sideF t w b r:=by
      unfold sideD sideF
      rw [if_pos h]
      simp only [h,true_and]
    rw [hY (.inl h),if_pos h,if_pos h]
    unfold rowD
    rw [es,partF_no t w _ hv]
    simp only
    generalize partF t w (partF t w (sideF t w b r).2 r.qty).2 r.price=B
    unfold actD
    rw [if_pos h,h]
    exact like_if rfl rfl
  · rw [if_neg (by omega),if_pos h] at hre
    rw [if_neg (by omega)] at ho
    have es2:sideF t w b r=(0,b):=by unfold sideF;rw [if_neg (by omega)]
    rw [hY (.inr (.inl h)),if_neg (by omega),if_neg (by omega),es2]
    unfold rowD
    rw [no1 (by omega) hre.1,partF_no t w _ hre.2]
    simp only
    generalize partF t w (partF t w b r.qty).2 r.price=B
    unfold actD
    rw [if_neg (show ¬r.k=1 by omega),if_pos h,h,ho]
    exact like_if rfl rfl
  · rw [if_neg (by omega),if_neg (by omega),if_neg (by omega)] at hre
    rw [if_neg (by omega)] at ho
    have es2:sideF t w b r=(0,b):=by unfold sideF;rw [if_neg (by omega)]
    rw [hY (.inr (.inr h)),if_neg (by omega),if_neg (by omega),es2]
    unfold rowD
    rw [no1 (by omega) hre.1,partF_no t w _ hre.2.2.2]
    simp only
    generalize partF t w (partF t w b r.qty).2 r.price=B
    unfold actD
    rw [if_neg (show ¬r.k=1 by omega),if_neg (show ¬r.k=2 by omega),if_pos h,h,ho]
    exact like_if rfl rfl
  · rw [if_neg (by omega),if_neg (by omega),if_pos h] at hre
    have hF:rowF t w b r=if (partF t w b r.value).2.err=0 then { (partF t w b r.value).2 with regs:=(partF t w b r.value).2.regs.set r.i.toNat (partF t w b r.value).1 } else (partF t w b r.value).2:=by
      unfold rowF
      rw [if_neg (by omega),if_pos h]
    rw [hF]
    unfold rowD
    rw [no1 (by omega) hre.1]
    simp only [partF_no t w b hre.2.1,partF_no t w b hre.2.2]
    unfold actD
    rw [if_neg (show ¬r.k=1 by omega),if_neg (show ¬r.k=2 by omega),if_neg (show ¬r.k=3 by omega),if_pos h]
    exact Like.rfl' _
  · rw [if_neg (by omega),if_neg (by omega),if_neg (by omega)] at hre
    have hF:rowF t w b r={ b with s:=r.i }:=by
      unfold rowF
      rw [if_neg (by omega),if_neg (by omega),if_pos h]
    rw [hF]
    unfold rowD
    rw [no1 (by omega) hre.1]
    simp only [partF_no t w b hre.2.1,partF_no t w b hre.2.2.1,partF_no t w b hre.2.2.2]
    unfold actD
    rw [if_neg (show ¬r.k=1 by omega),if_neg (show ¬r.k=2 by omega),if_neg (show ¬r.k=3 by omega),if_neg (show ¬r.k=4 by omega),if_pos h]
    exact like_if rfl rfl
  · rw [if_neg (by omega),if_neg (by omega),if_neg (by omega)] at hre
    have hF:rowF t w b r={ b with st:=2 }:=by
      unfold rowF
      rw [if_neg (by omega),if_neg (by omega),if_neg (by omega)]
    rw [hF]
    unfold rowD
    rw [no1 (by omega) hre.1]
    simp only [partF_no t w b hre.2.1,partF_no t w b hre.2.2.1,partF_no t w b hre.2.2.2]
    unfold actD
    rw [if_neg (show ¬r.k=1 by omega),if_neg (show ¬r.k=2 by omega),if_neg (show ¬r.k=3 by omega),if_neg (show ¬r.k=4 by omega),if_neg (show ¬r.k=5 by omega)]
    exact like_if rfl rfl
theorem doD_like (t:Table) (w:Snap):∀(l:List Row) (b:Bod),(∀r∈l,RowOk t r∧if r.k=1 then 1≤r.o∧r.o≤5 else r.o=0)→Like (doD t w l b) (doF t w l b)
  | [],b,_=>Like.rfl' b
  | r::l,b,h=>by
    have h1:=rowD_like t w b (h r (by simp)).1 (h r (by simp)).2
    unfold doD doF
    by_cases he:(rowF t w b r).err=0
    · rw [if_pos he,h1.2.2 he,if_pos he]
      exact doD_like t w l _ fun x hx=>h x (by simp [hx])
    · rw [if_neg he,if_neg (by rw [h1.1];exact he)]
      exact h1
end Go.Proofs.YtoegffiapnnkiaaGreat.Abs
