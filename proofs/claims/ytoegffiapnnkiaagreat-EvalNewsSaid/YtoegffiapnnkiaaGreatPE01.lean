/- Parts of one proof. No condition but those that each theorem names. -/
import Derived.Test.YtoegffiapnnkiaaGreatPE00
import Derived.Laws.StructEq
import Derived.LoopN
set_option linter.unusedVariables false
set_option linter.unusedSimpArgs false
namespace Go.Proofs.YtoegffiapnnkiaaGreat.Abs
open Go
variable {P:Program} {B:Nat} {μ μ':K→Option Loc} {H H':Hp} {w w1:World} {nx nx':K}
mutual
theorem sameA_eq:∀(a b:AV),sameA a b=true→a=b
  | .bool a,b,h=>by
    cases b with
    | bool c=>simp only [sameA,beq_iff_eq] at h;rw [h]
    | _=>simp [sameA] at h
  | .int k a,b,h=>by
    cases b with
    | int k' c =>
      simp only [sameA,Bool.and_eq_true] at h
      obtain ⟨h1,h2⟩:=h
      split at h1
      · split at h2
        · rename_i e e';rw [e,e']
        · cases h2
      · cases h1
    | _=>simp [sameA] at h
  | .str a,b,h=>by
    cases b with
    | str c=>simp only [sameA] at h;rw [sameN_eq a c h]
    | _=>simp [sameA] at h
  | .ptr a,b,h=>by
    cases b with
    | ptr c =>
      cases a with
      | none=>cases c with
        | none=>rfl
        | some q=>simp [sameA] at h
      | some p=>cases c with
        | none=>simp [sameA] at h
        | some q =>
          simp only [sameA,Bool.and_eq_true] at h
          rw [show p=q from Prod.ext (K.beq_eq h.1) (Nat.beq_eq.mp h.2)]
    | _=>simp [sameA] at h
  | .slice a n c,b,h=>by
    cases b with
    | slice a' m d =>
      cases a with
      | none=>cases a' with
        | none =>
          cases c<;>cases d<;>simp only [sameA,Bool.and_eq_true,Bool.false_eq_true] at h <;>
          rw [Nat.beq_eq.mp h.1,Nat.beq_eq.mp h.2]
        | some q=>cases c<;>simp [sameA] at h
      | some p=>cases a' with
        | none=>cases c<;>simp [sameA] at h
        | some q =>
          cases c<;>cases d<;>simp only [sameA,Bool.and_eq_true,Bool.false_eq_true] at h
          · obtain ⟨⟨⟨h1,h2⟩,h3⟩,h4⟩:=h
            rw [show p=q from Prod.ext (K.beq_eq h1) (Nat.beq_eq.mp h2),Nat.beq_eq.mp h3,Nat.beq_eq.mp h4]
          · obtain ⟨⟨⟨h1,h2⟩,h3⟩,h4⟩:=h
            rw [show p=q from Prod.ext (K.beq_eq h1) (Nat.beq_eq.mp h2),Nat.beq_eq.mp h3,Nat.beq_eq.mp h4]
    | _=>cases a<;>cases c<;>simp [sameA] at h
  | .map a,b,h=>by
    cases b with
    | map c =>
      cases a with
      | none=>cases c with
        | none=>rfl
        | some q=>simp [sameA] at h
      | some p=>cases c with
        | none=>simp [sameA] at h
        | some q=>simp only [sameA] at h;rw [K.beq_eq h]
    | _=>cases a<;>simp [sameA] at h
  | .func f x y,b,h=>by
    cases b with
    | func g u v =>
      simp only [sameA,Bool.and_eq_true] at h
      rw [Nat.beq_eq.mp h.1.1,sameL_eq x u h.1.2,sameL_eq y v h.2]
    | _=>simp [sameA] at h
  | .nilFunc,b,h=>by cases b<;>first|rfl|(simp [sameA] at h)
  | .iface t v,b,h=>by
    cases b with
    | iface u x =>
      simp only [sameA,Bool.and_eq_true] at h
      rw [Nat.beq_eq.mp h.1,sameA_eq v x h.2]
    | _=>simp [sameA] at h
  | .nilIface,b,h=>by cases b<;>first|rfl|(simp [sameA] at h)
  | .agg l,b,h=>by
    cases b with
    | agg m=>simp only [sameA] at h;rw [sameL_eq l m h]
    | _=>simp [sameA] at h
  | .tup l,b,h=>by
    cases b with
    | tup m=>simp only [sameA] at h;rw [sameL_eq l m h]
    | _=>simp [sameA] at h
theorem sameL_eq:∀(a b:List AV),sameL a b=true→a=b
  | [],[],_=>rfl
  | [],_::_,h=>by simp [sameL] at h
  | _::_,[],h=>by simp [sameL] at h
  | x::xs,y::ys,h=>by
    simp only [sameL,Bool.and_eq_true] at h
    rw [sameA_eq x y h.1,sameL_eq xs ys h.2]
theorem sameN_eq:∀(a b:List Nat),sameN a b=true→a=b
  | [],[],_=>rfl
  | [],_::_,h=>by simp [sameN] at h
  | _::_,[],h=>by simp [sameN] at h
  | x::xs,y::ys,h=>by
    simp only [sameN,Bool.and_eq_true] at h
    rw [Nat.beq_eq.mp h.1,sameN_eq xs ys h.2]
end
theorem plainLeaf_bits {v:AV} {c:Value} (h:plainLeaf v=true) (hc:conc μ v=some c) (n:Nat):Instr.sameBits n c c=true:=by
  cases v<;>first|(cases h;done)|skip
  · rw [conc_bool hc];simp [Instr.sameBits]
  · rw [conc_int hc];simp [Instr.sameBits]
  · rw [conc_str hc];simp [Instr.sameBits,beq_toListBytes]
theorem plainAll_bits:∀(l:List AV) (cs:List Value),plainAll l=true→concL μ l=some cs→∀n,((cs.zip cs).all fun (x,y)=>Instr.sameBits n x y)=true
  | [],cs,_,h,n=>by
    injection (show some []=some cs from h) with h;subst h;rfl
  | v::vs,cs,hp,h,n=>by
    simp only [plainAll,Bool.and_eq_true] at hp
    simp only [concL,Option.bind_eq_some_iff,Option.map_eq_some_iff] at h
    obtain ⟨c,h1,ds,h2,rfl⟩:=h
    simp only [List.zip_cons_cons,List.all_cons,plainLeaf_bits hp.1 h1 n,Bool.true_and]
    exact plainAll_bits vs ds hp.2 h2 n
theorem plainKey_bits {v:AV} {c:Value} (h:plainKey v=true) (hc:conc μ v=some c) (n:Nat):Instr.sameBits (n+1) c c=true:=by
  cases v with
  | agg l =>
    obtain ⟨cs,hcs,rfl⟩:=conc_agg hc
    have:=plainAll_bits l cs h hcs n
    simp only [Instr.sameBits,beq_self_eq_true,Bool.true_and]
    exact this
  | bool b=>exact plainLeaf_bits (v:=.bool b) rfl hc _
  | int k n=>exact plainLeaf_bits (v:=.int k n) rfl hc _
  | str s=>exact plainLeaf_bits (v:=.str s) rfl hc _
  | _=>cases h
theorem checkKey_ok {kt:TypeId} {b:Bool} {k:AV} (h:keyOk P kt b k=true):∃c,conc none0 k=some c∧(∀w,(Instr.checkKey b 10000 kt c).run P w=.ok () w)∧((∃n,P.underlying kt=some (.int n))∨P.underlying kt=some .string∨∃f,P.underlying kt=some (.struct f)):=by
  unfold keyOk at h
  split at h
  · rename_i c hc
    split at h
    · rename_i u hu
      refine ⟨c,hc,pureRun_run _ _ hu,?_⟩
      split at h
      · rename_i n hn;exact .inl ⟨n,hn⟩
      · rename_i hn;exact .inr (.inl hn)
      · rename_i f hn;exact .inr (.inr ⟨f,hn⟩)
      · cases h
    · cases h
  · cases h
def FR (μ:K→Option Loc) (r:Option (Nat×AV)) (r':Option (Nat×Value)):Prop:=match r,r' with
  | none,none=>True
  | some (j,v),some (j',c)=>j=j'∧conc μ v=some c
  | _,_=>False
theorem concEs_cons {e:AV×AV×Nat} {es:List (AV×AV×Nat)} {l:List MapEntry} (h:concEs μ (e::es)=some l):∃k v l',conc μ e.1=some k∧conc μ e.2.1=some v∧concEs μ es=some l'∧l={ key:=k,val:=v,born:=e.2.2 }::l':=by
  simp only [concEs,concE,Option.bind_eq_some_iff,Option.map_eq_some_iff] at h
  obtain ⟨a,⟨k,hk,v,hv,rfl⟩,as,h2,rfl⟩:=h
  exact ⟨k,v,as,hk,hv,h2,rfl⟩
theorem findA_now {kt:TypeId} {d:TypeDesc} (hd:P.underlying kt=some d) (hk:(∃n,d=.int n)∨d=.string) {k:AV} {c:Value} (hc:conc μ k=some c):∀(es:List (AV×AV×Nat)) (l:List MapEntry) (i:Nat) (r:Option (Nat×AV)),concEs μ es=some l→findA P kt k es i=some r →
    ∃r',Instr.findNow d c l i=some r'∧FR μ r r'
  | [],l,i,r,hl,h=>by
    injection (show some []=some l from hl) with hl;subst hl
    injection (show some none=some r from h) with h;subst h
    exact ⟨none,rfl,trivial⟩
  | e::es,l,i,r,hl,h=>by
    obtain ⟨kc,vc,l',h1,h2,h3,rfl⟩:=concEs_cons hl
    obtain ⟨k',v,bn⟩:=e
    have key:∀b,keyEq P kt k k'=some b→Instr.sameNow d c kc=some b:=by
      intro b hb
      unfold keyEq at hb
      split at hb
      · rename_i n kk a kk' a' hu
        rw [hd] at hu;injection hu with hu;subst hu
        rw [conc_int hc,conc_int h1]
        split at hb
        · rename_i ekk
          injection hb with hb;subst hb
          simp [Instr.sameNow,ekk]
        · cases hb
      · rename_i a a' hu
        rw [hd] at hu;injection hu with hu;subst hu
        rw [conc_str hc,conc_str h1]
        injection hb with hb;subst hb
        simp only [Instr.sameNow,eqN_eq,beq_toListBytes,bytesV_toList]
      · rename_i f xs ys hu
        rw [hd] at hu;injection hu with hu;subst hu
        rcases hk with ⟨n,hn⟩|hn<;>cases hn
      · cases hb
    simp only [findA] at h
    split at h
    · rename_i hb
      injection h with h;subst h
      exact ⟨some (i,vc),by simp [Instr.findNow,key _ hb],rfl,h2⟩
    · rename_i hb
      obtain ⟨r',q1,q2⟩:=findA_now hd hk hc es l' (i+1) r h3 h
      exact ⟨r',by simp [Instr.findNow,key _ hb,q1],q2⟩
    · cases h
theorem findA_ask {kt:TypeId} {f:Array Field} (hd:P.underlying kt=some (.struct f)) {k:AV} {c:Value} (hc:conc μ k=some c):∀(es:List (AV×AV×Nat)) (l:List MapEntry) (i:Nat) (r:Option (Nat×AV)),concEs μ es=some l→findA P kt k es i=some r →
    ∃r',(∀w,(Instr.findAsking kt c l i).run P w=.ok r' w)∧FR μ r r'
  | [],l,i,r,hl,h=>by
    injection (show some []=some l from hl) with hl;subst hl
    injection (show some none=some r from h) with h;subst h
    exact ⟨none,fun w=>by simp [Instr.findAsking],trivial⟩
  | e::es,l,i,r,hl,h=>by
    obtain ⟨kc,vc,l',h1,h2,h3,rfl⟩:=concEs_cons hl
    obtain ⟨k',v,bn⟩:=e
    have key:∀b,keyEq P kt k k'=some b→∀w,(Op.equal kt c kc).run P w=.ok b w:=by
      intro b hb
      unfold keyEq at hb
      split at hb
      · rename_i hu;rw [hd] at hu;injection hu with hu;cases hu
      · rename_i hu;rw [hd] at hu;injection hu with hu;cases hu
      · rename_i f' xs ys hu
        exact (eqStr_run hb hc h1).2.2
      · cases hb
    simp only [findA] at h
    split at h
    · rename_i hb
      injection h with h;subst h
      exact ⟨some (i,vc),fun w=>by simp [Instr.findAsking,key _ hb w],rfl,h2⟩
    · rename_i hb
      obtain ⟨r',q1,q2⟩:=findA_ask hd hc es l' (i+1) r h3 h
      exact ⟨r',fun w=>by simp [Instr.findAsking,key _ hb w,q1 w],q2⟩
    · cases h
theorem findKey_run {kt:TypeId} (hk:(∃n,P.underlying kt=some (.int n))∨P.underlying kt=some .string∨∃f,P.underlying kt=some (.struct f)) {k:AV} {c:Value} (hc:conc μ k=some c) {es:List (AV×AV×Nat)} {l:List MapEntry} {r:Option (Nat×AV)} (hl:concEs μ es=some l) (h:findA P kt k es 0=some r) :
    ∃r',(∀w,(Instr.findKey kt c l).run P w=.ok r' w)∧FR μ r r':=by
  rcases hk with ⟨n,hn⟩|hn|⟨f,hf⟩
  · obtain ⟨r',q1,q2⟩:=findA_now hn (.inl ⟨n,rfl⟩) hc es l 0 r hl h
    exact ⟨r',fun w=>by simp [Instr.findKey,run_underlying hn,q1],q2⟩
  · obtain ⟨r',q1,q2⟩:=findA_now hn (.inr rfl) hc es l 0 r hl h
    exact ⟨r',fun w=>by simp [Instr.findKey,run_underlying hn,q1],q2⟩
  · obtain ⟨r',q1,q2⟩:=findA_ask hf hc es l 0 r hl h
    refine ⟨r',fun w=>?_,q2⟩
    cases es with
    | nil =>
      injection (show some []=some l from hl) with hl;subst hl
      have:=q1 w
      simp [Instr.findKey,run_underlying hf,Instr.findNow,Instr.findAsking] at this ⊢
      exact this
    | cons e es =>
      obtain ⟨kc,vc,l',-,-,-,rfl⟩:=concEs_cons hl
      have:Instr.findNow (.struct f) c ({ key:=kc,val:=vc,born:=e.2.2 }::l') 0=none:=by simp [Instr.findNow,Instr.sameNow]
      simp [Instr.findKey,run_underlying hf,this,q1]
theorem isEmpty_conc {es:List (AV×AV×Nat)} {arr:Array MapEntry} (h:concEs μ es=some arr.toList):arr.isEmpty=es.isEmpty:=by
  cases es with
  | nil=>injection (show some []=some arr.toList from h) with h;simp [Array.isEmpty,←Array.length_toList,←h]
  | cons e es =>
    obtain ⟨k,v,l',-,-,-,e'⟩:=concEs_cons h
    simp [Array.isEmpty,←Array.length_toList,e']
theorem concEs_length:∀(es:List (AV×AV×Nat)) (l:List MapEntry),concEs μ es=some l→l.length=es.length
  | [],l,h=>by injection (show some []=some l from h) with h;subst h;rfl
  | e::es,l,h=>by
    obtain ⟨k,v,l',-,-,h3,rfl⟩:=concEs_cons h
    simp [concEs_length es l' h3]
theorem Rel.mp (hR:Rel B μ H w) {i:K} {es:List (AV×AV×Nat)} {c:Nat} (hb:H i=some (.mp es c)):∃l arr,μ i=some l∧w.heap[l.blk]?=some (.map arr c)∧concEs μ es=some arr.toList:=by
  obtain ⟨l,hl,arr,h1,h2⟩:=hR.at_ i _ hb
  exact ⟨l,arr,hl,h1,h2⟩
theorem getObj_map {r:Nat} {arr:Array MapEntry} {c:Nat} (h:w.heap[r]?=some (.map arr c)):(getObj r).run P w=.ok (.map arr c) w:=by simp [getObj,Sem.run,h]
theorem setObj_map {r:Nat} {arr:Array MapEntry} {c:Nat} (o:Obj) (h:w.heap[r]?=some (.map arr c)):(setObj r o).run P w=.ok () { w with heap:=w.heap.setIfInBounds r o }:=by simp [setObj,Sem.run,h]
theorem opLookup_run {s:St} (hR:Rel B μ (T.get s.hp) w) {t:TypeId} {m k:Option AV} {ok:Bool} {v:AV} (h:opLookup P t m k ok s=some v):∃m' k',m=some m'∧k=some k'∧∀c d,conc μ m'=some c→conc μ k'=some d→∃r,conc μ v=some r∧(Instr.lookup t c d ok).run P w=.ok r w:=by
  unfold opLookup at h
  split at h
  · rename_i kt et i k hu
    refine ⟨_,_,rfl,rfl,fun c d hc hd=>?_⟩
    obtain ⟨l,hl,rfl⟩:=conc_map hc
    split at h
    · rename_i es ck hb
      obtain ⟨l',arr,hl',ha,hes⟩:=hR.mp hb
      rw [hl] at hl';injection hl' with hl';subst hl'
      have hg:=getObj_map (P:=P) ha
      split at h
      · rename_i x1 x2 hko hfa
        injection h with h;subst h
        obtain ⟨K',hK',hck,hkind⟩:=checkKey_ok hko
        have:=mono0 (μ:=μ) hK'
        rw [hd] at this;injection this with this;subst this
        obtain ⟨r',hr',hfr⟩:=findKey_run hkind hd hes hfa
        cases r' with
        | none=>exact hfr.elim
        | some p =>
          obtain ⟨j',cv⟩:=p
          obtain ⟨-,hcv⟩:=hfr
          have hck':=hck w
          rw [←isEmpty_conc hes] at hck'
          cases ok
          · exact ⟨cv,hcv,by simp [Instr.lookup,run_underlying hu,hg,hck',hr' w]⟩
          · exact ⟨.tuple #[cv,.bool true],by simp [conc,concL,hcv],by simp [Instr.lookup,run_underlying hu,hg,hck',hr' w]⟩
      · rename_i z hko hfa hz
        injection h with h;subst h
        obtain ⟨K',hK',hck,hkind⟩:=checkKey_ok hko
        have:=mono0 (μ:=μ) hK'
        rw [hd] at this;injection this with this;subst this
        obtain ⟨r',hr',hfr⟩:=findKey_run hkind hd hes hfa
        obtain ⟨ie,zc,hi,hzc,hconc⟩:=zeroA_conc hz
        have hzr:(zeroValue et).run P w=.ok zc w:=by simp [zeroValue,typeInfo,hi,hzc]
        cases r' with
        | some p=>exact hfr.elim
        | none =>
          have hck':=hck w
          rw [←isEmpty_conc hes] at hck'
          cases ok
          · exact ⟨zc,hconc μ,by simp [Instr.lookup,run_underlying hu,hg,hck',hr' w,hzr]⟩
          · exact ⟨.tuple #[zc,.bool false],by simp [conc,concL,hconc μ],by simp [Instr.lookup,run_underlying hu,hg,hck',hr' w,hzr]⟩
      · cases h
    · cases h
  · rename_i kt et k hu
    refine ⟨_,_,rfl,rfl,fun c d hc hd=>?_⟩
    rw [conc_map0 hc]
    split at h
    · rename_i z hko hz
      injection h with h;subst h
      obtain ⟨K',hK',hck,hkind⟩:=checkKey_ok hko
      have:=mono0 (μ:=μ) hK'
      rw [hd] at this;injection this with this;subst this
      obtain ⟨r',hr',hfr⟩:=findKey_run (P:=P) (μ:=μ) (r:=none) hkind hd (es:=[]) (l:=[]) rfl rfl
      obtain ⟨ie,zc,hi,hzc,hconc⟩:=zeroA_conc hz
      have hzr:(zeroValue et).run P w=.ok zc w:=by simp [zeroValue,typeInfo,hi,hzc]
      cases r' with
      | some p=>exact hfr.elim
      | none =>
        have hck':=hck w
        cases ok
        · exact ⟨zc,hconc μ,by simp [Instr.lookup,run_underlying hu,hck',hr' w,hzr]⟩
        · exact ⟨.tuple #[zc,.bool false],by simp [conc,concL,hconc μ],by simp [Instr.lookup,run_underlying hu,hck',hr' w,hzr]⟩
    · cases h
  · cases h
theorem setObj_other {r k:Nat} (o:Obj) (h:k≠r):(w.heap.setIfInBounds r o)[k]?=w.heap[k]?:=by rw [Array.getElem?_setIfInBounds_ne (Ne.symm h)]
theorem setObj_same {r:Nat} {o':Obj} (o:Obj) (h:w.heap[r]?=some o'):(w.heap.setIfInBounds r o)[r]?=some o:=by
  have hlt:=(Array.getElem?_eq_some_iff.1 h).1
  rw [Array.getElem?_setIfInBounds_self];simp [hlt]
theorem mp_set {s:St} (hR:Rel B μ (T.get s.hp) w) {i:K} {es es':List (AV×AV×Nat)} {c c':Nat} (hb:T.get s.hp i=some (.mp es c)) {l:Loc} (hl:μ i=some l) {o':Obj} (ho:w.heap[l.blk]?=some o') {arr':Array MapEntry} (he:concEs μ es'=some arr'.toList) :
    Step B μ (T.get s.hp) s.nx w μ (T.get (setB s i (.mp es' c')).hp) (setB s i (.mp es' c')).nx { w with heap:=w.heap.setIfInBounds l.blk (.map arr' c') }:=by
  rw [show (setB s i (.mp es' c')).hp=T.set s.hp i (.mp es' c') from rfl,get_set']
  exact Step.set_ hR hb trivial (fun _ _ _ _ h=>by cases h) (b':=.mp es' c') trivial hl (by simp) (fun k hk=>setObj_other _ hk) rfl rfl rfl ⟨arr',setObj_same _ ho,he⟩
theorem concEs_setN {k v:AV} {kc vc:Value} (hk:conc μ k=some kc) (hv:conc μ v=some vc):∀(es:List (AV×AV×Nat)) (l:List MapEntry) (j:Nat),concEs μ es=some l→concEs μ (setN es j fun e=>(k,v,e.2.2))=some (l.modify j fun e=>{ e with key:=kc,val:=vc })
  | [],l,j,h=>by injection (show some []=some l from h) with h;subst h;cases j<;>simp [setN,concEs]
  | e::es,l,0,h=>by
    obtain ⟨a,b,l',-,-,h3,rfl⟩:=concEs_cons h
    simp [setN,concEs,concE,hk,hv,h3]
  | e::es,l,j+1,h=>by
    obtain ⟨a,b,l',h1,h2,h3,rfl⟩:=concEs_cons h
    simp [setN,concEs,concE,h1,h2,concEs_setN hk hv es l' j h3]
theorem concEs_delN:∀(es:List (AV×AV×Nat)) (l:List MapEntry) (j:Nat),concEs μ es=some l→concEs μ (delN es j)=some (l.eraseIdx j)
  | [],l,j,h=>by injection (show some []=some l from h) with h;subst h;cases j<;>simp [delN,concEs]
  | e::es,l,0,h=>by
    obtain ⟨a,b,l',-,-,h3,rfl⟩:=concEs_cons h
    simp [delN,h3]
  | e::es,l,j+1,h=>by
    obtain ⟨a,b,l',h1,h2,h3,rfl⟩:=concEs_cons h
    simp [delN,concEs,concE,h1,h2,concEs_delN es l' j h3]
theorem concEs_push {k v:AV} {kc vc:Value} {bn:Nat} (hk:conc μ k=some kc) (hv:conc μ v=some vc):∀(es:List (AV×AV×Nat)) (l:List MapEntry),concEs μ es=some l→concEs μ (es++[(k,v,bn)])=some (l++[{ key:=kc,val:=vc,born:=bn }])
  | [],l,h=>by injection (show some []=some l from h) with h;subst h;simp [concEs,concE,hk,hv]
  | e::es,l,h=>by
    obtain ⟨a,b,l',h1,h2,h3,rfl⟩:=concEs_cons h
    simp [concEs,concE,h1,h2,concEs_push hk hv es l' h3]
theorem concEs_get:∀(es:List (AV×AV×Nat)) (l:List MapEntry) (j:Nat) (e:AV×AV×Nat),concEs μ es=some l→es[j]?=some e→∃x,l[j]?=some x∧conc μ e.1=some x.key
  | [],l,j,e,_,he=>by simp at he
  | x::xs,l,0,e,h,he=>by
    obtain ⟨a,b,l',h1,h2,h3,rfl⟩:=concEs_cons h
    simp only [List.getElem?_cons_zero,Option.some.injEq] at he;subst he
    exact ⟨_,rfl,h1⟩
  | x::xs,l,j+1,e,h,he=>by
    obtain ⟨a,b,l',h1,h2,h3,rfl⟩:=concEs_cons h
    simp only [List.getElem?_cons_succ] at he ⊢
    exact concEs_get xs l' j e h3 he
theorem opMapUpdate_goes {s s':St} (hR:Rel B μ (T.get s.hp) w) {t:TypeId} {m k x:Option AV} (h:opMapUpdate P t m k x s=some s'):∃m' k' x',m=some m'∧k=some k'∧x=some x'∧∀c d e,conc μ m'=some c→conc μ k'=some d→conc μ x'=some e →
    ∃w',(Instr.mapUpdate t c d e).run P w=.ok () w'∧Step B μ (T.get s.hp) s.nx w μ (T.get s'.hp) s'.nx w':=by
  unfold opMapUpdate at h
  split at h
  case h_2=>cases h
  rename_i kt et i k v hu
  refine ⟨_,_,_,rfl,rfl,rfl,fun c d e hc hd he=>?_⟩
  obtain ⟨l,hl,rfl⟩:=conc_map hc
  split at h
  case h_2=>cases h
  rename_i es ck hb
  obtain ⟨l',arr,hl',ha,hes⟩:=hR.mp hb
  rw [hl] at hl';injection hl' with hl';subst hl'
  have hg:=getObj_map (P:=P) ha
  split at h
  · rename_i j x2 hko hfa
    split at h
    case h_2=>cases h
    rename_i en hen
    split at h
    case h_2=>cases h
    rename_i hsame
    injection h with h;subst h
    simp only [Bool.and_eq_true] at hsame
    obtain ⟨hs1,hs2⟩:=hsame
    have hs1:=sameA_eq _ _ hs1
    obtain ⟨K',hK',hck,hkind⟩:=checkKey_ok hko
    have:=mono0 (μ:=μ) hK'
    rw [hd] at this;injection this with this;subst this
    obtain ⟨r',hr',hfr⟩:=findKey_run hkind hd hes hfa
    cases r' with
    | none=>exact hfr.elim
    | some p =>
      obtain ⟨j',cv⟩:=p
      obtain ⟨rfl,hcv⟩:=hfr
      rw [getL_eq] at hen
      obtain ⟨xe,hxe,hxk⟩:=concEs_get es _ j en hes hen
      rw [←hs1,hd] at hxk
      injection hxk with hxk
      have hold:arr[j]?=some xe:=by rw [←Array.getElem?_toList];exact hxe
      have hkts:(Instr.keyThatStays d d).run P w=.ok d w:=by
        have:=plainKey_bits (n:=9999) hs2 hd
        simp [Instr.keyThatStays,this]
      refine ⟨{ w with heap:=w.heap.setIfInBounds l.blk (.map (arr.modify j fun e'=>{ e' with key:=d,val:=e }) ck) },?_,?_⟩
      · simp [Instr.mapUpdate,run_underlying hu,hg,hck w,hr' w,hold,←hxk,hkts]
        rw [setObj_map _ ha]
      · refine mp_set hR hb hl ha ?_
        rw [Array.toList_modify]
        exact concEs_setN hd he es _ j hes
  · rename_i hko hfa
    injection h with h;subst h
    obtain ⟨K',hK',hck,hkind⟩:=checkKey_ok hko
    have:=mono0 (μ:=μ) hK'
    rw [hd] at this;injection this with this;subst this
    obtain ⟨r',hr',hfr⟩:=findKey_run hkind hd hes hfa
    cases r' with
    | some p=>exact hfr.elim
    | none =>
      refine ⟨{ w with heap:=w.heap.setIfInBounds l.blk (.map (arr.push { key:=d,val:=e,born:=ck }) (ck+1)) },?_,?_⟩
      · simp [Instr.mapUpdate,run_underlying hu,hg,hck w,hr' w]
        rw [setObj_map _ ha]
      · refine mp_set hR hb hl ha ?_
        rw [Array.toList_push]
        exact concEs_push hd he es _ hes
  · cases h
theorem opDelete_goes {s s':St} (hR:Rel B μ (T.get s.hp) w) {ts:List TypeId} {ty:TypeId} {m k:AV} (h:opDelete P ts m k s=some s') {c d:Value} (hc:conc μ m=some c) (hd:conc μ k=some d) :
    ∃w',(Builtin.delete_ ts.toArray ty #[c,d]).run P w=.ok (.tuple #[]) w'∧Step B μ (T.get s.hp) s.nx w μ (T.get s'.hp) s'.nx w':=by
  unfold opDelete at h
  split at h
  case h_2=>cases h
  rename_i t ts i
  obtain ⟨l,hl,rfl⟩:=conc_map hc
  split at h
  case h_2=>cases h
  rename_i kt et es ck hu hb
  obtain ⟨l',arr,hl',ha,hes⟩:=hR.mp hb
  rw [hl] at hl';injection hl' with hl';subst hl'
  have hg:=getObj_map (P:=P) ha
  split at h
  · rename_i j x2 hko hfa
    injection h with h;subst h
    obtain ⟨K',hK',hck,hkind⟩:=checkKey_ok hko
    have:=mono0 (μ:=μ) hK'
    rw [hd] at this;injection this with this;subst this
    obtain ⟨r',hr',hfr⟩:=findKey_run hkind hd hes hfa
    cases r' with
    | none=>exact hfr.elim
    | some p =>
      obtain ⟨j',cv⟩:=p
      obtain ⟨rfl,hcv⟩:=hfr
      have hck':=hck w
      rw [←isEmpty_conc hes] at hck'
      refine ⟨{ w with heap:=w.heap.setIfInBounds l.blk (.map (arr.eraseIdxIfInBounds j) ck) },?_,?_⟩
      · simp [Builtin.delete_,run_underlying hu,hg,hck',hr' w]
        rw [setObj_map _ ha];rfl
      · refine mp_set hR hb hl ha ?_
        rw [Array.toList_eraseIdxIfInBounds]
        exact concEs_delN es _ j hes
  · rename_i hko hfa
    injection h with h;subst h
    obtain ⟨K',hK',hck,hkind⟩:=checkKey_ok hko
    have:=mono0 (μ:=μ) hK'
    rw [hd] at this;injection this with this;subst this
    obtain ⟨r',hr',hfr⟩:=findKey_run hkind hd hes hfa
    cases r' with
    | some p=>exact hfr.elim
    | none =>
      have hck':=hck w
      rw [←isEmpty_conc hes] at hck'
      refine ⟨{ w with heap:=w.heap.setIfInBounds l.blk (.map arr ck) },?_,?_⟩
      · simp [Builtin.delete_,run_underlying hu,hg,hck',hr' w]
        rw [setObj_map _ ha];rfl
      · have:=mp_set (c:=ck) (c':=ck) (arr':=arr) hR hb hl ha hes
        refine this.sub fun j b hj=>?_
        rw [show (setB s i (.mp es ck)).hp=T.set s.hp i (.mp es ck) from rfl,get_set']
        unfold updH
        split
        · rename_i e;subst e;rw [hb] at hj;exact hj
        · exact hj
  · cases h
theorem opClear_goes {s s':St} (hR:Rel B μ (T.get s.hp) w) {ts:List TypeId} {ty:TypeId} {m:AV} (h:opClear P ts m s=some s') {c:Value} (hc:conc μ m=some c) :
    ∃w',(Builtin.clear_ ts.toArray ty #[c]).run P w=.ok (.tuple #[]) w'∧Step B μ (T.get s.hp) s.nx w μ (T.get s'.hp) s'.nx w':=by
  unfold opClear at h
  split at h
  case h_2=>cases h
  rename_i t ts i
  obtain ⟨l,hl,rfl⟩:=conc_map hc
  split at h
  case h_2=>cases h
  rename_i kt et es ck hu hb
  obtain ⟨l',arr,hl',ha,hes⟩:=hR.mp hb
  rw [hl] at hl';injection hl' with hl';subst hl'
  have hg:=getObj_map (P:=P) ha
  injection h with h;subst h
  refine ⟨{ w with heap:=w.heap.setIfInBounds l.blk (.map #[] ck) },?_,mp_set hR hb hl ha rfl⟩
  simp [Builtin.clear_,run_underlying hu,hg]
  rw [setObj_map _ ha];rfl
theorem opLen_run {s:St} (hR:Rel B μ (T.get s.hp) w) {ts:List TypeId} {ty:TypeId} {x v:AV} (h:opLen P ts x s=some v) {c:Value} (hc:conc μ x=some c):∃d,conc μ v=some d∧(Builtin.len_ ts.toArray ty #[c]).run P w=.ok d w:=by
  unfold opLen at h
  split at h
  case h_2=>cases h
  rename_i t ts
  split at h
  · rename_i s' hu
    injection h with h;subst h
    rw [conc_str hc]
    exact ⟨_,rfl,by simp [Builtin.len_,run_underlying hu,bytesV_size,goInt]⟩
  · rename_i e a n k hu
    injection h with h;subst h
    cases a with
    | none=>obtain ⟨_,m,rfl,-⟩:=conc_sliceN hc;exact ⟨_,rfl,by simp [Builtin.len_,run_underlying hu,goInt]⟩
    | some p=>obtain ⟨l,-,-,rfl⟩:=conc_slice (i:=p.1) (o:=p.2) hc;exact ⟨_,rfl,by simp [Builtin.len_,run_underlying hu,goInt]⟩
  · rename_i n e hu
    injection h with h;subst h
    exact ⟨_,rfl,by simp [Builtin.len_,run_underlying hu,goInt]⟩
  · rename_i k e hu
    injection h with h;subst h
    rw [conc_map0 hc]
    exact ⟨_,rfl,by simp [Builtin.len_,run_underlying hu,goInt]⟩
  · rename_i k e i hu
    split at h
    · rename_i es ck hb
      injection h with h;subst h
      obtain ⟨l,hl,rfl⟩:=conc_map hc
      obtain ⟨l',arr,hl',ha,hes⟩:=hR.mp hb
      rw [hl] at hl';injection hl' with hl';subst hl'
      have hg:=getObj_map (P:=P) ha
      have hlen:=concEs_length _ _ hes
      rw [Array.length_toList] at hlen
      exact ⟨_,rfl,by simp [Builtin.len_,run_underlying hu,hg,goInt,hlen]⟩
    · cases h
  · rename_i a hu
    split at h
    · rename_i n e ha
      injection h with h;subst h
      exact ⟨_,rfl,by simp [Builtin.len_,run_underlying hu,run_underlying ha,goInt]⟩
    · cases h
  · cases h
theorem opCap_run {ts:List TypeId} {ty:TypeId} {x v:AV} (h:opCap P ts x=some v) {c:Value} (hc:conc μ x=some c):∃d,conc μ v=some d∧∀w,(Builtin.cap_ ts.toArray ty #[c]).run P w=.ok d w:=by
  unfold opCap at h
  split at h
  case h_2=>cases h
  rename_i t ts
  split at h
  · rename_i e a n k hu
    injection h with h;subst h
    cases a with
    | none =>
      have hc:=conc_slice0 hc;subst hc
      exact ⟨_,rfl,fun w=>by simp [Builtin.cap_,run_underlying hu,goInt]⟩
    | some p=>obtain ⟨l,-,-,rfl⟩:=conc_slice (i:=p.1) (o:=p.2) hc;exact ⟨_,rfl,fun w=>by simp [Builtin.cap_,run_underlying hu,goInt,capV]⟩
  · cases h
end Go.Proofs.YtoegffiapnnkiaaGreat.Abs
namespace Go.Proofs.YtoegffiapnnkiaaGreat.Abs
open Go
variable {P:Program} {B:Nat} {μ μ':K→Option Loc} {H H':Hp} {w w1:World}
def EvR (μ:K→Option Loc) (tm:Tm) (ρ:Operand→Value) (x:Operand):Prop:=∀u,ev tm x=some u→conc μ u=some (ρ x)
def OpsR (μ:K→Option Loc) (tm:Tm) (ρ:Operand→Value) (o:Op):Prop:=∀x∈o.operands.toList,EvR μ tm ρ x
theorem evs_conc {tm:Tm} {ρ:Operand→Value}:∀(l:List Operand) (vs:List AV),(∀x∈l,EvR μ tm ρ x)→evs tm l=some vs→concL μ vs=some (l.map ρ)
  | [],vs,_,h=>by injection (show some []=some vs from h) with h;subst h;rfl
  | x::xs,vs,hr,h=>by
    obtain ⟨v,l,h1,h2,rfl⟩:=cons2_some (show cons2 (ev tm x) (evs tm xs)=some vs from h)
    simp only [concL,hr x (by simp) v h1,evs_conc xs l (fun y hy=>hr y (by simp [hy])) h2,Option.bind_some,Option.map_some,List.map_cons]
theorem evParts_conc {tm:Tm} {ρ:Operand→Value}:∀(l:List (Nat×Operand)) (ps:List (Nat×AV)),(∀p∈l,EvR μ tm ρ p.2)→evParts tm l=some ps→PartsR μ ps (l.map fun p=>(p.1,ρ p.2))
  | [],ps,_,h=>by injection (show some []=some ps from h) with h;subst h;trivial
  | x::xs,ps,hr,h=>by
    obtain ⟨p,l,h1,h2,rfl⟩:=cons2_some (show cons2 (evPart tm x) (evParts tm xs)=some ps from h)
    have h1:@Option.rec AV (fun _=>Option (Nat×AV)) none (fun v=>some (x.1,v)) (ev tm x.2)=some p:=h1
    cases hx:ev tm x.2 with
    | none=>rw [hx] at h1;cases h1
    | some v =>
      rw [hx] at h1
      injection h1 with h1;subst h1
      exact ⟨rfl,hr x (by simp) v hx,evParts_conc xs l (fun y hy=>hr y (by simp [hy])) h2⟩
theorem evO_conc {tm:Tm} {ρ:Operand→Value} {x:Option Operand} {v:Option AV} (hr:∀y,x=some y→EvR μ tm ρ y) (h:evO tm x=some v):ConcO μ v (x.map ρ):=by
  cases x with
  | none=>injection (show some none=some v from h) with h;subst h;rfl
  | some y =>
    simp only [evO] at h
    split at h
    · rename_i u hu
      injection h with h;subst h
      exact ⟨ρ y,rfl,hr y rfl u hu⟩
    · cases h
theorem ofO_ret {x:Option AV} {s s':St} {v:AV} (h:ofO x s=.ret v s'):x=some v∧s'=s:=by
  cases x with
  | none=>cases h
  | some u=>injection (show CR.ret u s=CR.ret v s' from h) with h1 h2;exact ⟨by rw [h1],h2.symm⟩
theorem ofP_ret {x:Option (AV×St)} {s':St} {v:AV} (h:ofP x=.ret v s'):x=some (v,s'):=by
  cases x with
  | none=>cases h
  | some u=>injection (show CR.ret u.1 u.2=CR.ret v s' from h) with h1 h2;rw [←h1,←h2]
theorem ofS_ret {x:Option St} {s':St} {v:AV} (h:ofS x=.ret v s'):x=some s'∧v=.tup []:=by
  cases x with
  | none=>cases h
  | some u=>injection (show CR.ret (.tup []) u=CR.ret v s' from h) with h1 h2;exact ⟨by rw [h2],h1.symm⟩
theorem ofO_pan {x:Option AV} {s s':St} {v:AV} (h:ofO x s=.pan v s'):False:=by cases x<;>cases h
theorem ofP_pan {x:Option (AV×St)} {s':St} {v:AV} (h:ofP x=.pan v s'):False:=by cases x<;>cases h
theorem ofS_pan {x:Option St} {s':St} {v:AV} (h:ofS x=.pan v s'):False:=by cases x<;>cases h
def Yld (P:Program) (ρ:Operand→Value) (o:Oper) (c:Value):Prop:=∀w,(execOp ρ o).run P w=.ok (.value c) w
theorem vrun {m:Sem Value} {c:Value} {w w':World} (h:m.run P w=.ok c w'):(do pure (Next.value (←m)):Sem Next).run P w=.ok (.value c) w':=by simp [h]
theorem urun {m:Sem Unit} {w w':World} (h:m.run P w=.ok () w'):(do m;pure Next.skip:Sem Next).run P w=.ok .skip w':=by simp [h]
theorem convS_pure {P:Program} {a b:TypeId} {x:Option AV} {s:St} {r:CR} (hm:cvM P a b=false) (h:opConvS P a b x s=r):ofO (opConv P a b x) s=r:=by
  unfold cvM at hm
  split at hm
  · cases hm
  · cases hm
  · rename_i h1 h2
    unfold opConvS at h
    split at h
    · rename_i e ha _;exact absurd ha (h1 e)
    · rename_i e _ hb;exact absurd hb (h2 e)
    · rename_i e ha _;exact absurd ha (h1 e)
    · rename_i e hb _ _;exact absurd hb (h2 e)
    · exact h
theorem pure_ok (call:Nat→List AV→St→CR) {tm:Tm} {ρ:Operand→Value} (dst:Option Tmp) (op:Op) (ty:TypeId) (pos:String) (after:Array Edge) (guard:Option (Nat×Bool)) (hc:cls P op=.p) {s s':St} {v:AV} (h:opA op P call tm s=.ret v s') (hr:OpsR μ tm ρ op) :
    s'=s∧∃c,conc μ v=some c∧Yld P ρ ⟨dst,op,ty,pos,after,guard⟩ c:=by
  have mem:∀ {x:Operand},x∈op.operands.toList→EvR μ tm ρ x:=fun hx=>hr _ hx
  cases op with
  | move x =>
    obtain ⟨h1,h2⟩:=ofO_ret h
    exact ⟨h2,_,mem (x:=x) (by simp [Op.operands]) v h1,fun w=>rfl⟩
  | assign x =>
    obtain ⟨h1,h2⟩:=ofO_ret h
    exact ⟨h2,_,mem (x:=x) (by simp [Op.operands]) v h1,fun w=>rfl⟩
  | pick c a b =>
    obtain ⟨h1,h2⟩:=ofO_ret h
    obtain ⟨g,hg,h1⟩:=opPick_run h1
    have ec:=conc_bool (mem (x:=c) (by simp [Op.operands]) _ hg)
    refine ⟨h2,if g then ρ a else ρ b,?_,fun w=>by simp [execOp,ec,Go.asBool]⟩
    cases g
    · exact mem (x:=b) (by simp [Op.operands]) v h1
    · exact mem (x:=a) (by simp [Op.operands]) v h1
  | build t ps =>
    obtain ⟨h1,h2⟩:=ofO_ret h
    obtain ⟨qs,hq,h1⟩:=opBuild_run h1
    have hp:=evParts_conc ps.toList qs (fun p hp=>mem (x:=p.2) (by simp [Op.operands];exact ⟨p.1,by simpa using hp⟩)) hq
    obtain ⟨d,hd,hrun⟩:=h1 μ (ps.map fun p=>(p.1,ρ p.2)) (by simpa using hp)
    exact ⟨h2,d,hd,fun w=>vrun (hrun w)⟩
  | nilCheck x =>
    obtain ⟨h1,h2⟩:=ofO_ret h
    obtain ⟨h1,h3⟩:=opNil_run h1
    have hx:=mem (x:=x) (by simp [Op.operands]) v h1
    refine ⟨h2,_,hx,fun w=>?_⟩
    rcases h3 μ _ hx with ⟨a,e⟩|⟨t,y,e⟩|⟨f,a,b,e⟩<;>simp [execOp,e]
  | binOp op t x y u =>
    obtain ⟨h1,h2⟩:=ofO_ret h
    obtain ⟨a,b,ha,hb,h1⟩:=opBin_run h1
    obtain ⟨c,hc,hrun⟩:=h1 μ _ _ (mem (x:=x) (by simp [Op.operands]) a ha) (mem (x:=y) (by simp [Op.operands]) b hb)
    exact ⟨h2,c,hc,fun w=>vrun (hrun w x y)⟩
  | unOp op t x =>
    obtain ⟨h1,h2⟩:=ofO_ret h
    obtain ⟨a,ha,h1⟩:=opUn_run (μ:=μ) (P:=P) h1
    obtain ⟨c,hc,hrun⟩:=h1 _ (mem (x:=x) (by simp [Op.operands]) a ha)
    exact ⟨h2,c,hc,fun w=>vrun (hrun w)⟩
  | convert t u x =>
    have hcm:cvM P t u=false:=by
      simp only [cls] at hc
      cases hm:cvM P t u with
      | false=>rfl
      | true=>rw [hm] at hc;cases hc
    obtain ⟨h1,h2⟩:=ofO_ret (convS_pure hcm h)
    obtain ⟨a,ha,h1⟩:=opConv_run (μ:=μ) h1
    obtain ⟨c,hc,hrun⟩:=h1 _ (mem (x:=x) (by simp [Op.operands]) a ha)
    exact ⟨h2,c,hc,fun w=>vrun (hrun w)⟩
  | makeInterface t x =>
    obtain ⟨h1,h2⟩:=ofO_ret h
    obtain ⟨a,ha,h1⟩:=opMkIface_run h1
    obtain ⟨c,hc,hrun⟩:=h1 μ _ (mem (x:=x) (by simp [Op.operands]) a ha)
    exact ⟨h2,c,hc,fun w=>vrun (hrun w)⟩
  | makeFunc fn a b =>
    obtain ⟨h1,h2⟩:=ofO_ret h
    unfold opMkFunc at h1
    split at h1
    · rename_i f x y hx hy
      injection h1 with h1;subst h1
      have e1:=evs_conc a.toList _ (fun z hz=>mem (x:=z) (by simp [Op.operands];exact .inl (by simpa using hz))) hx
      have e2:=evs_conc b.toList _ (fun z hz=>mem (x:=z) (by simp [Op.operands];exact .inr (by simpa using hz))) hy
      refine ⟨h2,.func (.func f) (a.map ρ) (b.map ρ),?_,fun w=>vrun rfl⟩
      simp only [conc,e1,e2,Option.bind_some,Option.map_some]
      congr 2<;>(apply Array.toList_inj.mp;simp)
    · cases h1
  | slice t x lo hi mx =>
    obtain ⟨h1,h2⟩:=ofO_ret h
    obtain ⟨u,lo',hi',mx',hu,hlo,hhi,hmx,h1⟩:=opSlice_run h1
    obtain ⟨d,hd,hrun⟩:=h1 μ _ _ _ _ (mem (x:=x) (by simp [Op.operands]) u hu) (evO_conc (fun y hy=>mem (x:=y) (by simp [Op.operands,hy])) hlo) (evO_conc (fun y hy=>mem (x:=y) (by simp [Op.operands,hy])) hhi) (evO_conc (fun y hy=>mem (x:=y) (by simp [Op.operands,hy])) hmx)
    exact ⟨h2,d,hd,fun w=>vrun (hrun w)⟩
  | fieldAddr t x f =>
    obtain ⟨h1,h2⟩:=ofO_ret h
    obtain ⟨a,ha,h1⟩:=opFieldAddr_run h1
    obtain ⟨c,hc,hrun⟩:=h1 μ _ (mem (x:=x) (by simp [Op.operands]) a ha)
    exact ⟨h2,c,hc,fun w=>vrun (hrun w)⟩
  | field t x f =>
    obtain ⟨h1,h2⟩:=ofO_ret h
    obtain ⟨a,ha,h1⟩:=opField_run h1
    obtain ⟨c,hc,hrun⟩:=h1 μ _ (mem (x:=x) (by simp [Op.operands]) a ha)
    exact ⟨h2,c,hc,fun w=>vrun (hrun w)⟩
  | indexAddr t x i =>
    obtain ⟨h1,h2⟩:=ofO_ret h
    obtain ⟨a,b,ha,hb,h1⟩:=opIndexAddr_run h1
    obtain ⟨c,hc,hrun⟩:=h1 μ _ _ (mem (x:=x) (by simp [Op.operands]) a ha) (mem (x:=i) (by simp [Op.operands]) b hb)
    exact ⟨h2,c,hc,fun w=>vrun (hrun w)⟩
  | index t x i =>
    obtain ⟨h1,h2⟩:=ofO_ret h
    obtain ⟨a,b,ha,hb,h1⟩:=opIndex_run h1
    obtain ⟨c,hc,hrun⟩:=h1 μ _ _ (mem (x:=x) (by simp [Op.operands]) a ha) (mem (x:=i) (by simp [Op.operands]) b hb)
    exact ⟨h2,c,hc,fun w=>vrun (hrun w)⟩
  | extract x i =>
    obtain ⟨h1,h2⟩:=ofO_ret h
    obtain ⟨a,ha,h1⟩:=opExtract_run h1
    obtain ⟨c,hc,hrun⟩:=h1 μ _ (mem (x:=x) (by simp [Op.operands]) a ha)
    exact ⟨h2,c,hc,fun w=>vrun (hrun w)⟩
  | call c =>
    obtain ⟨callee,args,ts⟩:=c
    cases callee with
    | value f=>cases hc
    | invoke r n=>cases hc
    | builtin b =>
      have h:opCall P call ⟨.builtin b,args,ts⟩ tm s=.ret v s':=h
      unfold opCall at h
      split at h
      · rename_i hcal _;cases hcal
      · rename_i b' as hcal has
        have hcal:Callee.builtin b=Callee.builtin b':=hcal
        injection hcal with hcal;subst hcal
        have hargs:=evs_conc args.toList as (fun z hz=>mem (x:=z) (by simp [Op.operands,Call.operands];simpa using hz)) has
        have hex:∀(m:Sem Value) (d:Value),(∀w,m.run P w=.ok d w)→(∀w,(execOp ρ ⟨dst,.call ⟨.builtin b,args,ts⟩,ty,pos,after,guard⟩).run P w=(do pure (Next.value (←m)):Sem Next).run P w)→Yld P ρ ⟨dst,.call ⟨.builtin b,args,ts⟩,ty,pos,after,guard⟩ d:=fun m d hm he w=>(he w).trans (vrun (hm w))
        unfold opBuiltin at h
        split at h
        · cases hc
        · cases hc
        · rename_i x
          obtain ⟨h1,h2⟩:=ofO_ret h
          have hnm:notMap P ts.toList=true:=by
            simp only [cls] at hc
            split at hc
            · assumption
            · cases hc
          simp only [concL,Option.bind_eq_some_iff,Option.map_eq_some_iff] at hargs
          obtain ⟨cx,hcx,l0,hl0,hl⟩:=hargs
          injection hl0 with hl0;subst hl0
          have hmap:args.map ρ=#[cx]:=by apply Array.toList_inj.mp;rw [Array.toList_map,←hl]
          refine ⟨h2,?_⟩
          have key:∃d,conc μ v=some d∧∀w,(Builtin.len_ ts ty #[cx]).run P w=.ok d w:=by
            unfold opLen at h1
            split at h1
            case h_2=>cases h1
            rename_i t tl hts
            have e0:ts=(t::tl).toArray:=by rw [←hts]
            subst e0
            split at h1
            · rename_i s'' hu
              injection h1 with h1;subst h1
              rw [conc_str hcx]
              exact ⟨_,rfl,fun w=>by simp [Builtin.len_,run_underlying hu,bytesV_size,goInt]⟩
            · rename_i e a n k hu
              injection h1 with h1;subst h1
              cases a with
              | none=>obtain ⟨_,m,rfl,-⟩:=conc_sliceN hcx;exact ⟨_,rfl,fun w=>by simp [Builtin.len_,run_underlying hu,goInt]⟩
              | some p=>obtain ⟨l,-,-,rfl⟩:=conc_slice (i:=p.1) (o:=p.2) hcx;exact ⟨_,rfl,fun w=>by simp [Builtin.len_,run_underlying hu,goInt]⟩
            · rename_i n e hu
              injection h1 with h1;subst h1
              exact ⟨_,rfl,fun w=>by simp [Builtin.len_,run_underlying hu,goInt]⟩
            · rename_i k e hu
              simp [notMap,hu] at hnm
            · rename_i k e i hu
              simp [notMap,hu] at hnm
            · rename_i a hu
              split at h1
              · rename_i n e ha
                injection h1 with h1;subst h1
                exact ⟨_,rfl,fun w=>by simp [Builtin.len_,run_underlying hu,run_underlying ha,goInt]⟩
              · cases h1
            · cases h1
          obtain ⟨d,hd,hrun⟩:=key
          exact ⟨d,hd,hex _ d hrun (fun w=>by simp [execOp,resolve,invoke,builtin,hmap])⟩
        · rename_i x
          obtain ⟨h1,h2⟩:=ofO_ret h
          simp only [concL,Option.bind_eq_some_iff,Option.map_eq_some_iff] at hargs
          obtain ⟨cx,hcx,l0,hl0,hl⟩:=hargs
          injection hl0 with hl0;subst hl0
          have hmap:args.map ρ=#[cx]:=by apply Array.toList_inj.mp;rw [Array.toList_map,←hl]
          obtain ⟨d,hd,hrun⟩:=opCap_run (ty:=ty) h1 hcx
          exact ⟨h2,d,hd,hex _ d hrun (fun w=>by simp [execOp,resolve,invoke,builtin,hmap])⟩
        · obtain ⟨h1,h2⟩:=ofO_ret h
          unfold opMM at h1
          split at h1
          · rename_i x r
            simp only [concL,Option.bind_eq_some_iff,Option.map_eq_some_iff] at hargs
            obtain ⟨cx,hcx,l0,hl0,hl⟩:=hargs
            have hmap:args.map ρ=(cx::l0).toArray:=by apply Array.toList_inj.mp;rw [Array.toList_map,←hl]
            obtain ⟨d,hd,hrun⟩:=foldMM_run (P:=P) r x v h1 μ cx l0 hcx hl0
            have hm:∀w,(Builtin.min_ ts ty (cx::l0).toArray).run P w=.ok d w:=fun w=>by simpa [Builtin.min_] using hrun w
            exact ⟨h2,d,hd,hex _ d hm (fun w=>by simp [execOp,resolve,invoke,builtin,hmap])⟩
          · cases h1
        · obtain ⟨h1,h2⟩:=ofO_ret h
          unfold opMM at h1
          split at h1
          · rename_i x r
            simp only [concL,Option.bind_eq_some_iff,Option.map_eq_some_iff] at hargs
            obtain ⟨cx,hcx,l0,hl0,hl⟩:=hargs
            have hmap:args.map ρ=(cx::l0).toArray:=by apply Array.toList_inj.mp;rw [Array.toList_map,←hl]
            obtain ⟨d,hd,hrun⟩:=foldMM_run (P:=P) r x v h1 μ cx l0 hcx hl0
            have hm:∀w,(Builtin.max_ ts ty (cx::l0).toArray).run P w=.ok d w:=fun w=>by simpa [Builtin.max_] using hrun w
            exact ⟨h2,d,hd,hex _ d hm (fun w=>by simp [execOp,resolve,invoke,builtin,hmap])⟩
          · cases h1
        · cases hc
        · cases hc
        · cases h
      · cases h
  | makeMap t r=>cases r<;>first|(cases hc;done)|(cases h;done)
  | _=>first|(cases hc;done)|(cases h;done)
def Lands (P:Program) (B:Nat) (μ:K→Option Loc) (s:St) (w:World) (ρ:Operand→Value) (o:Oper) (v:AV) (s':St):Prop :=
  ∃μ' c w',conc μ' v=some c∧Step B μ (T.get s.hp) s.nx w μ' (T.get s'.hp) s'.nx w'∧((execOp ρ o).run P w=.ok (.value c) w'∨(c=undef∧(execOp ρ o).run P w=.ok .skip w'))
theorem Lands.wp {s s':St} {o:Oper} {a:Act} {v:AV} {k:Act→World→Prop} {Q:Exit→Act→World→Prop} (h:Lands P B μ s w a.eval o v s') (hk:∀μ' c w',conc μ' v=some c→Step B μ (T.get s.hp) s.nx w μ' (T.get s'.hp) s'.nx w'→k (a.put o.dst c) w'):o.wp P a w k Q:=by
  obtain ⟨μ',c,w',h1,h2,h3⟩:=h
  have:=hk μ' c w' h1 h2
  unfold Oper.wp
  rcases h3 with h3|⟨rfl,h3⟩
  · rw [h3];exact this
  · rw [h3];exact this
theorem Goes.lands {s s':St} {ρ:Operand→Value} {o:Oper} {v:AV} {m:Sem Value} (h:Goes P B μ s w m v s') (he:∀w,(execOp ρ o).run P w=(do pure (Next.value (←m)):Sem Next).run P w):Lands P B μ s w ρ o v s':=by
  obtain ⟨μ',c,w',h1,h2,h3⟩:=h
  exact ⟨μ',c,w',h2,h3,.inl ((he w).trans (vrun h1))⟩
def isCall:Op→Bool
  | .call { callee:=.value _,.. }=>true
  | _=>false
theorem load_lands {s:St} (hR:Rel B μ (T.get s.hp) w) {tm:Tm} {ρ:Operand→Value} {t:TypeId} {a:Operand} (hr:EvR μ tm ρ a) {v:AV} (h:opLoad P t (ev tm a) s=some v):∃c,conc μ v=some c∧(Instr.loadAt t (ρ a)).run P w=.ok c w:=by
  obtain ⟨p,hp,h⟩:=optK_some h
  obtain ⟨u,hu,hp⟩:=optK_some hp
  have:=asPtr_some hp
  subst this
  obtain ⟨cs,hcs,h⟩:=optK_some h
  obtain ⟨b,hb,hbl⟩:=optK_some hcs
  exact loadAt_run hR hb hbl h (hr _ hu)
set_option maxHeartbeats 4000000 in
theorem op_lands (call:Nat→List AV→St→CR) {s s':St} (hR:Rel B μ (T.get s.hp) w) (hf:Fresh μ s.nx s'.nx) {tm:Tm} {ρ:Operand→Value} (dst:Option Tmp) (op:Op) (ty:TypeId) (pos:String) (after:Array Edge) (guard:Option (Nat×Bool)) (hic:isCall op=false) {v:AV} (h:opA op P call tm s=.ret v s') (hr:OpsR μ tm ρ op) :
    Lands P B μ s w ρ ⟨dst,op,ty,pos,after,guard⟩ v s':=by
  have mem:∀ {x:Operand},x∈op.operands.toList→EvR μ tm ρ x:=fun hx=>hr _ hx
  have hf0:K.succ s.nx=s'.nx→μ s.nx=none:=fun e=>hf _ (Nat.le_refl _) (by rw [←e,K.val_succ];omega)
  have pure_:cls P op=.p→Lands P B μ s w ρ ⟨dst,op,ty,pos,after,guard⟩ v s':=fun hc=>by
    obtain ⟨rfl,c,h1,h2⟩:=pure_ok (P:=P) call dst op ty pos after guard hc h hr
    exact ⟨μ,c,w,h1,Step.refl hR _,.inl (h2 w)⟩
  cases op with
  | alloc t=>exact (opAlloc_goes hR hf0 (ofP_ret h)).lands fun w=>rfl
  | box t x =>
    obtain ⟨u,hu,h1⟩:=opBox_goes (P:=P) hR hf0 (ofP_ret h)
    exact (h1 _ (mem (x:=x) (by simp [Op.operands]) u hu)).lands fun w=>rfl
  | buildSlice t n ps =>
    obtain ⟨qs,hq,h1⟩:=opBuildSlice_goes hR hf0 (ofP_ret h)
    have hp:=evParts_conc ps.toList qs (fun p hp=>mem (x:=p.2) (by simp [Op.operands];exact ⟨p.1,by simpa using hp⟩)) hq
    have hp:PartsR μ qs ((ps.map fun (i,x)=>(i,ρ x)).toList):=by rw [Array.toList_map];exact hp
    have h1:=h1 (ps.map fun (i,x)=>(i,ρ x)) hp
    clear hp hq hR hr mem pure_ h
    exact h1.lands fun w=>rfl
  | convert t u x =>
    cases hm:cvM P t u with
    | false=>exact pure_ (by simp only [cls,hm])
    | true =>
      have h:opConvS P t u (ev tm x) s=.ret v s':=h
      unfold opConvS at h
      split at h
      · rename_i e ha hb
        obtain ⟨h1,rfl⟩:=ofO_ret h
        obtain ⟨y,hy,h1⟩:=opText_run hR ha hb h1
        obtain ⟨d,hd,hrun⟩:=h1 _ (mem (x:=x) (by simp [Op.operands]) y hy)
        exact ⟨μ,d,w,hd,Step.refl hR _,.inl (vrun hrun)⟩
      · rename_i e ha hb
        obtain ⟨y,hy,h1⟩:=opBytes_goes (P:=P) hR hf0 ha hb (ofP_ret h)
        exact (h1 _ (mem (x:=x) (by simp [Op.operands]) y hy)).lands fun w=>rfl
      · cases h
      · cases h
      · rename_i h1 h2 h3 h4
        exfalso
        unfold cvM at hm
        split at hm
        · rename_i e ha;first|exact h1 e ha|exact h2 e ha
        · rename_i e hb _;first|exact h1 e hb|exact h2 e hb
        · cases hm
  | load t a =>
    obtain ⟨h1,rfl⟩:=ofO_ret h
    obtain ⟨c,hc,hrun⟩:=load_lands hR (mem (x:=a) (by simp [Op.operands])) h1
    exact ⟨μ,c,w,hc,Step.refl hR _,.inl (vrun hrun)⟩
  | store t a x =>
    obtain ⟨h1,rfl⟩:=ofS_ret h
    obtain ⟨p,u,hp,hu,h1⟩:=opStore_goes hR h1
    obtain ⟨w',hrun,hst⟩:=h1 _ _ (mem (x:=a) (by simp [Op.operands]) p hp) (mem (x:=x) (by simp [Op.operands]) u hu)
    exact ⟨μ,undef,w',rfl,hst,.inr ⟨rfl,urun hrun⟩⟩
  | makeMap t r =>
    obtain ⟨rfl,h1⟩:=opMkMap_goes (P:=P) (t:=t) hR hf0 h
    exact h1.lands fun w=>rfl
  | makeSlice t l c =>
    obtain ⟨u,i,hu,hi,h1⟩:=opMakeSlice_goes hR hf0 (ofP_ret h)
    exact (h1 _ _ (mem (x:=l) (by simp [Op.operands]) u hu) (mem (x:=c) (by simp [Op.operands]) i hi)).lands fun w=>rfl
  | lookup t m k ok =>
    obtain ⟨h1,rfl⟩:=ofO_ret h
    obtain ⟨m',k',hm,hk,h1⟩:=opLookup_run hR h1
    obtain ⟨r,hr',hrun⟩:=h1 _ _ (mem (x:=m) (by simp [Op.operands]) m' hm) (mem (x:=k) (by simp [Op.operands]) k' hk)
    exact ⟨μ,r,w,hr',Step.refl hR _,.inl (vrun hrun)⟩
  | mapUpdate t m k x =>
    obtain ⟨h1,rfl⟩:=ofS_ret h
    obtain ⟨m',k',x',hm,hk,hx,h1⟩:=opMapUpdate_goes hR h1
    obtain ⟨w',hrun,hst⟩:=h1 _ _ _ (mem (x:=m) (by simp [Op.operands]) m' hm) (mem (x:=k) (by simp [Op.operands]) k' hk) (mem (x:=x) (by simp [Op.operands]) x' hx)
    exact ⟨μ,undef,w',rfl,hst,.inr ⟨rfl,urun hrun⟩⟩
  | call c =>
    obtain ⟨callee,args,ts⟩:=c
    cases callee with
    | value f=>cases hic
    | invoke r n =>
      have h:opCall P call ⟨.invoke r n,args,ts⟩ tm s=.ret v s':=h
      unfold opCall at h
      split at h
      · rename_i hcal _;cases hcal
      · rename_i hcal _;cases hcal
      · cases h
    | builtin b =>
      by_cases hcp:cls P (.call ⟨.builtin b,args,ts⟩)=.p
      · exact pure_ hcp
      have h:opCall P call ⟨.builtin b,args,ts⟩ tm s=.ret v s':=h
      unfold opCall at h
      split at h
      · rename_i hcal _;cases hcal
      · rename_i b' as hcal has
        have hcal:Callee.builtin b=Callee.builtin b':=hcal
        injection hcal with hcal;subst hcal
        have hargs:=evs_conc args.toList as (fun z hz=>mem (x:=z) (by simp [Op.operands,Call.operands];simpa using hz)) has
        have one:∀ {x:AV},concL μ [x]=some (args.toList.map ρ)→∃cx,conc μ x=some cx∧args.map ρ=#[cx]:=by
          intro x hargs
          simp only [concL,Option.bind_eq_some_iff,Option.map_eq_some_iff] at hargs
          obtain ⟨cx,hcx,l0,hl0,hl⟩:=hargs
          injection hl0 with hl0;subst hl0
          exact ⟨cx,hcx,by apply Array.toList_inj.mp;rw [Array.toList_map,←hl]⟩
        have two:∀ {x y:AV},concL μ [x,y]=some (args.toList.map ρ)→∃cx cy,conc μ x=some cx∧conc μ y=some cy∧args.map ρ=#[cx,cy]:=by
          intro x y hargs
          simp only [concL,Option.bind_eq_some_iff,Option.map_eq_some_iff] at hargs
          obtain ⟨cx,hcx,l0,⟨cy,hcy,l1,hl1,hl0⟩,hl⟩:=hargs
          injection hl1 with hl1;subst hl1;subst hl0
          exact ⟨cx,cy,hcx,hcy,by apply Array.toList_inj.mp;rw [Array.toList_map,←hl]⟩
        unfold opBuiltin at h
        split at h
        · rename_i x y
          obtain ⟨cx,cy,hcx,hcy,hmap⟩:=two hargs
          have:=opAppend_goes (ty:=ty) hR hf0 (ofP_ret h) hcx hcy
          exact this.lands fun w=>by simp [execOp,resolve,invoke,builtin,hmap]
        · rename_i x y
          obtain ⟨cx,cy,hcx,hcy,hmap⟩:=two hargs
          have:=opCopy_goes (ty:=ty) hR (ofP_ret h) hcx hcy
          exact this.lands fun w=>by simp [execOp,resolve,invoke,builtin,hmap]
        · rename_i x
          obtain ⟨h1,rfl⟩:=ofO_ret h
          obtain ⟨cx,hcx,hmap⟩:=one hargs
          obtain ⟨d,hd,hrun⟩:=opLen_run (ty:=ty) hR h1 hcx
          have hrun:(Builtin.len_ ts ty #[cx]).run P w=.ok d w:=by simpa using hrun
          exact ⟨μ,d,w,hd,Step.refl hR _,.inl (by simp [execOp,resolve,invoke,builtin,hmap,hrun])⟩
        · exact absurd rfl hcp
        · exact absurd rfl hcp
        · exact absurd rfl hcp
        · rename_i m k
          obtain ⟨h1,rfl⟩:=ofS_ret h
          obtain ⟨cx,cy,hcx,hcy,hmap⟩:=two hargs
          obtain ⟨w',hrun,hst⟩:=opDelete_goes (ty:=ty) hR h1 hcx hcy
          have hrun:(Builtin.delete_ ts ty #[cx,cy]).run P w=.ok (.tuple #[]) w':=by simpa using hrun
          exact ⟨μ,undef,w',rfl,hst,.inl (by simp [execOp,resolve,invoke,builtin,hmap,hrun,undef])⟩
        · rename_i m
          obtain ⟨h1,rfl⟩:=ofS_ret h
          obtain ⟨cx,hcx,hmap⟩:=one hargs
          obtain ⟨w',hrun,hst⟩:=opClear_goes (ty:=ty) hR h1 hcx
          have hrun:(Builtin.clear_ ts ty #[cx]).run P w=.ok (.tuple #[]) w':=by simpa using hrun
          exact ⟨μ,undef,w',rfl,hst,.inl (by simp [execOp,resolve,invoke,builtin,hmap,hrun,undef])⟩
        · cases h
      · cases h
  | panic x =>
    have h:opPanic (ev tm x) s=.ret v s':=h
    unfold opPanic at h
    split at h<;>cases h
  | _=>first|exact pure_ rfl|(cases h;done)
end Go.Proofs.YtoegffiapnnkiaaGreat.Abs
namespace Go.Proofs.YtoegffiapnnkiaaGreat.Abs
open Go
variable {P:Program} {B:Nat} {μ μ':K→Option Loc} {H H':Hp} {w w1:World}
structure TmR (n:Nat) (μ:K→Option Loc) (tm:Tm) (a:Act):Prop where
  size:a.tmps.size=n
  at_:∀t v,T.get tm (K.of t)=some v→∃c,conc μ v=some c∧a.tmps[t]?=some c
theorem TmR.mono {n:Nat} {tm:Tm} {a:Act} (h:TmR n μ tm a) (hm:MLe μ μ'):TmR n μ' tm a :=
  ⟨h.size,fun t v e=>let ⟨c,h1,h2⟩:=h.at_ t v e;⟨c,conc_mono hm v c h1,h2⟩⟩
theorem TmR.ev {n:Nat} {tm:Tm} {a:Act} (h:TmR n μ tm a) (x:Operand):EvR μ tm a.eval x:=fun u hu=>by
  cases x with
  | tmp t =>
    obtain ⟨c,h1,h2⟩:=h.at_ t u hu
    simp [Act.eval,Array.getD_eq_getD_getElem?,h2,h1]
  | const v=>exact conc_ofV μ v u hu
  | global g=>cases hu
  | func f =>
    injection (show some (AV.func f [] [])=some u from hu) with hu;subst hu
    rfl
theorem TmR.put {n:Nat} {tm tm':Tm} {a:Act} (h:TmR n μ tm a) {d:Option Tmp} {v:AV} {c:Value} (hc:conc μ v=some c) (hp:putK none n tm v (fun tm=>some tm) d=some tm'):TmR n μ tm' (a.put d c):=by
  cases d with
  | none =>
    injection (show some tm=some tm' from hp) with hp;subst hp
    exact h
  | some d =>
    have hp:@Bool.rec (fun _=>Option Tm) none (some (T.set tm (K.of d) v)) (Nat.ble (Nat.succ d) n)=some tm':=hp
    cases hb:Nat.ble (Nat.succ d) n with
    | false=>rw [hb] at hp;cases hp
    | true =>
      rw [hb] at hp
      injection hp with hp;subst hp
      have hlt:d<n:=Nat.le_of_ble_eq_true hb
      refine ⟨by simp [Act.put,h.size],fun t u hu=>?_⟩
      rw [T.get_set] at hu
      split at hu
      · rename_i e
        injection hu with hu;subst hu
        have:=K.of_inj e;subst this
        exact ⟨c,hc,by simp [Act.put,h.size,hlt]⟩
      · rename_i e
        obtain ⟨x,h1,h2⟩:=h.at_ t u hu
        refine ⟨x,h1,?_⟩
        have hne:¬d=t:=fun e'=>e (by rw [e'])
        simp [Act.put,hne,h2]
theorem put_defers (a:Act) (d:Option Tmp) (c:Value):(a.put d c).defers=a.defers:=by cases d<;>rfl
theorem conc_notBool {v:AV} {c:Value} (h:conc μ v=some c) (hv:∀b,v≠.bool b) (b:Bool):c≠.bool b:=by
  intro e;subst e
  cases v with
  | bool b'=>exact hv b' rfl
  | int k n=>have:=conc_int h;cases this
  | str s=>have:=conc_str h;cases this
  | ptr a=>cases a with
    | none=>have:=conc_ptr0 h;cases this
    | some p=>obtain ⟨l,-,e⟩:=conc_ptr (i:=p.1) (o:=p.2) h;cases e
  | slice a n k=>cases a with
    | none=>obtain ⟨_,m,e,-⟩:=conc_sliceN h;cases e
    | some p=>obtain ⟨l,-,-,e⟩:=conc_slice (i:=p.1) (o:=p.2) h;cases e
  | map r=>cases r with
    | none=>have:=conc_map0 h;cases this
    | some i=>obtain ⟨l,-,e⟩:=conc_map h;cases e
  | func f x y=>obtain ⟨x,y,-,-,e⟩:=conc_func h;cases e
  | nilFunc=>injection (show some Value.nilFunc=some _ from h) with h;cases h
  | iface t v=>obtain ⟨x,-,e⟩:=conc_iface h;cases e
  | nilIface=>injection (show some Value.nilIface=some _ from h) with h;cases h
  | agg l=>obtain ⟨x,-,e⟩:=conc_agg h;cases e
  | tup l=>obtain ⟨x,-,e⟩:=conc_tup h;cases e
theorem want_ok' {ops:Array Oper} {tm:Tm} {a:Act} {o:Oper} {b:Bool} (hT:∀j x p d,o.guard=some (j,x)→ops[j]?=some p→p.dst=some d→∀v,T.get tm (K.of d)=some v→∃c,conc μ v=some c∧a.tmps[d]?=some c) (h:wantA ops.toList tm o=some b):Region.wanted o (yielded ops a.tmps)=b:=by
  obtain ⟨dst,op,ty,pos,after,guard⟩:=o
  cases guard with
  | none=>cases (show some true=some b from h);rfl
  | some g =>
    obtain ⟨j,x⟩:=g
    have h:guardA ops.toList tm x j=some b:=h
    unfold guardA at h
    split at h
    · rename_i p hp
      rw [getL_eq,Array.getElem?_toList] at hp
      split at h
      · rename_i d hd
        split at h
        · rename_i c hc
          injection h with h;subst h
          obtain ⟨cv,h1,h2⟩:=hT j x p d rfl hp hd _ hc
          rw [conc_bool h1] at h2
          have hy:yielded ops a.tmps j=some c:=by simp [yielded,hp,hd,h2]
          simp only [Region.wanted,hy]
          cases c<;>cases x<;>rfl
        · rename_i v hv hc
          injection h with h;subst h
          obtain ⟨cv,h1,h2⟩:=hT j x p d rfl hp hd _ hc
          have hnb:=conc_notBool h1 (fun b e=>hv b (by rw [e]))
          have hy:yielded ops a.tmps j=none:=by
            simp only [yielded,hp,Option.bind_some,hd,h2]
            split
            · rename_i b e
              injection e with e
              exact absurd e (hnb b)
            · rfl
          simp only [Region.wanted,hy]
          rfl
        · cases h
      · cases h
    · cases h
theorem want_ok {ops:Array Oper} {tm:Tm} {n:Nat} {a:Act} (hT:TmR n μ tm a) {o:Oper} {b:Bool} (h:wantA ops.toList tm o=some b):Region.wanted o (yielded ops a.tmps)=b :=
  want_ok' (fun _ _ _ d _ _ _ v hv=>hT.at_ d v hv) h
structure CallS (P:Program) (call:Nat→List AV→St→CR):Prop where
  mono:∀f args s v s',(call f args s=.ret v s'∨call f args s=.pan v s')→s.nx.val≤s'.nx.val
  fn:∀f args s v s',(call f args s=.ret v s'∨call f args s=.pan v s')→∃fn,P.funcs[f]?=some fn∧fn.body.isSome=true
  ret:∀f args s v s',call f args s=.ret v s'→∀B μ w cargs,Rel B μ (T.get s.hp) w→Fresh μ s.nx s'.nx→concL μ args=some cargs →
    Calls P f cargs.toArray w fun e w'=>∃μ' c,Step B μ (T.get s.hp) s.nx w μ' (T.get s'.hp) s'.nx w'∧conc μ' v=some c∧e=.returned c
  pan:∀f args s v s',call f args s=.pan v s'→∀B μ w cargs,Rel B μ (T.get s.hp) w→Fresh μ s.nx s'.nx→concL μ args=some cargs →
    Calls P f cargs.toArray w fun e w'=>∃μ' c,Step B μ (T.get s.hp) s.nx w μ' (T.get s'.hp) s'.nx w'∧conc μ' v=some c∧e=.panicked [{ v:=c,recovered:=false }]
def NoNG (P:Program):Prop:=∀(f:FuncId) (fn:Func),P.funcs[f]?=some fn→fn.name ≠ "runtime.NumGoroutine"
theorem call_enter (hN:NoNG P) {ρ:Operand→Value} {dst:Option Tmp} {f:Operand} {args:Array Operand} {ts:Array TypeId} {ty:TypeId} {pos:String} {after:Array Edge} {guard:Option (Nat×Bool)} {g:FuncId} {F C:Array Value} (hf:ρ f=.func (.func g) F C) {fn:Func} (hfn:P.funcs[g]?=some fn) (hb:fn.body.isSome=true) (w:World) :
    (execOp ρ ⟨dst,.call ⟨.value f,args,ts⟩,ty,pos,after,guard⟩).run P w=.ok (.enter g (F++args.map ρ++C)) w:=by
  have hn:=hN g fn hfn
  obtain ⟨c,hc⟩:=Option.isSome_iff_exists.1 hb
  simp [execOp,resolve,Deferred.ofValue,hf,invoke,callFunc,hfn,hn,hc]
theorem concL_cat {l l':List AV} {F C:List Value} (h:concL μ l=some F) (h':concL μ l'=some C):concL μ (l++l')=some (F++C):=concL_append _ _ _ _ h h'
theorem opCall_inv {call:Nat→List AV→St→CR} {f:Operand} {args:Array Operand} {ts:Array TypeId} {tm:Tm} {s:St} {r:CR} (h:opCall P call ⟨.value f,args,ts⟩ tm s=r) (hr:r≠.no):∃g first caps as,ev tm f=some (.func g first caps)∧evs tm args.toList=some as∧call g (first++as++caps) s=r:=by
  unfold opCall at h
  split at h
  · rename_i f' as hcal has
    have hcal:Callee.value f=Callee.value f':=hcal
    injection hcal with hcal;subst hcal
    split at h
    · rename_i g first caps hg
      exact ⟨g,first,caps,as,hg,has,h⟩
    · exact absurd h.symm hr
  · rename_i hcal _;cases hcal
  · exact absurd h.symm hr
theorem isCall_inv {op:Op} (h:isCall op=true):∃f args ts,op=.call ⟨.value f,args,ts⟩:=by
  unfold isCall at h
  split at h
  · exact ⟨_,_,_,rfl⟩
  · cases h
theorem opQ_eq {o:Oper} (h:isApp o.op=false) (call:Nat→List AV→St→CR) (tm:Tm) (s:St):opQ o P call tm s=opA o.op P call tm s:=by
  unfold opQ keepO
  rw [h]
theorem isApp_cls {op:Op} (h:isApp op=true):cls P op=.m:=by
  unfold isApp at h
  split at h
  · rfl
  · cases h
theorem opQ_not {o:Oper} (h:cls P o.op≠.m) (call:Nat→List AV→St→CR) (tm:Tm) (s:St):opQ o P call tm s=opA o.op P call tm s:=opQ_eq (by
  cases hi:isApp o.op with
  | false=>rfl
  | true=>exact absurd (isApp_cls hi) h) call tm s
theorem opQ_cases (o:Oper) (call:Nat→List AV→St→CR) (tm:Tm) (s:St):opQ o P call tm s=opA o.op P call tm s∨∃args ts,o.op=.call ⟨.builtin .append,args,ts⟩∧opQ o P call tm s=(match evs tm args.toList with|some [x,y]=>ofP (opAppendK P ts.toList x y s)|_=>.no):=by
  cases hi:isApp o.op with
  | false=>exact .inl (opQ_eq hi call tm s)
  | true =>
    obtain ⟨dst,op,ty,pos,after,guard⟩:=o
    have hi:isApp op=true:=hi
    unfold isApp at hi
    split at hi
    · rename_i args ts _
      cases hk:keepPos pos with
      | false =>
        refine .inl ?_
        show @Bool.rec (fun _=>CR) _ _ (keepPos pos)=_
        rw [hk]
      | true =>
        refine .inr ⟨args,ts,rfl,?_⟩
        show @Bool.rec (fun _=>CR) _ _ (keepPos pos)=_
        rw [hk]
        rfl
    · cases hi
theorem opQ_lands (call:Nat→List AV→St→CR) {s s':St} (hR:Rel B μ (T.get s.hp) w) (hf:Fresh μ s.nx s'.nx) {tm:Tm} {ρ:Operand→Value} (o:Oper) (hic:isCall o.op=false) {v:AV} (h:opQ o P call tm s=.ret v s') (hr:OpsR μ tm ρ o.op) :
    Lands P B μ s w ρ o v s':=by
  rcases opQ_cases o call tm s with e|⟨args,ts,e1,e2⟩
  · rw [e] at h
    exact op_lands call hR hf o.dst o.op o.type o.pos o.after o.guard hic h hr
  · have hf0:K.succ s.nx=s'.nx→μ s.nx=none:=fun e=>hf _ (Nat.le_refl _) (by rw [←e,K.val_succ];omega)
    obtain ⟨dst,op,ty,pos,after,guard⟩:=o
    have e1:op=.call ⟨.builtin .append,args,ts⟩:=e1
    subst e1
    rw [e2] at h
    split at h
    · rename_i x y has
      have hargs:=evs_conc args.toList _ (fun z hz=>hr z (by simp [Op.operands,Call.operands];simpa using hz)) has
      simp only [concL,Option.bind_eq_some_iff,Option.map_eq_some_iff] at hargs
      obtain ⟨cx,hcx,l0,⟨cy,hcy,l1,hl1,hl0⟩,hl⟩:=hargs
      injection hl1 with hl1;subst hl1;subst hl0
      have hmap:args.map ρ=#[cx,cy]:=by apply Array.toList_inj.mp;rw [Array.toList_map,←hl]
      have:=opAppendK_goes (ty:=ty) hR hf0 (ofP_ret h) hcx hcy
      exact this.lands fun w=>by simp [execOp,resolve,invoke,builtin,hmap]
    · cases h
theorem opQ_pan {call:Nat→List AV→St→CR} {o:Oper} {tm:Tm} {s s':St} {v:AV} (h:opQ o P call tm s=.pan v s'):opA o.op P call tm s=.pan v s':=by
  rcases opQ_cases o call tm s with e|⟨args,ts,e1,e2⟩
  · rw [←e];exact h
  · rw [e2] at h
    split at h
    · exact (ofP_pan h).elim
    · cases h
theorem isCall_app {op:Op} (h:isCall op=true):isApp op=false:=by
  unfold isCall at h
  split at h
  · rfl
  · cases h
theorem op_wp (hN:NoNG P) {call:Nat→List AV→St→CR} (hC:CallS P call) {s s':St} (hR:Rel B μ (T.get s.hp) w) (hf:Fresh μ s.nx s'.nx) {tm:Tm} {a:Act} {o:Oper} {v:AV} (h:opQ o P call tm s=.ret v s') (hr:OpsR μ tm a.eval o.op) {k:Act→World→Prop} {Q:Exit→Act→World→Prop}
    (hk:∀μ' c w',conc μ' v=some c→Step B μ (T.get s.hp) s.nx w μ' (T.get s'.hp) s'.nx w'→k (a.put o.dst c) w'):o.wp P a w k Q:=by
  obtain ⟨dst,op,ty,pos,after,guard⟩:=o
  cases hic:isCall op with
  | false=>exact (opQ_lands (P:=P) call hR hf _ hic h hr).wp hk
  | true =>
    rw [opQ_eq (isCall_app hic)] at h
    obtain ⟨f,args,ts,rfl⟩:=isCall_inv hic
    obtain ⟨g,first,caps,as,hg,has,hcall⟩:=opCall_inv (show opCall P call ⟨.value f,args,ts⟩ tm s=.ret v s' from h) (fun e=>by cases e)
    obtain ⟨fn,hfn,hb⟩:=hC.fn _ _ _ _ _ (.inl hcall)
    have hfv:=hr f (by simp [Op.operands,Call.operands]) _ hg
    obtain ⟨F,C,hF,hCc,hfe⟩:=conc_func hfv
    have hargs:=evs_conc args.toList as (fun z hz=>hr z (by simp [Op.operands,Call.operands];exact .inr (by simpa using hz))) has
    have hcc:=concL_cat (concL_cat hF hargs) hCc
    have he:=call_enter hN (dst:=dst) (args:=args) (ts:=ts) (ty:=ty) (pos:=pos) (after:=after) (guard:=guard) hfe hfn hb w
    unfold Oper.wp
    rw [he,Oper.upon_enter]
    have harr:(F++args.toList.map a.eval++C).toArray=F.toArray++args.map a.eval++C.toArray:=by
      apply Array.toList_inj.mp;simp
    rw [←harr]
    refine (hC.ret _ _ _ _ _ hcall B μ w _ hR hf hcc).mono fun e w' hh=>?_
    obtain ⟨μ',c,h1,h2,rfl⟩:=hh
    exact hk μ' c w' h2 h1
theorem op_wp_pan (hN:NoNG P) {call:Nat→List AV→St→CR} (hC:CallS P call) {s s':St} (hR:Rel B μ (T.get s.hp) w) (hf:Fresh μ s.nx s'.nx) {tm:Tm} {a:Act} {o:Oper} {v:AV} (h:opQ o P call tm s=.pan v s') (hr:OpsR μ tm a.eval o.op) {k:Act→World→Prop} {Q:Exit→Act→World→Prop}
    (hk:∀μ' c w',conc μ' v=some c→Step B μ (T.get s.hp) s.nx w μ' (T.get s'.hp) s'.nx w'→Q (.panic [{ v:=c,recovered:=false }]) a w'):o.wp P a w k Q:=by
  have h:=opQ_pan h
  obtain ⟨dst,op,ty,pos,after,guard⟩:=o
  cases op with
  | panic x =>
    have h:opPanic (ev tm x) s=.pan v s':=h
    unfold opPanic at h
    split at h
    · rename_i t y hx
      injection h with h1 h2;subst h1;subst h2
      have hc:=hr x (by simp [Op.operands]) _ hx
      obtain ⟨z,hz,he⟩:=conc_iface hc
      have:=hk μ _ w hc (Step.refl hR _)
      unfold Oper.wp
      have hrun:(execOp a.eval ⟨dst,.panic x,ty,pos,after,guard⟩).run P w=.halt (.panic (a.eval x)) w:=by
        simp [execOp,Instr.panic,he]
      rw [hrun]
      exact this
    · cases h
  | call c =>
    obtain ⟨callee,args,ts⟩:=c
    cases callee with
    | value f =>
      obtain ⟨g,first,caps,as,hg,has,hcall⟩:=opCall_inv (show opCall P call ⟨.value f,args,ts⟩ tm s=.pan v s' from h) (fun e=>by cases e)
      obtain ⟨fn,hfn,hb⟩:=hC.fn _ _ _ _ _ (.inr hcall)
      have hfv:=hr f (by simp [Op.operands,Call.operands]) _ hg
      obtain ⟨F,C,hF,hCc,hfe⟩:=conc_func hfv
      have hargs:=evs_conc args.toList as (fun z hz=>hr z (by simp [Op.operands,Call.operands];exact .inr (by simpa using hz))) has
      have hcc:=concL_cat (concL_cat hF hargs) hCc
      have he:=call_enter hN (dst:=dst) (args:=args) (ts:=ts) (ty:=ty) (pos:=pos) (after:=after) (guard:=guard) hfe hfn hb w
      unfold Oper.wp
      rw [he,Oper.upon_enter]
      have harr:(F++args.toList.map a.eval++C).toArray=F.toArray++args.map a.eval++C.toArray:=by
        apply Array.toList_inj.mp;simp
      rw [←harr]
      refine (hC.pan _ _ _ _ _ hcall B μ w _ hR hf hcc).mono fun e w' hh=>?_
      obtain ⟨μ',c,h1,h2,rfl⟩:=hh
      exact hk μ' c w' h2 h1
    | invoke r n =>
      have h:opCall P call ⟨.invoke r n,args,ts⟩ tm s=.pan v s':=h
      unfold opCall at h
      split at h
      · rename_i hcal _;cases hcal
      · rename_i hcal _;cases hcal
      · cases h
    | builtin b =>
      have h:opCall P call ⟨.builtin b,args,ts⟩ tm s=.pan v s':=h
      unfold opCall at h
      split at h
      · rename_i hcal _;cases hcal
      · unfold opBuiltin at h
        split at h<;>first|exact (ofP_pan h).elim|exact (ofO_pan h).elim|exact (ofS_pan h).elim|cases h
      · cases h
  | makeMap t r=>cases r<;>cases h
  | convert t u x =>
    have h:opConvS P t u (ev tm x) s=.pan v s':=h
    unfold opConvS at h
    split at h<;>first|exact (ofO_pan h).elim|exact (ofP_pan h).elim|cases h
  | _=>first|exact (ofO_pan h).elim|exact (ofP_pan h).elim|exact (ofS_pan h).elim|(cases h;done)
theorem stepK_eq {ρ:Type} (no:ρ) (pan:AV→St→ρ) (k:Tm→St→ρ) (call:Nat→List AV→St→CR) (ops:List Oper) (n:Nat) (o:Oper) (tm:Tm) (s:St) :
    stepK no pan k P call ops n o tm s=match stepO P call ops n o tm s with|.go tm s=>k tm s|.pan v s=>pan v s|.no=>no:=by
  have put:∀(v:AV) (s:St),putK no n tm v (fun tm=>k tm s) o.dst=match putK SO.no n tm v (fun tm=>SO.go tm s) o.dst with|.go tm s=>k tm s|.pan v s=>pan v s|.no=>no:=by
    intro v s
    cases o.dst with
    | none=>rfl
    | some d =>
      show @Bool.rec (fun _=>ρ) no (k (T.set tm (K.of d) v) s) (Nat.ble (Nat.succ d) n)=match @Bool.rec (fun _=>SO) SO.no (SO.go (T.set tm (K.of d) v) s) (Nat.ble (Nat.succ d) n) with|.go tm s=>k tm s|.pan v s=>pan v s|.no=>no
      cases Nat.ble (Nat.succ d) n<;>rfl
  unfold stepO stepK
  cases wantA ops tm o with
  | none=>rfl
  | some b=>cases b with
    | false=>exact put _ _
    | true =>
      cases opQ o P call tm s with
      | ret v s'=>exact put _ _
      | pan v s'=>rfl
      | no=>rfl
theorem putK_go {n:Nat} {tm tm':Tm} {v:AV} {s s':St} {d:Option Tmp} (h:putK SO.no n tm v (fun tm=>SO.go tm s) d=.go tm' s'):putK none n tm v (fun tm=>some tm) d=some tm'∧s'=s:=by
  cases d with
  | none=>injection (show SO.go tm s=.go tm' s' from h) with h1 h2;subst h1;exact ⟨rfl,h2.symm⟩
  | some d =>
    have h:@Bool.rec (fun _=>SO) SO.no (SO.go (T.set tm (K.of d) v) s) (Nat.ble (Nat.succ d) n)=.go tm' s':=h
    show @Bool.rec (fun _=>Option Tm) none (some (T.set tm (K.of d) v)) (Nat.ble (Nat.succ d) n)=some tm'∧s'=s
    cases hb:Nat.ble (Nat.succ d) n with
    | false=>rw [hb] at h;cases h
    | true=>rw [hb] at h;injection h with h1 h2;exact ⟨by rw [←h1],h2.symm⟩
theorem putK_pan {n:Nat} {tm:Tm} {v u:AV} {s s':St} {d:Option Tmp} (h:putK SO.no n tm v (fun tm=>SO.go tm s) d=.pan u s'):False:=by
  cases d with
  | none=>cases h
  | some d =>
    have h:@Bool.rec (fun _=>SO) SO.no (SO.go (T.set tm (K.of d) v) s) (Nat.ble (Nat.succ d) n)=.pan u s':=h
    cases hb:Nat.ble (Nat.succ d) n<;>rw [hb] at h<;>cases h
theorem stepO_go {call:Nat→List AV→St→CR} {ops:List Oper} {n:Nat} {o:Oper} {tm tm':Tm} {s s':St} (h:stepO P call ops n o tm s=.go tm' s') :
    (wantA ops tm o=some false∧putK none n tm (.tup []) (fun tm=>some tm) o.dst=some tm'∧s'=s)∨(wantA ops tm o=some true∧∃v,opQ o P call tm s=.ret v s'∧putK none n tm v (fun tm=>some tm) o.dst=some tm'):=by
  unfold stepO stepK at h
  cases hw:wantA ops tm o with
  | none=>rw [hw] at h;cases h
  | some b =>
    rw [hw] at h
    cases b with
    | false =>
      obtain ⟨h1,h2⟩:=putK_go (show putK SO.no n tm (.tup []) (fun tm=>SO.go tm s) o.dst=.go tm' s' from h)
      exact .inl ⟨rfl,h1,h2⟩
    | true =>
      have h:@CR.rec (fun _=>SO) (fun v s=>putK SO.no n tm v (fun tm=>SO.go tm s) o.dst) SO.pan SO.no (opQ o P call tm s)=.go tm' s':=h
      cases ho:opQ o P call tm s with
      | ret v s2 =>
        rw [ho] at h
        obtain ⟨h1,h2⟩:=putK_go (show putK SO.no n tm v (fun tm=>SO.go tm s2) o.dst=.go tm' s' from h)
        subst h2
        exact .inr ⟨rfl,v,rfl,h1⟩
      | pan v s2=>rw [ho] at h;cases h
      | no=>rw [ho] at h;cases h
theorem stepO_pan {call:Nat→List AV→St→CR} {ops:List Oper} {n:Nat} {o:Oper} {tm:Tm} {s s':St} {v:AV} (h:stepO P call ops n o tm s=.pan v s') :
    wantA ops tm o=some true∧opQ o P call tm s=.pan v s':=by
  unfold stepO stepK at h
  cases hw:wantA ops tm o with
  | none=>rw [hw] at h;cases h
  | some b =>
    rw [hw] at h
    cases b with
    | false=>exact (putK_pan (show putK SO.no n tm (.tup []) (fun tm=>SO.go tm s) o.dst=.pan v s' from h)).elim
    | true =>
      have h:@CR.rec (fun _=>SO) (fun v s=>putK SO.no n tm v (fun tm=>SO.go tm s) o.dst) SO.pan SO.no (opQ o P call tm s)=.pan v s':=h
      cases ho:opQ o P call tm s with
      | ret u s2=>rw [ho] at h;exact (putK_pan (show putK SO.no n tm u (fun tm=>SO.go tm s2) o.dst=.pan v s' from h)).elim
      | pan u s2=>rw [ho] at h;injection h with h1 h2;subst h1;subst h2;exact ⟨rfl,rfl⟩
      | no=>rw [ho] at h;cases h
theorem step_wp (hN:NoNG P) {call:Nat→List AV→St→CR} (hC:CallS P call) {ops:Array Oper} {i n:Nat} {o:Oper} (ho:ops[i]?=some o) {s s':St} (hR:Rel B μ (T.get s.hp) w) (hf:Fresh μ s.nx s'.nx) {tm tm':Tm} {a:Act} (hT:TmR n μ tm a) (h:stepO P call ops.toList n o tm s=.go tm' s')
    {k:Act→World→Prop} {Q:Exit→Act→World→Prop} (hk:∀μ' a' w',a'.defers=a.defers→Step B μ (T.get s.hp) s.nx w μ' (T.get s'.hp) s'.nx w'→TmR n μ' tm' a'→k a' w'):wpOp P ops Q i k a w:=by
  unfold wpOp
  rw [ho]
  simp only []
  rcases stepO_go h with ⟨hw,hp,rfl⟩|⟨hw,v,hv,hp⟩
  · rw [want_ok hT hw]
    simp only [Bool.false_eq_true,if_false]
    exact hk μ _ w (put_defers _ _ _) (Step.refl hR _) (hT.put conc_undef hp)
  · rw [want_ok hT hw]
    simp only [if_true]
    refine .inl (op_wp hN hC hR hf hv (fun x _=>hT.ev x) fun μ' c w' hc hst=>?_)
    exact hk μ' _ w' (put_defers _ _ _) hst ((hT.mono hst.ext).put hc hp)
theorem step_wp_pan (hN:NoNG P) {call:Nat→List AV→St→CR} (hC:CallS P call) {ops:Array Oper} {i n:Nat} {o:Oper} (ho:ops[i]?=some o) {s s':St} (hR:Rel B μ (T.get s.hp) w) (hf:Fresh μ s.nx s'.nx) {tm:Tm} {a:Act} (hT:TmR n μ tm a) {v:AV} (h:stepO P call ops.toList n o tm s=.pan v s')
    {k:Act→World→Prop} {Q:Exit→Act→World→Prop} (hk:∀μ' c w',conc μ' v=some c→Step B μ (T.get s.hp) s.nx w μ' (T.get s'.hp) s'.nx w'→Q (.panic [{ v:=c,recovered:=false }]) a w'):wpOp P ops Q i k a w:=by
  unfold wpOp
  rw [ho]
  simp only []
  obtain ⟨hw,hv⟩:=stepO_pan h
  rw [want_ok hT hw]
  simp only [if_true]
  exact .inl (op_wp_pan hN hC hR hf hv (fun x _=>hT.ev x) hk)
def ExR (μ:K→Option Loc) (e:Ex) (x:Exit):Prop:=match e,x with
  | .nrm,.normal=>True
  | .exit i,.exit j=>i=j
  | .goto i,.goto j=>i=j
  | .ret,.ret=>True
  | .pan v,.panic ch=>∃c,conc μ v=some c∧ch=[{ v:=c,recovered:=false }]
  | _,_=>False
def isPan:Ex→Bool
  | .pan _=>true
  | _=>false
def Post (B:Nat) (μ:K→Option Loc) (s:St) (w:World) (n:Nat) (ds:List Deferred) (e:Ex) (tm':Tm) (s':St) (x:Exit) (a':Act) (w':World):Prop :=
  ∃μ',Step B μ (T.get s.hp) s.nx w μ' (T.get s'.hp) s'.nx w'∧ExR μ' e x∧a'.defers=ds∧(isPan e=false→TmR n μ' tm' a')
theorem Post.trans {s s1 s2:St} {n:Nat} {ds:List Deferred} {e:Ex} {tm:Tm} {x:Exit} {a:Act} {w2:World} (h:Step B μ (T.get s.hp) s.nx w μ' (T.get s1.hp) s1.nx w1) (k:Post B μ' s1 w1 n ds e tm s2 x a w2):Post B μ s w n ds e tm s2 x a w2:=by
  obtain ⟨μ'',h1,h2⟩:=k
  exact ⟨μ'',h.trans h1,h2⟩
theorem runOps_nil (call:Nat→List AV→St→CR) (ops:List Oper) (n:Nat) (tm:Tm) (s:St):runOps P call ops n [] tm s=.ok .nrm tm s:=rfl
theorem runOps_cons (call:Nat→List AV→St→CR) (ops:List Oper) (n:Nat) (o:Oper) (l:List Oper) (tm:Tm) (s:St):runOps P call ops n (o::l) tm s=match stepO P call ops n o tm s with|.go tm' s'=>runOps P call ops n l tm' s'|.pan v s'=>.ok (.pan v) tm s'|.no=>.no:=stepK_eq _ _ _ _ _ _ _ _ _
theorem nx_of {s s':St} (h:s'.nx=s.nx∨s'.nx=K.succ s.nx):s.nx.val≤s'.nx.val:=by
  rcases h with h|h<;>rw [h]
  · exact Nat.le_refl _
  · rw [K.val_succ];omega
theorem opStore_nx {t:TypeId} {a x:Option AV} {s s':St} (h:opStore P t a x s=some s'):s'.nx=s.nx∨s'.nx=K.succ s.nx:=by
  unfold opStore at h
  (repeat' split at h)<;>first|(cases h;done)|(cases h;exact .inl rfl)
theorem opAlloc_nx {t:TypeId} {s s':St} {v:AV} (h:opAlloc P t s=some (v,s')):s'.nx=s.nx∨s'.nx=K.succ s.nx:=by
  unfold opAlloc at h
  (repeat' split at h)<;>first|(cases h;done)|(cases h;exact .inr rfl)
theorem opBox_nx {t:TypeId} {x:Option AV} {s s':St} {v:AV} (h:opBox t x s=some (v,s')):s'.nx=s.nx∨s'.nx=K.succ s.nx:=by
  unfold opBox at h
  (repeat' split at h)<;>first|(cases h;done)|(cases h;exact .inr rfl)
theorem opBuildSlice_nx {t:TypeId} {n:Nat} {ps:Option (List (Nat×AV))} {s s':St} {v:AV} (h:opBuildSlice P t n ps s=some (v,s')):s'.nx=s.nx∨s'.nx=K.succ s.nx:=by
  unfold opBuildSlice at h
  (repeat' split at h)<;>first|(cases h;done)|(cases h;exact .inr rfl)
theorem opMakeSlice_nx {t:TypeId} {l c:Option AV} {s s':St} {v:AV} (h:opMakeSlice P t l c s=some (v,s')):s'.nx=s.nx∨s'.nx=K.succ s.nx:=by
  unfold opMakeSlice at h
  (repeat' split at h)<;>first|(cases h;done)|(cases h;exact .inr rfl)
theorem opAppend_nx {ts:List TypeId} {a x:AV} {s s':St} {v:AV} (h:opAppend P ts a x s=some (v,s')):s'.nx=s.nx∨s'.nx=K.succ s.nx:=by
  unfold opAppend at h
  (repeat' split at h)<;>first|(cases h;done)|(cases h;exact .inl rfl)|(cases h;exact .inr rfl)
theorem opCopy_nx {ts:List TypeId} {a x:AV} {s s':St} {v:AV} (h:opCopy P ts a x s=some (v,s')):s'.nx=s.nx∨s'.nx=K.succ s.nx:=by
  unfold opCopy at h
  (repeat' split at h)<;>first|(cases h;done)|(cases h;exact .inl rfl)
theorem opBytes_nx {e:TypeId} {x:Option AV} {s s':St} {v:AV} (h:opBytes P e x s=some (v,s')):s'.nx=s.nx∨s'.nx=K.succ s.nx:=by
  unfold opBytes at h
  (repeat' split at h)<;>first|(cases h;done)|(cases h;exact .inr rfl)
theorem opMapUpdate_nx {t:TypeId} {m k x:Option AV} {s s':St} (h:opMapUpdate P t m k x s=some s'):s'.nx=s.nx∨s'.nx=K.succ s.nx:=by
  unfold opMapUpdate at h
  (repeat' split at h)<;>first|(cases h;done)|(cases h;exact .inl rfl)
theorem opDelete_nx {ts:List TypeId} {m k:AV} {s s':St} (h:opDelete P ts m k s=some s'):s'.nx=s.nx∨s'.nx=K.succ s.nx:=by
  unfold opDelete at h
  (repeat' split at h)<;>first|(cases h;done)|(cases h;exact .inl rfl)
theorem opClear_nx {ts:List TypeId} {m:AV} {s s':St} (h:opClear P ts m s=some s'):s'.nx=s.nx∨s'.nx=K.succ s.nx:=by
  unfold opClear at h
  (repeat' split at h)<;>first|(cases h;done)|(cases h;exact .inl rfl)
theorem opA_mono {call:Nat→List AV→St→CR} (hC:CallS P call) {op:Op} {tm:Tm} {s s':St} {v:AV} (h:opA op P call tm s=.ret v s'∨opA op P call tm s=.pan v s'):s.nx.val≤s'.nx.val:=by
  have keep:∀ {x:Option AV},(ofO x s=.ret v s'∨ofO x s=.pan v s')→s.nx.val≤s'.nx.val:=fun h=>by
    rcases h with h|h
    · rw [(ofO_ret h).2];exact Nat.le_refl _
    · exact (ofO_pan h).elim
  have pair:∀ {x:Option (AV×St)},(∀v s',x=some (v,s')→s'.nx=s.nx∨s'.nx=K.succ s.nx)→(ofP x=.ret v s'∨ofP x=.pan v s')→s.nx.val≤s'.nx.val:=fun hx h=>by
    rcases h with h|h
    · exact nx_of (hx _ _ (ofP_ret h))
    · exact (ofP_pan h).elim
  have unit:∀ {x:Option St},(∀s',x=some s'→s'.nx=s.nx∨s'.nx=K.succ s.nx)→(ofS x=.ret v s'∨ofS x=.pan v s')→s.nx.val≤s'.nx.val:=fun hx h=>by
    rcases h with h|h
    · exact nx_of (hx _ (ofS_ret h).1)
    · exact (ofS_pan h).elim
  cases op with
  | alloc t=>exact pair (fun _ _=>opAlloc_nx) h
  | box t x=>exact pair (fun _ _=>opBox_nx) h
  | buildSlice t n ps=>exact pair (fun _ _=>opBuildSlice_nx) h
  | makeSlice t l c=>exact pair (fun _ _=>opMakeSlice_nx) h
  | store t a x=>exact unit (fun _=>opStore_nx) h
  | mapUpdate t m k x=>exact unit (fun _=>opMapUpdate_nx) h
  | makeMap t r =>
    cases r with
    | none =>
      rcases h with h|h
      · injection (show CR.ret _ _=CR.ret v s' from h) with h1 h2;rw [←h2];show s.nx.val≤(K.succ s.nx).val;rw [K.val_succ];omega
      · cases h
    | some r=>rcases h with h|h<;>cases h
  | panic x =>
    have h:opPanic (ev tm x) s=.ret v s'∨opPanic (ev tm x) s=.pan v s':=h
    unfold opPanic at h
    split at h
    · rcases h with h|h
      · cases h
      · injection h with h1 h2;rw [h2];exact Nat.le_refl _
    · rcases h with h|h<;>cases h
  | convert t u x =>
    have h:opConvS P t u (ev tm x) s=.ret v s'∨opConvS P t u (ev tm x) s=.pan v s':=h
    unfold opConvS at h
    split at h
    · exact keep h
    · exact pair (fun _ _=>opBytes_nx) h
    · rcases h with h|h<;>cases h
    · rcases h with h|h<;>cases h
    · exact keep h
  | call c =>
    have h:opCall P call c tm s=.ret v s'∨opCall P call c tm s=.pan v s':=h
    unfold opCall at h
    split at h
    · split at h
      · exact hC.mono _ _ _ _ _ h
      · rcases h with h|h<;>cases h
    · unfold opBuiltin at h
      split at h
      · exact pair (fun _ _=>opAppend_nx) h
      · exact pair (fun _ _=>opCopy_nx) h
      · exact keep h
      · exact keep h
      · exact keep h
      · exact keep h
      · exact unit (fun _=>opDelete_nx) h
      · exact unit (fun _=>opClear_nx) h
      · rcases h with h|h<;>cases h
    · rcases h with h|h<;>cases h
  | _=>first|exact keep h|(rcases h with h|h<;>cases h)
theorem opAppendK_nx {ts:List TypeId} {a x:AV} {s s':St} {v:AV} (h:opAppendK P ts a x s=some (v,s')):s'.nx=s.nx∨s'.nx=K.succ s.nx:=by
  unfold opAppendK at h
  split at h
  case h_2=>exact opAppend_nx h
  (repeat' split at h)<;>first|(cases h;done)|(cases h;exact .inl rfl)|(cases h;exact .inr rfl)
theorem opQ_mono {call:Nat→List AV→St→CR} (hC:CallS P call) {o:Oper} {tm:Tm} {s s':St} {v:AV} (h:opQ o P call tm s=.ret v s'∨opQ o P call tm s=.pan v s'):s.nx.val≤s'.nx.val:=by
  rcases opQ_cases o call tm s with e|⟨args,ts,e1,e2⟩
  · rw [e] at h;exact opA_mono hC h
  · rcases h with h|h
    · rw [e2] at h
      split at h
      · exact nx_of (opAppendK_nx (ofP_ret h))
      · cases h
    · exact opA_mono hC (.inr (opQ_pan h))
theorem stepO_mono {call:Nat→List AV→St→CR} (hC:CallS P call) {ops:List Oper} {n:Nat} {o:Oper} {tm tm':Tm} {s s':St} {v:AV} (h:stepO P call ops n o tm s=.go tm' s'∨stepO P call ops n o tm s=.pan v s'):s.nx.val≤s'.nx.val:=by
  rcases h with h|h
  · rcases stepO_go h with ⟨-,-,rfl⟩|⟨-,u,hu,-⟩
    · exact Nat.le_refl _
    · exact opQ_mono hC (.inl hu)
  · exact opQ_mono hC (.inr (stepO_pan h).2)
theorem runOps_mono {call:Nat→List AV→St→CR} (hC:CallS P call) {ops:List Oper} {n:Nat}:∀(l:List Oper) (s s':St) (tm tm':Tm) (e:Ex),runOps P call ops n l tm s=.ok e tm' s'→s.nx.val≤s'.nx.val
  | [],s,s',tm,tm',e,h=>by
    rw [runOps_nil] at h
    injection h with h1 h2 h3;rw [h3];exact Nat.le_refl _
  | o::l,s,s',tm,tm',e,h=>by
    rw [runOps_cons] at h
    cases hst:stepO P call ops n o tm s with
    | go tm1 s1 =>
      rw [hst] at h
      exact Nat.le_trans (stepO_mono (v:=.nilFunc) hC (.inl hst)) (runOps_mono hC l s1 s' tm1 tm' e h)
    | pan v s1 =>
      rw [hst] at h
      injection h with h1 h2 h3;rw [←h3]
      exact stepO_mono (tm':=tm) hC (.inr hst)
    | no=>rw [hst] at h;cases h
theorem runOps_wp (hN:NoNG P) {call:Nat→List AV→St→CR} (hC:CallS P call) {ops:Array Oper} {n:Nat} {Q:Exit→Act→World→Prop}:∀(l:List Oper) (i:Nat) (s s':St) (tm tm':Tm) (e:Ex) (a:Act) (w:World) (μ:K→Option Loc),ops.toList.drop i=l→runOps P call ops.toList n l tm s=.ok e tm' s' →
    Rel B μ (T.get s.hp) w→Fresh μ s.nx s'.nx→TmR n μ tm a→(∀x a' w',Post B μ s w n a.defers e tm' s' x a' w'→Q x a' w')→wpOps P ops Q (List.range' i l.length) a w
  | [],i,s,s',tm,tm',e,a,w,μ,hl,h,hR,hf,hT,hQ=>by
    rw [runOps_nil] at h
    injection h with h1 h2 h3;subst h1;subst h2;subst h3
    exact hQ _ _ _ ⟨μ,Step.refl hR _,trivial,rfl,fun _=>hT⟩
  | o::l,i,s,s',tm,tm',e,a,w,μ,hl,h,hR,hf,hT,hQ=>by
    have ho:ops[i]?=some o:=by
      have:(ops.toList.drop i)[0]?=some o:=by rw [hl];rfl
      rw [List.getElem?_drop] at this
      simpa using this
    have hl':ops.toList.drop (i+1)=l:=by rw [←List.drop_drop,hl];rfl
    rw [runOps_cons] at h
    rw [List.length_cons,List.range'_succ,wpOps_cons]
    cases hst:stepO P call ops.toList n o tm s with
    | go tm1 s1 =>
      rw [hst] at h
      have hm:=runOps_mono hC l s1 s' tm1 tm' e h
      refine step_wp hN hC ho hR (hf.left hm) hT hst fun μ' a' w' hd hstep hT'=>?_
      refine runOps_wp hN hC l (i+1) s1 s' tm1 tm' e a' w' μ' hl' h hstep.rel (hf.right hstep) hT' fun x a2 w2 hp=>?_
      rw [hd] at hp
      exact hQ x a2 w2 (hp.trans hstep)
    | pan v s1 =>
      rw [hst] at h
      injection h with h1 h2 h3;subst h1;subst h2;subst h3
      exact step_wp_pan hN hC ho hR hf hT hst fun μ' c w' hc hstep=>hQ _ _ _ ⟨μ',hstep,⟨c,hc,rfl⟩,rfl,fun h=>by cases h⟩
    | no=>rw [hst] at h;cases h
end Go.Proofs.YtoegffiapnnkiaaGreat.Abs
namespace Go.Proofs.YtoegffiapnnkiaaGreat.Abs
open Go
variable {P:Program} {B:Nat} {μ μ':K→Option Loc} {H H':Hp} {w w1:World}
theorem orL_get:∀(a b:List Bool) (i:Nat),(orL a b)[i]?=some true→a[i]?=some true∨b[i]?=some true
  | [],l,i,h=>.inr (by simpa [orL] using h)
  | a::l,[],i,h=>.inl (by simpa [orL] using h)
  | a::l,b::m,0,h=>by
    simp only [orL,List.getElem?_cons_zero,Option.some.injEq,Bool.or_eq_true] at h
    simpa using h
  | a::l,b::m,i+1,h=>by
    simp only [orL,List.getElem?_cons_succ] at h ⊢
    exact orL_get l m i h
theorem oneAt_get:∀(n i:Nat),(oneAt n)[i]?=some true→i=n
  | 0,0,_=>rfl
  | 0,i+1,h=>by simp [oneAt] at h
  | n+1,0,h=>by simp [oneAt] at h
  | n+1,i+1,h=>by
    simp only [oneAt,List.getElem?_cons_succ] at h
    rw [oneAt_get n i h]
theorem waitsFor_get (rows:List (List Bool)) (j:Nat):∀(es:List Edge) (r:List Bool) (i:Nat),waitsFor rows j es=some r→r[i]?=some true→∃e∈es,Region.binds .any e=true∧e.on<j∧(e.on=i∨∃r',rows[e.on]?=some r'∧r'[i]?=some true)
  | [],r,i,h,hi=>by
    injection (show some []=some r from h) with h;subst h;simp at hi
  | e::es,r,i,h,hi=>by
    simp only [waitsFor] at h
    split at h
    · rename_i l hl
      split at h
      · rename_i hb
        split at h
        · rename_i hlt
          split at h
          · rename_i r' hr'
            injection h with h;subst h
            rw [getL_eq] at hr'
            rcases orL_get _ _ _ hi with h|h
            · rcases orL_get _ _ _ h with h|h
              · exact ⟨e,by simp,hb,hlt,.inl (oneAt_get _ _ h).symm⟩
              · exact ⟨e,by simp,hb,hlt,.inr ⟨r',hr',h⟩⟩
            · obtain ⟨e',h1,h2⟩:=waitsFor_get rows j es l i hl h
              exact ⟨e',by simp [h1],h2⟩
          · cases h
        · cases h
      · injection h with h;subst h
        obtain ⟨e',h1,h2⟩:=waitsFor_get rows j es l i hl hi
        exact ⟨e',by simp [h1],h2⟩
    · cases h
theorem rowsOf_get:∀(os:List Oper) (rows:List (List Bool)) (i:Nat) (out:List (List Bool)),rowsOf rows i os=some out→rows.length=i→(∀k,k<i→out[k]?=rows[k]?)∧∀k o,os[k]?=some o→∃r,out[i+k]?=some r∧waitsFor out (i+k) o.after.toList=some r
  | [],rows,i,out,h,hl=>by
    injection (show some rows=some out from h) with h;subst h
    exact ⟨fun _ _=>rfl,fun k o hk=>by simp at hk⟩
  | o::os,rows,i,out,h,hl=>by
    simp only [rowsOf] at h
    split at h
    · rename_i r hr
      obtain ⟨h1,h2⟩:=rowsOf_get os (rows++[r]) (i+1) out h (by simp [hl])
      have hi:out[i]?=some r:=by rw [h1 i (by omega),List.getElem?_append_right (by omega)];simp [hl]
      have hlow:∀k,k<i→out[k]?=rows[k]?:=fun k hk=>by rw [h1 k (by omega),List.getElem?_append_left (by omega)]
      refine ⟨hlow,fun k o' hk=>?_⟩
      cases k with
      | zero =>
        simp only [List.getElem?_cons_zero,Option.some.injEq] at hk;subst hk
        refine ⟨r,hi,?_⟩
        rw [←hr]
        have:∀es:List Edge,waitsFor out i es=waitsFor rows i es:=by
          intro es
          induction es with
          | nil=>rfl
          | cons e es ih =>
            simp only [waitsFor,ih]
            by_cases hlt:e.on<i
            · rw [getL_eq,getL_eq,hlow _ hlt]
            · simp only [if_neg hlt]
        exact this _
      | succ k =>
        simp only [List.getElem?_cons_succ] at hk
        have:=h2 k o' hk
        rw [show i+1+k=i+(k+1) by omega] at this
        exact this
    · cases h
def Closed (ops:Array Oper) (listed:Array Bool):Prop:=∀j o,ops[j]?=some o→listed.getD j false=true→∀e∈o.after,Region.binds .any e=true→listed.getD e.on false=true
theorem waits_rows {rows:List (List Bool)} {j i:Nat} (h:waits rows j i=true):∃r,rows[j]?=some r∧r[i]?=some true:=by
  unfold waits at h
  split at h
  · rename_i r hr
    split at h
    · rename_i b hb
      rw [getL_eq] at hr hb
      subst h
      exact ⟨r,hr,hb⟩
    · cases h
  · cases h
theorem waits_listed {ops:Array Oper} {rows:List (List Bool)} (hrows:rowsOf [] 0 ops.toList=some rows) {listed:Array Bool} (hc:Closed ops listed):∀(j i:Nat) (o:Oper),ops[j]?=some o→waits rows j i=true→(∀e∈o.after,Region.binds .any e=true→listed.getD e.on false=true)→listed.getD i false=true:=by
  intro j
  induction j using Nat.strongRecOn with
  | _ j ih =>
    intro i o ho hw he
    obtain ⟨r,hr,hri⟩:=waits_rows hw
    obtain ⟨-,h2⟩:=rowsOf_get ops.toList [] 0 rows hrows rfl
    obtain ⟨r',hr',hwf⟩:=h2 j o (by rw [Array.getElem?_toList];exact ho)
    rw [Nat.zero_add] at hr' hwf
    rw [hr] at hr';injection hr' with hr';subst hr'
    obtain ⟨e,hmem,hb,hlt,h⟩:=waitsFor_get rows j o.after.toList r i hwf hri
    have hel:=he e (by simpa using hmem) hb
    rcases h with rfl|⟨r2,hr2,hi2⟩
    · exact hel
    · have hoe:∃oe,ops[e.on]?=some oe:=by
        have:e.on<ops.size:=Nat.lt_trans hlt (Array.getElem?_eq_some_iff.1 ho).1
        exact ⟨ops[e.on],Array.getElem?_eq_getElem this⟩
      obtain ⟨oe,hoe⟩:=hoe
      refine ih e.on hlt i oe hoe ?_ (fun e' h1 h2=>hc e.on oe hoe hel e' h1 h2)
      unfold waits
      rw [getL_eq,hr2]
      simp only [getL_eq,hi2]
theorem pairs2_get {ops:List Oper} {rows:List (List Bool)} {oi:Oper} {i:Nat}:∀(os:List Oper) (j:Nat),pairs2 P ops rows oi i j os=true→∀k o,os[k]?=some o→waits rows (j+k) i=true∨apartA P ops oi o=true
  | [],j,_,k,o,hk=>by simp at hk
  | x::os,j,h,k,o,hk=>by
    simp only [pairs2] at h
    split at h
    · rename_i hb
      cases k with
      | zero =>
        simp only [List.getElem?_cons_zero,Option.some.injEq] at hk;subst hk
        simpa using hb
      | succ k =>
        simp only [List.getElem?_cons_succ] at hk
        have:=pairs2_get os (j+1) h k o hk
        rw [show j+1+k=j+(k+1) by omega] at this
        exact this
    · cases h
theorem pairs1_get {ops:List Oper} {rows:List (List Bool)}:∀(os:List Oper) (i:Nat),pairs1 P ops rows i os=true→∀a b oa ob,a<b→os[a]?=some oa→os[b]?=some ob→waits rows (i+b) (i+a)=true∨apartA P ops oa ob=true
  | [],i,_,a,b,oa,ob,_,ha,_=>by simp at ha
  | x::os,i,h,a,b,oa,ob,hab,ha,hb=>by
    simp only [pairs1] at h
    split at h
    · rename_i h2
      cases b with
      | zero=>omega
      | succ b =>
        simp only [List.getElem?_cons_succ] at hb
        cases a with
        | zero =>
          simp only [List.getElem?_cons_zero,Option.some.injEq] at ha;subst ha
          have:=pairs2_get os (i+1) h2 b ob hb
          rw [show i+1+b=i+(b+1) by omega] at this
          exact this
        | succ a =>
          simp only [List.getElem?_cons_succ] at ha
          have:=pairs1_get os (i+1) h a b oa ob (by omega) ha hb
          rw [show i+1+b=i+(b+1) by omega,show i+1+a=i+(a+1) by omega] at this
          exact this
    · cases h
theorem lastAt_get {rows:List (List Bool)} {p:Nat}:∀(os:List Oper) (j:Nat),lastAt P rows p j os=true→∀k o,os[k]?=some o→j+k≤p∨waits rows (j+k) p=true∨looseF P o=true
  | [],j,_,k,o,hk=>by simp at hk
  | x::os,j,h,k,o,hk=>by
    simp only [lastAt] at h
    split at h
    · rename_i hb
      cases k with
      | zero =>
        simp only [List.getElem?_cons_zero,Option.some.injEq] at hk;subst hk
        simp only [Bool.or_eq_true] at hb
        rcases hb with h1|h1|h1
        · exact .inl (Nat.le_of_ble_eq_true h1)
        · exact .inr (.inl h1)
        · exact .inr (.inr h1)
      | succ k =>
        simp only [List.getElem?_cons_succ] at hk
        have:=lastAt_get os (j+1) h k o hk
        rw [show j+1+k=j+(k+1) by omega] at this
        exact this
    · cases h
def stT (tr:List (Tm×St)) (z:Tm×St) (i:Nat):Tm×St:=(tr[i]?).getD z
theorem stT_zero (x:Tm×St) (tr:List (Tm×St)) (z:Tm×St):stT (x::tr) z 0=x:=rfl
theorem stT_succ (x:Tm×St) (tr:List (Tm×St)) (z:Tm×St) (i:Nat):stT (x::tr) z (i+1)=stT tr z i:=by simp [stT]
theorem trace_get {call:Nat→List AV→St→CR} {ops:List Oper} {n:Nat}:∀(l:List Oper) (tm:Tm) (s:St) (tr:List (Tm×St)) (v:Option AV) (tm9:Tm) (s9:St),traceA P call ops n l tm s=.ok tr v tm9 s9 →
    stT tr (tm9,s9) 0=(tm,s)∧(v=none→tr.length=l.length)∧(∀u,v=some u→∃p o,tr.length=p+1∧l[p]?=some o∧stepO P call ops n o (stT tr (tm9,s9) p).1 (stT tr (tm9,s9) p).2=.pan u s9) ∧
    ∀i o,l[i]?=some o→(i+1<tr.length∨(i<tr.length∧v=none))→stepO P call ops n o (stT tr (tm9,s9) i).1 (stT tr (tm9,s9) i).2=.go (stT tr (tm9,s9) (i+1)).1 (stT tr (tm9,s9) (i+1)).2
  | [],tm,s,tr,v,tm9,s9,h=>by
    injection (show TR.ok [] none tm s=.ok tr v tm9 s9 from h) with h1 h2 h3 h4;subst h1;subst h2;subst h3;subst h4
    exact ⟨rfl,fun _=>rfl,fun u hu=>by (cases hu),fun i o hi=>by simp at hi⟩
  | o::l,tm,s,tr,v,tm9,s9,h=>by
    simp only [traceA] at h
    split at h
    · rename_i tm' s' hst
      split at h
      · rename_i tr' v' tm2 s2 htr
        injection h with h1 h2 h3 h4;subst h1;subst h2;subst h3;subst h4
        obtain ⟨q1,q2,q3,q4⟩:=trace_get l tm' s' tr' v' tm2 s2 htr
        refine ⟨rfl,fun hv=>by simp [q2 hv],fun u hu=>?_,fun i o' hi hlt=>?_⟩
        · obtain ⟨p,o',r1,r2,r3⟩:=q3 u hu
          exact ⟨p+1,o',by simp [r1],by simpa using r2,by rw [stT_succ];exact r3⟩
        · cases i with
          | zero =>
            simp only [List.getElem?_cons_zero,Option.some.injEq] at hi;subst hi
            rw [stT_succ,stT_zero,q1]
            exact hst
          | succ i =>
            simp only [List.getElem?_cons_succ] at hi
            rw [stT_succ,stT_succ]
            exact q4 i o' hi (by simpa using hlt)
      · cases h
    · rename_i u s' hst
      injection h with h1 h2 h3 h4;subst h1;subst h2;subst h3;subst h4
      refine ⟨rfl,fun hv=>by (cases hv),fun u' hu=>⟨0,o,rfl,rfl,?_⟩,fun i o' hi hlt=>?_⟩
      · injection hu with hu;subst hu;exact hst
      · rcases hlt with h|⟨-,h⟩
        · simp at h
        · cases h
    · cases h
theorem noneAt_get {k:K}:∀(l:List (Tm×St)),noneAt k l=true→∀x∈l,T.get x.2.hp k=none
  | [],_,x,hx=>by cases hx
  | (tm,s)::l,h,x,hx=>by
    simp only [noneAt] at h
    split at h
    · rename_i hn
      rcases List.mem_cons.1 hx with rfl|hx
      · exact hn
      · exact noneAt_get l h x hx
    · cases h
theorem fltOk_get:∀(os:List Oper) (tr seen:List (Tm×St)),fltOk P seen os tr=true→∀(f:Nat) (o:Oper) (x:Tm×St),os[f]?=some o→tr[f]?=some x→cls P o.op=.f→(∀y∈seen,T.get y.2.hp x.2.nx=none)∧∀(j:Nat) (y:Tm×St),j≤f→tr[j]?=some y→T.get y.2.hp x.2.nx=none
  | [],_,_,_,f,o,x,ho,_,_=>by simp at ho
  | _::_,[],_,_,f,o,x,_,hx,_=>by simp at hx
  | a::os,b::tr,seen,h,f,o,x,ho,hx,hf=>by
    simp only [fltOk] at h
    split at h
    · rename_i hb
      cases f with
      | zero =>
        simp only [List.getElem?_cons_zero,Option.some.injEq] at ho hx;subst ho;subst hx
        rw [hf] at hb
        have:=noneAt_get _ hb
        refine ⟨fun y hy=>this y (by simp [hy]),fun j y hj hy=>?_⟩
        have:j=0:=by omega
        subst this
        simp only [List.getElem?_cons_zero,Option.some.injEq] at hy;subst hy
        exact noneAt_get _ hb b (by simp)
      | succ f =>
        simp only [List.getElem?_cons_succ] at ho hx
        obtain ⟨h1,h2⟩:=fltOk_get os tr (b::seen) h f o x ho hx hf
        refine ⟨fun y hy=>h1 y (by simp [hy]),fun j y hj hy=>?_⟩
        cases j with
        | zero =>
          simp only [List.getElem?_cons_zero,Option.some.injEq] at hy;subst hy
          exact h1 b (by simp)
        | succ j =>
          simp only [List.getElem?_cons_succ] at hy
          exact h2 j y (by omega) hy
    · cases h
theorem heldBy_get {rows:List (List Bool)} {r:Nat} {t:TypeId} {p:K×Nat} {v:AV} {s9:St} {tm9:Tm}:∀(os:List Oper) (tr:List (Tm×St)) (j:Nat),heldBy P rows r t p v j os tr s9=true→∀m o,os[m]?=some o→m<tr.length→isM P o.op=true→waits rows (j+m) r=false→waits rows r (j+m)=false →
    keptAt P (stT tr (tm9,s9) m).2.hp t p v=true∧keptAt P (stT tr (tm9,s9) (m+1)).2.hp t p v=true∧hasAt (stT tr (tm9,s9) m).2.hp p.1=hasAt (stT tr (tm9,s9) (m+1)).2.hp p.1
  | [],_,_,_,m,o,ho,_,_,_,_=>by simp at ho
  | _::_,[],_,_,m,o,_,hm,_,_,_=>by simp at hm
  | a::os,(tm,s)::tr,j,h,m,o,ho,hm,hM,w1,w2=>by
    simp only [heldBy] at h
    split at h
    · rename_i hb
      cases m with
      | zero =>
        simp only [List.getElem?_cons_zero,Option.some.injEq] at ho;subst ho
        rw [Nat.add_zero] at w1 w2
        simp only [hM,w1,w2,Bool.not_true,Bool.or_false,Bool.false_or,Bool.and_eq_true,beq_iff_eq] at hb
        rw [stT_succ]
        cases tr with
        | nil=>exact hb
        | cons y tr=>exact hb
      | succ m =>
        simp only [List.getElem?_cons_succ] at ho
        rw [stT_succ,stT_succ]
        exact heldBy_get os tr (j+1) h m o ho (by simpa using hm) hM (by rw [show j+1+m=j+(m+1) by omega];exact w1) (by rw [show j+1+m=j+(m+1) by omega];exact w2)
    · cases h
theorem heldAll_get {all:List Oper} {rows:List (List Bool)} {tr0:List (Tm×St)} {s9:St} {tm9:Tm}:∀(os:List Oper) (tr:List (Tm×St)) (r:Nat),heldAll P all rows tr0 s9 r os tr=true→∀k o,os[k]?=some o→k<tr.length→cls P o.op=.r→wantA all (stT tr (tm9,s9) k).1 o=some true →
    ∃t p v,readAt o.op (stT tr (tm9,s9) k).1=some (t,p)∧loadAt P t (stT tr (tm9,s9) k).2.hp p=some v∧heldBy P rows (r+k) t p v 0 all tr0 s9=true
  | [],_,_,_,k,o,ho,_,_,_=>by simp at ho
  | _::_,[],_,_,k,o,_,hk,_,_=>by simp at hk
  | a::os,(tm,s)::tr,r,h,k,o,ho,hk,hc,hw=>by
    simp only [heldAll] at h
    split at h
    · rename_i hb
      cases k with
      | zero =>
        simp only [List.getElem?_cons_zero,Option.some.injEq] at ho;subst ho
        rw [stT_zero] at hw ⊢
        rw [hc] at hb
        simp only [hw] at hb
        split at hb
        · rename_i t p hr
          split at hb
          · rename_i v hl
            exact ⟨t,p,v,hr,hl,hb⟩
          · cases hb
        · cases hb
      | succ k =>
        simp only [List.getElem?_cons_succ] at ho
        rw [stT_succ] at hw ⊢
        have:=heldAll_get os tr (r+1) h k o ho (by simpa using hk) hc hw
        rw [show r+1+k=r+(k+1) by omega] at this
        exact this
    · cases h
end Go.Proofs.YtoegffiapnnkiaaGreat.Abs
namespace Go.Proofs.YtoegffiapnnkiaaGreat.Abs
open Go
variable {P:Program} {B:Nat} {μ μ' μ0:K→Option Loc} {H H' H1 H1' H0:Hp} {w w1 w0 w':World} {nx nx' N0 N9 na nb:K}
def laid (H1' H1 H:Hp):Hp:=fun k=>match H1' k with
  | some b=>some b
  | none=>match H1 k with
    | some _=>none
    | none=>H k
theorem laid_some {k:K} {b:Bk} (h:laid H1' H1 H k=some b):H1' k=some b∨(H1' k=none∧H1 k=none∧H k=some b):=by
  unfold laid at h
  split at h
  · rename_i b' hb'
    injection h with h;subst h;exact .inl hb'
  · rename_i hn
    split at h
    · cases h
    · rename_i hn2
      exact .inr ⟨hn,hn2,h⟩
theorem laid_new {k:K} {b:Bk} (h:H1' k=some b):laid H1' H1 H k=some b:=by unfold laid;rw [h]
theorem laid_old {k:K} (h:H1' k=none) (h2:H1 k=none):laid H1' H1 H k=H k:=by unfold laid;rw [h,h2]
theorem step_laid (hR:Rel B μ H w) (hs:∀k b,H1 k=some b→H k=some b) (hst:Step B μ H1 nx w μ' H1' nx' w'):Step B μ H nx w μ' (laid H1' H1 H) nx' w':=by
  have hloc:∀ {k b l},H k=some b→μ' k=some l→μ k=some l:=fun {k b l} hb hl=>by
    obtain ⟨l0,h0,-⟩:=hR.at_ k b hb
    rw [hst.ext k l0 h0] at hl
    rw [h0];exact hl
  have hfar:∀ {k b l},H k=some b→OwnB b→H1 k=none→μ k=some l→¬OwnBlk μ H1 l.blk:=fun {k b l} hb hob hn hl=>by
    rintro ⟨i,b',l',hi,ho,hli,e⟩
    have:=hR.inj i k b' b l' l (hs i b' hi) hb ho hob hli hl e
    subst this
    rw [hn] at hi;cases hi
  have hsame:∀ {k b l},H k=some b→H1 k=none→μ k=some l→BR μ b l w→BR μ b l w':=fun {k b l} hb hn hl hbr=>by
    by_cases hob:OwnB b
    · exact hbr.same (hst.frame _ (hR.lt hb hl) (hfar hb hob hn hl))
    · cases b with
      | view cs =>
        rcases hR.view k cs l hb hl with h|⟨h,h0,h2⟩
        · refine hbr.same (hst.frame _ (hR.lt hb hl) ?_)
          rintro ⟨i,b',l',hi,ho,hli,e⟩
          have h2:=hR.own i b' l' (hs i b' hi) ho hli
          omega
        · obtain ⟨vs,c1,c2⟩:=hbr
          have hlen:=concL_length _ _ c1
          refine ⟨vs,c1,fun j v hj=>?_⟩
          have hjl:=(List.getElem?_eq_some_iff.1 hj).1
          have h3:=(hst.keep l.blk cs.length h (h2.sub hs)).2 j (by omega)
          have h4:=c2 j v hj
          rw [h0,Nat.zero_add] at h4 ⊢
          rw [h3];exact h4
      | cells _ _ _ _=>exact absurd trivial hob
      | mp _ _=>exact absurd trivial hob
      | kept _ _ _ _=>exact absurd trivial hob
  have hmix:∀ {i j b c l m},H1' i=some b→OwnB b→μ' i=some l→H j=some c→OwnB c→H1 j=none→μ' j=some m→l.blk=m.blk→False:=fun {i j b c l m} hb ho hl hc hoc hn hm e=>by
    have hm:=hloc hc hm
    rcases hst.owned l.blk ⟨i,b,l,hb,ho,hl,rfl⟩ with h|h
    · exact hfar hc hoc hn hm (e ▸ h)
    · have:=hR.lt hc hm;omega
  have keepL:∀k n,k<w.heap.size→KeepAt μ H k n→KeepAt μ' (laid H1' H1 H) k n:=fun k n hk hK i b l h ho hl he=>by
    rcases laid_some h with h|⟨-,hn,h⟩
    · exact (hst.keep k n hk (hK.sub hs)).1 i b l h ho hl he
    · exact hK i b l h ho (hloc h hl) he
  refine ⟨hst.ext,hst.new,⟨fun k b h=>?_,fun k b l h ho hl=>?_,fun k cs l h hl=>?_,fun i j b c l m hb hc ob oc hl hm e=>?_,hst.rel.size⟩,?_,?_,hst.size,hst.os,hst.tape,hst.output,hst.nxle,fun k n hk hK=>⟨keepL k n hk hK,(hst.keep k n hk (hK.sub hs)).2⟩,fun i cs l h hl=>?_⟩
  · rcases laid_some h with h|⟨-,hn,h⟩
    · exact hst.rel.at_ k b h
    · obtain ⟨l,hl,hb⟩:=hR.at_ k b h
      exact ⟨l,hst.ext k l hl,(hsame h hn hl hb).mono hst.ext⟩
  · rcases laid_some h with h|⟨-,hn,h⟩
    · exact hst.rel.own k b l h ho hl
    · exact hR.own k b l h ho (hloc h hl)
  · rcases laid_some h with h|⟨-,hn,h⟩
    · rcases hst.rel.view k cs l h hl with h1|⟨h1,h0,h2⟩
      · exact .inl h1
      · rcases hst.views k cs l h hl with ⟨cs',a1,a2,a3⟩|⟨i,b',l',hi,ho,hli,e⟩|a1
        · rcases hR.view k cs' l (hs k _ a1) a2 with b1|⟨b1,b0,b2⟩
          · exact .inl b1
          · exact .inr ⟨h1,h0,keepL _ _ b1 (b2.mono a3)⟩
        · refine .inr ⟨h1,h0,fun j c m hc oc hm he=>?_⟩
          rcases laid_some hc with hc|⟨-,hcn,hc⟩
          · exact h2 j c m hc oc hm he
          · exact absurd ⟨i,b',l',hi,ho,hli,by rw [e,he]⟩ (hfar hc oc hcn (hloc hc hm))
        · refine .inr ⟨h1,h0,fun j c m hc oc hm he=>?_⟩
          rcases laid_some hc with hc|⟨-,hcn,hc⟩
          · exact h2 j c m hc oc hm he
          · have:=hR.lt hc (hloc hc hm);omega
    · rcases hR.view k cs l h (hloc h hl) with h1|⟨h1,h0,h2⟩
      · exact .inl h1
      · exact .inr ⟨Nat.lt_of_lt_of_le h1 hst.size,h0,keepL _ _ h1 h2⟩
  · rcases laid_some hb with hb|⟨-,hbn,hb⟩<;>rcases laid_some hc with hc|⟨-,hcn,hc⟩
    · exact hst.rel.inj i j b c l m hb hc ob oc hl hm e
    · exact (hmix hb ob hl hc oc hcn hm e).elim
    · exact (hmix hc oc hm hb ob hbn hl e.symm).elim
    · exact hR.inj i j b c l m hb hc ob oc (hloc hb hl) (hloc hc hm) e
  · rintro k ⟨i,b,l,hb,ho,hl,e⟩
    rcases laid_some hb with hb|⟨-,hbn,hb⟩
    · rcases hst.owned k ⟨i,b,l,hb,ho,hl,e⟩ with ⟨i',b',l',h1,h2,h3,h4⟩|h
      · exact .inl ⟨i',b',l',hs i' b' h1,h2,h3,h4⟩
      · exact .inr h
    · exact .inl ⟨i,b,l,hb,ho,hloc hb hl,e⟩
  · intro k hk hn
    refine hst.frame k hk fun h=>hn ?_
    obtain ⟨i',b',l',h1,h2,h3,h4⟩:=h
    exact ⟨i',b',l',hs i' b' h1,h2,h3,h4⟩
  · rcases laid_some h with h|⟨-,hn,h⟩
    · rcases hst.views i cs l h hl with ⟨cs',a1,a2,a3⟩|⟨i',b',l',h1,h2,h3,h4⟩|a1
      · exact .inl ⟨cs',hs i _ a1,a2,a3⟩
      · exact .inr (.inl ⟨i',b',l',hs i' b' h1,h2,h3,h4⟩)
      · exact .inr (.inr a1)
    · exact .inl ⟨cs,h,hloc h hl,Nat.le_refl _⟩
theorem Step.then_ (h:Step B μ0 H0 N0 w0 μ H N9 w) (k:Step B μ H na w μ' H' nb w') (h1:N0.val≤na.val) (h2:nb.val≤N9.val):Step B μ0 H0 N0 w0 μ' H' N9 w' where
  ext:=h.ext.trans k.ext
  new i l e:=by
    rcases k.new i l e with e1|e1
    · exact h.new i l e1
    · exact .inr ⟨Nat.le_trans h1 e1.1,Nat.lt_of_lt_of_le e1.2 h2⟩
  rel:=k.rel
  owned j e:=by
    rcases k.owned j e with e1|e1
    · exact h.owned j e1
    · exact .inr (Nat.le_trans h.size e1)
  frame j hj hn:=by
    refine (k.frame j (Nat.lt_of_lt_of_le hj h.size) ?_).trans (h.frame j hj hn)
    intro ho
    rcases h.owned j ho with e|e
    · exact hn e
    · omega
  size:=Nat.le_trans h.size k.size
  os:=k.os.trans h.os
  tape:=k.tape.trans h.tape
  output:=k.output.trans h.output
  nxle:=h.nxle
  keep j n hj hk:=by
    obtain ⟨a1,a2⟩:=h.keep j n hj hk
    obtain ⟨b1,b2⟩:=k.keep j n (Nat.lt_of_lt_of_le hj h.size) a1
    exact ⟨b1,fun i hi=>(b2 i hi).trans (a2 i hi)⟩
  views i cs l h1 h2:=by
    rcases k.views i cs l h1 h2 with ⟨cs',a1,a2,a3⟩|a1|a1
    · rcases h.views i cs' l a1 a2 with ⟨cs2,b1,b2,b3⟩|b1|b1
      · exact .inl ⟨cs2,b1,b2,Nat.le_trans a3 b3⟩
      · exact .inr (.inl b1)
      · exact .inr (.inr b1)
    · rcases h.owned _ a1 with b1|b1
      · exact .inr (.inl b1)
      · exact .inr (.inr b1)
    · exact .inr (.inr (Nat.le_trans h.size a1))
theorem waitsFor_binds (rows:List (List Bool)) (j:Nat):∀(es:List Edge) (r:List Bool),waitsFor rows j es=some r→∀e∈es,Region.binds .any e=true→e.on<j
  | [],r,_,e,he,_=>by cases he
  | x::es,r,h,e,he,hb=>by
    simp only [waitsFor] at h
    split at h
    · rename_i l hl
      rcases List.mem_cons.1 he with rfl|he
      · rw [hb] at h
        simp only at h
        split at h
        · assumption
        · cases h
      · exact waitsFor_binds rows j es l hl e he hb
    · cases h
theorem edges_lt {ops:Array Oper} {rows:List (List Bool)} (hrows:rowsOf [] 0 ops.toList=some rows) {j:Nat} {o:Oper} (ho:ops[j]?=some o):∀e∈o.after,Region.binds .any e=true→e.on<j:=by
  obtain ⟨-,h2⟩:=rowsOf_get ops.toList [] 0 rows hrows rfl
  obtain ⟨r',hr',hwf⟩:=h2 j o (by rw [Array.getElem?_toList];exact ho)
  rw [Nat.zero_add] at hwf
  exact fun e he hb=>waitsFor_binds rows j _ _ hwf e (by simpa using he) hb
theorem rowsOf_length:∀(os:List Oper) (rows:List (List Bool)) (i:Nat) (out:List (List Bool)),rowsOf rows i os=some out→out.length=rows.length+os.length
  | [],rows,i,out,h=>by
    injection (show some rows=some out from h) with h;subst h;simp
  | o::os,rows,i,out,h=>by
    simp only [rowsOf] at h
    split at h
    · rw [rowsOf_length os _ _ out h];simp;omega
    · cases h
theorem waits_lt {ops:Array Oper} {rows:List (List Bool)} (hrows:rowsOf [] 0 ops.toList=some rows):∀(j i:Nat),waits rows j i=true→i<j:=by
  intro j
  induction j using Nat.strongRecOn with
  | _ j ih =>
    intro i hw
    obtain ⟨r,hr,hri⟩:=waits_rows hw
    have hlen:=rowsOf_length _ _ _ _ hrows
    have hj:j<ops.size:=by
      have:=(List.getElem?_eq_some_iff.1 hr).1
      simpa [hlen] using this
    obtain ⟨-,h2⟩:=rowsOf_get ops.toList [] 0 rows hrows rfl
    obtain ⟨r',hr',hwf⟩:=h2 j ops[j] (by simp [hj])
    rw [Nat.zero_add] at hr' hwf
    rw [hr] at hr';injection hr' with hr';subst hr'
    obtain ⟨e,hmem,hb,hlt,h⟩:=waitsFor_get rows j _ r i hwf hri
    rcases h with rfl|⟨r2,hr2,hi2⟩
    · exact hlt
    · refine Nat.lt_trans (ih e.on hlt i ?_) hlt
      unfold waits
      rw [getL_eq,hr2]
      simp only [getL_eq,hi2]
theorem putK_get {n:Nat} {tm tm':Tm} {v:AV} {d:Option Tmp} (h:putK none n tm v (fun tm=>some tm) d=some tm'):∀t,(d≠some t→T.get tm' (K.of t)=T.get tm (K.of t))∧(d=some t→T.get tm' (K.of t)=some v∧t<n):=by
  intro t
  cases d with
  | none =>
    injection (show some tm=some tm' from h) with h;subst h
    exact ⟨fun _=>rfl,fun e=>by cases e⟩
  | some d =>
    have h:@Bool.rec (fun _=>Option Tm) none (some (T.set tm (K.of d) v)) (Nat.ble (Nat.succ d) n)=some tm':=h
    cases hb:Nat.ble (Nat.succ d) n with
    | false=>rw [hb] at h;cases h
    | true =>
      rw [hb] at h
      injection h with h;subst h
      refine ⟨fun hne=>?_,fun e=>?_⟩
      · rw [T.get_set,if_neg (fun e=>hne (by rw [K.of_inj e]))]
      · injection e with e;subst e
        exact ⟨by rw [T.get_set,if_pos rfl],Nat.le_of_ble_eq_true hb⟩
theorem flt_inv {call:Nat→List AV→St→CR} {op:Op} (hc:cls P op=.f) {tm:Tm} {s s':St} {v:AV} (h:opA op P call tm s=.ret v s'):∃b,s'=newB s b∧opA op P call tm ⟨.e,s.nx⟩=.ret v (newB ⟨.e,s.nx⟩ b):=by
  cases op with
  | alloc t =>
    have h:=ofP_ret (show ofP (opAlloc P t s)=.ret v s' from h)
    have hg:opA (.alloc t) P call tm ⟨.e,s.nx⟩=ofP (opAlloc P t ⟨.e,s.nx⟩):=rfl
    rw [hg]
    unfold opAlloc at h ⊢
    split at h
    · injection h with h;injection h with h1 h2
      subst h1;subst h2
      exact ⟨_,rfl,rfl⟩
    · cases h
  | makeMap t r =>
    cases r with
    | none =>
      injection (show CR.ret _ _=CR.ret v s' from h) with h1 h2
      subst h1;subst h2
      exact ⟨_,rfl,rfl⟩
    | some r=>cases h
  | call c =>
    obtain ⟨callee,args,ts⟩:=c
    cases callee with
    | builtin b =>
      cases b<;>simp only [cls] at hc<;>first|(cases hc;done)|(split at hc<;>cases hc)
    | _=>cases hc
  | convert t u x =>
    cases hm:cvM P t u<;>simp only [cls,hm] at hc<;>cases hc
  | _=>cases hc
theorem still {call:Nat→List AV→St→CR} {op:Op} (hc:cls P op=.p∨cls P op=.r) {tm:Tm} {s s':St} {v:AV} (h:opA op P call tm s=.ret v s'):s'=s:=by
  cases op with
  | call c =>
    obtain ⟨callee,args,ts⟩:=c
    cases callee with
    | builtin b =>
      have h:opCall P call ⟨.builtin b,args,ts⟩ tm s=.ret v s':=h
      unfold opCall at h
      split at h
      · rename_i hcal _;cases hcal
      · rename_i hcal _
        have hcal:Callee.builtin b=Callee.builtin _:=hcal
        injection hcal with hcal;subst hcal
        unfold opBuiltin at h
        split at h<;>first|exact (ofO_ret h).2|(rcases hc with hc|hc<;>simp only [cls] at hc<;>first|(cases hc;done)|(split at hc<;>cases hc))|cases h
      · cases h
    | _=>rcases hc with hc|hc<;>cases hc
  | makeMap t r=>cases r<;>rcases hc with hc|hc<;>cases hc
  | convert t u x =>
    cases hm:cvM P t u with
    | true=>rcases hc with hc|hc<;>simp only [cls,hm] at hc<;>cases hc
    | false=>exact (ofO_ret (convS_pure hm h)).2
  | _=>first|exact (ofO_ret h).2|(rcases hc with hc|hc<;>(cases hc;done))|(cases h;done)
end Go.Proofs.YtoegffiapnnkiaaGreat.Abs
namespace Go.Proofs.YtoegffiapnnkiaaGreat.Abs
open Go
variable {P:Program} {B:Nat} {μ μ' μ0:K→Option Loc} {H H':Hp} {w w0 w':World} {s0:St} {N9:K}
def Flt (P:Program) (ops:Array Oper) (st:Nat→Tm×St) (f:Nat):Prop:=∃o,ops[f]?=some o∧cls P o.op=.f∧wantA ops.toList (st f).1 o=some true
structure Line (P:Program) (call:Nat→List AV→St→CR) (ops:Array Oper) (n:Nat) (rows:List (List Bool)) (q:Nat) (st:Nat→Tm×St):Prop where
  hC:CallS P call
  le:q≤ops.size
  rows_:rowsOf [] 0 ops.toList=some rows
  go:∀i o,ops[i]?=some o→i<q→stepO P call ops.toList n o (st i).1 (st i).2=.go (st (i+1)).1 (st (i+1)).2
  pairs:∀i j oi oj,i<j→ops[i]?=some oi→ops[j]?=some oj→waits rows j i=true∨apartA P ops.toList oi oj=true
  held:∀r o,ops[r]?=some o→r<q→cls P o.op=.r→wantA ops.toList (st r).1 o=some true→∃t p v,readAt o.op (st r).1=some (t,p)∧loadAt P t (st r).2.hp p=some v ∧
    ∀m om,ops[m]?=some om→m<q→isM P om.op=true→waits rows m r=false→waits rows r m=false→keptAt P (st m).2.hp t p v=true∧keptAt P (st (m+1)).2.hp t p v=true∧hasAt (st m).2.hp p.1=hasAt (st (m+1)).2.hp p.1
  flt:∀f o,ops[f]?=some o→f<q→cls P o.op=.f→∀j,j≤f→T.get (st j).2.hp (st f).2.nx=none
section
variable {call:Nat→List AV→St→CR} {ops:Array Oper} {n:Nat} {rows:List (List Bool)} {q:Nat} {st:Nat→Tm×St}
theorem Line.at_ (L:Line P call ops n rows q st) {i:Nat} (h:i<q):∃o,ops[i]?=some o:=⟨ops[i]'(Nat.lt_of_lt_of_le h L.le),Array.getElem?_eq_getElem _⟩
theorem isM_false {o:Op} (h:isM P o=false):cls P o≠.m:=fun e=>by unfold isM at h;rw [e] at h;cases h
theorem isM_true {o:Op} (h:isM P o=true):cls P o=.m:=by
  unfold isM at h
  split at h
  · assumption
  · cases h
theorem isM_of {o:Op} (h:cls P o=.m):isM P o=true:=by unfold isM;rw [h]
theorem Line.kind (L:Line P call ops n rows q st) {i:Nat} {o:Oper} (ho:ops[i]?=some o) (h:i<q) (hM:isM P o.op=false) :
    (Flt P ops st i∧∃b,(st (i+1)).2=newB (st i).2 b)∨(¬Flt P ops st i∧(st (i+1)).2=(st i).2):=by
  rcases stepO_go (L.go i o ho h) with ⟨hw,-,hs⟩|⟨hw,v,hv,-⟩
  · refine .inr ⟨?_,hs⟩
    rintro ⟨o',ho',-,hw'⟩
    rw [ho] at ho';injection ho' with ho';subst ho'
    rw [hw] at hw';cases hw'
  · cases hc:cls P o.op with
    | m=>exact absurd hc (isM_false hM)
    | f =>
      obtain ⟨b,hb,-⟩:=flt_inv hc ((opQ_not (P:=P) (o:=o) (by rw [hc];intro e;cases e) call _ _).symm.trans hv)
      exact .inl ⟨⟨o,ho,hc,hw⟩,b,hb⟩
    | p =>
      refine .inr ⟨?_,still (.inl hc) ((opQ_not (P:=P) (o:=o) (by rw [hc];intro e;cases e) call _ _).symm.trans hv)⟩
      rintro ⟨o',ho',hc',-⟩
      rw [ho] at ho';injection ho' with ho';subst ho'
      rw [hc] at hc';cases hc'
    | r =>
      refine .inr ⟨?_,still (.inr hc) ((opQ_not (P:=P) (o:=o) (by rw [hc];intro e;cases e) call _ _).symm.trans hv)⟩
      rintro ⟨o',ho',hc',-⟩
      rw [ho] at ho';injection ho' with ho';subst ho'
      rw [hc] at hc';cases hc'
theorem Flt.notM {f:Nat} (h:Flt P ops st f) {o:Oper} (ho:ops[f]?=some o):isM P o.op=false:=by
  obtain ⟨o',ho',hc,-⟩:=h
  rw [ho] at ho';injection ho' with ho';subst ho'
  unfold isM;rw [hc]
theorem Line.nx_succ (L:Line P call ops n rows q st) {i:Nat} (h:i<q):(st i).2.nx.val≤(st (i+1)).2.nx.val:=by
  obtain ⟨o,ho⟩:=L.at_ h
  exact stepO_mono (v:=.nilFunc) L.hC (.inl (L.go i o ho h))
theorem Line.nx_le (L:Line P call ops n rows q st) {i:Nat}:∀ {j:Nat},i≤j→j≤q→(st i).2.nx.val≤(st j).2.nx.val
  | 0,h,_=>by
    have:i=0:=by omega
    subst this;exact Nat.le_refl _
  | j+1,h,hq=>by
    by_cases e:i=j+1
    · subst e;exact Nat.le_refl _
    · exact Nat.le_trans (L.nx_le (j:=j) (by omega) (by omega)) (L.nx_succ (by omega))
theorem Line.flt_new (L:Line P call ops n rows q st) {f:Nat} (h:f<q) (hf:Flt P ops st f):∃b,(st (f+1)).2=newB (st f).2 b:=by
  obtain ⟨o,ho⟩:=L.at_ h
  rcases L.kind ho h (hf.notM ho) with ⟨-,h⟩|⟨h,-⟩
  · exact h
  · exact absurd hf h
theorem Line.flt_nx (L:Line P call ops n rows q st) {f:Nat} (h:f<q) (hf:Flt P ops st f):(st (f+1)).2.nx.val=(st f).2.nx.val+1:=by
  obtain ⟨b,hb⟩:=L.flt_new h hf
  rw [hb];exact K.val_succ _
theorem Line.flt_lt (L:Line P call ops n rows q st) {f j:Nat} (hf:Flt P ops st f) (h:f<j) (hj:j≤q):(st f).2.nx.val<(st j).2.nx.val:=by
  have:=L.flt_nx (f:=f) (by omega) hf
  have:=L.nx_le (i:=f+1) (j:=j) (by omega) hj
  omega
theorem Line.flt_inj (L:Line P call ops n rows q st) {f g:Nat} (h:f<q) (h':g<q) (hf:Flt P ops st f) (hg:Flt P ops st g) (e:(st f).2.nx=(st g).2.nx):f=g:=by
  rcases Nat.lt_trichotomy f g with h1|h1|h1
  · have:=L.flt_lt hf h1 (by omega);rw [e] at this;omega
  · exact h1
  · have:=L.flt_lt hg h1 (by omega);rw [e] at this;omega
theorem Line.flt_none (L:Line P call ops n rows q st) {f j:Nat} (h:f<q) (hf:Flt P ops st f) (hj:j≤f):T.get (st j).2.hp (st f).2.nx=none:=by
  obtain ⟨o,ho,hc,-⟩:=hf
  exact L.flt f o ho h hc j hj
def NoM (P:Program) (ops:Array Oper) (p j:Nat):Prop:=∀k o,p≤k→k<j→ops[k]?=some o→isM P o.op=false
theorem Line.heap_fwd (L:Line P call ops n rows q st) {p:Nat} {k:K} {b:Bk} (hb:T.get (st p).2.hp k=some b):∀ {j:Nat},p≤j→j≤q→NoM P ops p j→T.get (st j).2.hp k=some b
  | 0,h,_,_=>by
    have:p=0:=by omega
    subst this;exact hb
  | j+1,h,hq,hn=>by
    by_cases e:p=j+1
    · subst e;exact hb
    · have ih:=L.heap_fwd hb (j:=j) (by omega) (by omega) (fun k o h1 h2=>hn k o h1 (by omega))
      obtain ⟨o,ho⟩:=L.at_ (i:=j) (by omega)
      rcases L.kind ho (by omega) (hn j o (by omega) (by omega) ho) with ⟨hf,b',hb'⟩|⟨-,hs⟩
      · rw [hb']
        show T.get (T.set (st j).2.hp (st j).2.nx b') k=some b
        rw [T.get_set]
        split
        · rename_i e'
          rw [e',L.flt_none (by omega) hf (Nat.le_refl _)] at ih;cases ih
        · exact ih
      · rw [hs];exact ih
theorem Line.heap_back (L:Line P call ops n rows q st) {p:Nat} {k:K} {b:Bk}:∀ {j:Nat},p≤j→j≤q→NoM P ops p j→T.get (st j).2.hp k=some b→T.get (st p).2.hp k=some b∨∃f,p≤f∧f<j∧Flt P ops st f∧k=(st f).2.nx∧T.get (st (f+1)).2.hp k=some b
  | 0,h,_,_,hb=>by
    have:p=0:=by omega
    subst this;exact .inl hb
  | j+1,h,hq,hn,hb=>by
    by_cases e:p=j+1
    · subst e;exact .inl hb
    · have ih:=L.heap_back (p:=p) (k:=k) (b:=b) (j:=j) (by omega) (by omega) (fun k o h1 h2=>hn k o h1 (by omega))
      have up:(T.get (st p).2.hp k=some b∨∃f,p≤f∧f<j∧Flt P ops st f∧k=(st f).2.nx∧T.get (st (f+1)).2.hp k=some b)→T.get (st p).2.hp k=some b∨∃f,p≤f∧f<j+1∧Flt P ops st f∧k=(st f).2.nx∧T.get (st (f+1)).2.hp k=some b:=by
        rintro (h|⟨f,h1,h2,h3⟩)
        · exact .inl h
        · exact .inr ⟨f,h1,by omega,h3⟩
      obtain ⟨o,ho⟩:=L.at_ (i:=j) (by omega)
      rcases L.kind ho (by omega) (hn j o (by omega) (by omega) ho) with ⟨hf,b',hb'⟩|⟨-,hs⟩
      · have hb0:=hb
        rw [hb'] at hb
        have hb:T.get (T.set (st j).2.hp (st j).2.nx b') k=some b:=hb
        rw [T.get_set] at hb
        split at hb
        · rename_i e'
          exact .inr ⟨j,by omega,by omega,hf,e',hb0⟩
        · exact up (ih hb)
      · rw [hs] at hb;exact up (ih hb)
theorem Line.tm_between (L:Line P call ops n rows q st) {i:Nat} {t:Nat}:∀ {j:Nat},i≤j→j≤q→(∀k o,i≤k→k<j→ops[k]?=some o→o.dst≠some t)→T.get (st j).1 (K.of t)=T.get (st i).1 (K.of t)
  | 0,h,_,_=>by
    have:i=0:=by omega
    subst this;rfl
  | j+1,h,hq,hn=>by
    by_cases e:i=j+1
    · subst e;rfl
    · rw [←L.tm_between (i:=i) (t:=t) (j:=j) (by omega) (by omega) (fun k o h1 h2=>hn k o h1 (by omega))]
      obtain ⟨o,ho⟩:=L.at_ (i:=j) (by omega)
      have hd:=hn j o (by omega) (by omega) ho
      rcases stepO_go (L.go j o ho (by omega)) with ⟨-,hp,-⟩|⟨-,v,-,hp⟩<;>exact (putK_get hp t).1 hd
structure Inv (P:Program) (B:Nat) (μ0:K→Option Loc) (s0:St) (w0:World) (N9:K) (ds:List Deferred) (ops:Array Oper) (n:Nat) (q:Nat) (st:Nat→Tm×St) (M:Array Bool) (p:Nat) (H:Hp) (μ:K→Option Loc) (a:Act) (w:World):Prop where
  size:M.size=ops.size
  closed:Closed ops M
  lt:∀j,M.getD j false=true→j<q∨(q<j∧j<ops.size)
  ple:p≤q
  mov:∀j o,ops[j]?=some o→j<q→isM P o.op=true→(M.getD j false=true↔j<p)
  fl:∀j o,ops[j]?=some o→j<p→cls P o.op=.f→M.getD j false=true
  heap:∀i b,H i=some b↔(T.get (st p).2.hp i=some b∨∃f,p≤f∧f<q∧Flt P ops st f∧M.getD f false=true∧i=(st f).2.nx∧T.get (st (f+1)).2.hp i=some b)
  step:Step B μ0 (T.get s0.hp) s0.nx w0 μ H N9 w
  dom:∀i l,μ i=some l→μ0 i=some l∨i.val<(st p).2.nx.val∨∃f,p≤f∧f<q∧Flt P ops st f∧M.getD f false=true∧i=(st f).2.nx
  defers:a.defers=ds
  tsize:a.tmps.size=n
  tmps:∀i,i≤q→∀t,(∀j o,ops[j]?=some o→o.dst=some t→(M.getD j false=true↔j<i))→∀v,T.get (st i).1 (K.of t)=some v→∃c,conc μ v=some c∧a.tmps[t]?=some c
variable {ds:List Deferred} {M:Array Bool} {p:Nat} {a:Act}
theorem Inv.raise (L:Line P call ops n rows q st) (I:Inv P B μ0 s0 w0 N9 ds ops n q st M p H μ a w) {i:Nat} (h:p≤i) (hq:i≤q) (hn:NoM P ops p i) (hf:∀j o,ops[j]?=some o→p≤j→j<i→cls P o.op=.f→M.getD j false=true) :
    Inv P B μ0 s0 w0 N9 ds ops n q st M i H μ a w where
  size:=I.size
  closed:=I.closed
  lt:=I.lt
  ple:=hq
  mov j o ho hj hM:=by
    rw [I.mov j o ho hj hM]
    refine ⟨fun h1=>by omega,fun h1=>?_⟩
    rcases Nat.lt_or_ge j p with h2|h2
    · exact h2
    · rw [hn j o h2 h1 ho] at hM;cases hM
  fl j o ho hj hc:=by
    rcases Nat.lt_or_ge j p with h2|h2
    · exact I.fl j o ho h2 hc
    · exact hf j o ho h2 hj hc
  heap k b:=by
    rw [I.heap k b]
    constructor
    · rintro (h1|⟨f,h1,h2,h3,h4,h5,h6⟩)
      · exact .inl (L.heap_fwd h1 h hq hn)
      · rcases Nat.lt_or_ge f i with h7|h7
        · exact .inl (L.heap_fwd (p:=f+1) h6 (by omega) hq (fun k o g1 g2=>hn k o (by omega) g2))
        · exact .inr ⟨f,h7,h2,h3,h4,h5,h6⟩
    · rintro (h1|⟨f,h1,h2,h3,h4,h5,h6⟩)
      · rcases L.heap_back h hq hn h1 with h1|⟨f,h1,h2,h3,h4,h5⟩
        · exact .inl h1
        · obtain ⟨o,ho,hc,hw⟩:=h3
          exact .inr ⟨f,h1,by omega,⟨o,ho,hc,hw⟩,hf f o ho h1 h2 hc,h4,h5⟩
      · exact .inr ⟨f,by omega,h2,h3,h4,h5,h6⟩
  step:=I.step
  dom k l hk:=by
    rcases I.dom k l hk with h1|h1|⟨f,h1,h2,h3,h4,h5⟩
    · exact .inl h1
    · exact .inr (.inl (Nat.lt_of_lt_of_le h1 (L.nx_le h hq)))
    · rcases Nat.lt_or_ge f i with h7|h7
      · exact .inr (.inl (by rw [h5];exact L.flt_lt h3 h7 hq))
      · exact .inr (.inr ⟨f,h7,h2,h3,h4,h5⟩)
  defers:=I.defers
  tsize:=I.tsize
  tmps:=I.tmps
structure Nxt (P:Program) (ops:Array Oper) (rows:List (List Bool)) (M:Array Bool) (i:Nat) (o:Oper):Prop where
  ho:ops[i]?=some o
  un:M.getD i false=false
  pre:∀j,waits rows i j=true→M.getD j false=true
  post:∀j,waits rows j i=true→M.getD j false=false
  edges:∀e∈o.after,Region.binds .any e=true→M.getD e.on false=true
theorem nxt_of (L:Line P call ops n rows q st) (I:Inv P B μ0 s0 w0 N9 ds ops n q st M p H μ a w) {i:Nat} (h:i∈Region.ready .any ops M):∃o,Nxt P ops rows M i o:=by
  obtain ⟨h0,o,ho,he⟩:=mem_ready.1 h
  have hlt:i<M.size:=by rw [I.size];exact (Array.getElem?_eq_some_iff.1 ho).1
  have hun:M.getD i false=false:=by
    simp only [Array.getD_eq_getD_getElem?,Array.getElem?_eq_getElem hlt,Option.getD_some] at h0 ⊢
    exact h0
  refine ⟨o,ho,hun,fun j hw=>waits_listed L.rows_ I.closed i j o ho hw he,fun j hw=>?_,he⟩
  cases hj:M.getD j false with
  | false=>rfl
  | true =>
    have hjs:j<ops.size:=(I.lt j hj).elim (fun h=>Nat.lt_of_lt_of_le h L.le) (·.2)
    have:=waits_listed L.rows_ I.closed j i ops[j] (Array.getElem?_eq_getElem hjs) hw (fun e h1 h2=>I.closed j _ (Array.getElem?_eq_getElem hjs) hj e h1 h2)
    rw [hun] at this;cases this
theorem Nxt.before (L:Line P call ops n rows q st) {i:Nat} {o:Oper} (N:Nxt P ops rows M i o) {j:Nat} {oj:Oper} (hj:ops[j]?=some oj) (h:j<i):M.getD j false=true∨apartA P ops.toList oj o=true:=by
  rcases L.pairs j i oj o h hj N.ho with h|h
  · exact .inl (N.pre j h)
  · exact .inr h
theorem Nxt.behind (L:Line P call ops n rows q st) {i:Nat} {o:Oper} (N:Nxt P ops rows M i o) {j:Nat} {oj:Oper} (hj:ops[j]?=some oj) (h:i<j):M.getD j false=false∨apartA P ops.toList o oj=true:=by
  rcases L.pairs i j o oj h N.ho hj with h|h
  · exact .inl (N.post j h)
  · exact .inr h
theorem apart_reads {oi oj:Oper} (h:apartA P ops.toList oi oj=true):(∀t,oi.dst=some t→t∉readsOf ops.toList oj)∧(∀t,oj.dst=some t→t∉readsOf ops.toList oi)∧(∀t,oi.dst=some t→oj.dst≠some t):=by
  unfold apartA at h
  simp only [Bool.and_eq_true,Bool.not_eq_true'] at h
  obtain ⟨⟨⟨h1,h2⟩,h3⟩,-⟩:=h
  have key:∀(d:Option Nat) (l:List Nat),isIn d l=false→∀t,d=some t→t∉l:=by
    intro d l hh t e hm
    subst e
    simp only [isIn,List.any_eq_false] at hh
    exact hh t hm (Nat.beq_refl t)
  refine ⟨key _ _ h1,key _ _ h2,fun t e e'=>?_⟩
  rw [e,e'] at h3
  simp [sameDst] at h3
theorem apart_cls {oi oj:Oper} (h:apartA P ops.toList oi oj=true) (hj:cls P oj.op=.m):cls P oi.op≠.m∧cls P oi.op≠.f:=by
  unfold apartA at h
  simp only [Bool.and_eq_true] at h
  have h:=h.2
  rw [hj] at h
  constructor<;>intro e<;>rw [e] at h<;>cases h
theorem Nxt.order (L:Line P call ops n rows q st) {i:Nat} {o:Oper} (N:Nxt P ops rows M i o) {t:Nat} (ht:t∈readsOf ops.toList o):∀j oj,ops[j]?=some oj→oj.dst=some t→(M.getD j false=true↔j<i):=by
  intro j oj hj hd
  rcases Nat.lt_trichotomy j i with h|h|h
  · rcases N.before L hj h with h1|h1
    · exact ⟨fun _=>h,fun _=>h1⟩
    · exact absurd ht ((apart_reads h1).1 t hd)
  · subst h
    rw [N.un]
    exact ⟨fun h=>by (cases h),fun h=>by omega⟩
  · rcases N.behind L hj h with h1|h1
    · rw [h1]
      exact ⟨fun h=>by (cases h),fun h=>by omega⟩
    · exact absurd ht ((apart_reads h1).2.1 t hd)
theorem Nxt.tmp (L:Line P call ops n rows q st) (I:Inv P B μ0 s0 w0 N9 ds ops n q st M p H μ a w) {i:Nat} {o:Oper} (N:Nxt P ops rows M i o) (hi:i<q) {t:Nat} (ht:t∈readsOf ops.toList o):∀v,T.get (st i).1 (K.of t)=some v→∃c,conc μ v=some c∧a.tmps[t]?=some c :=
  I.tmps i (by omega) t (N.order L ht)
theorem mem_tmpsOf {t:Nat}:∀(l:List Operand),Operand.tmp t∈l→t∈tmpsOf l
  | [],h=>by cases h
  | x::l,h=>by
    rcases List.mem_cons.1 h with rfl|h
    · simp [tmpsOf]
    · have:=mem_tmpsOf l h
      cases x<;>simp [tmpsOf,this]
theorem Nxt.ops_ (L:Line P call ops n rows q st) (I:Inv P B μ0 s0 w0 N9 ds ops n q st M p H μ a w) {i:Nat} {o:Oper} (N:Nxt P ops rows M i o) (hi:i<q):OpsR μ (st i).1 a.eval o.op:=fun x hx u hu=>by
  cases x with
  | tmp t =>
    have ht:t∈readsOf ops.toList o:=List.mem_append_right _ (mem_tmpsOf _ hx)
    obtain ⟨c,h1,h2⟩:=N.tmp L I hi ht u hu
    simp [Act.eval,Array.getD_eq_getD_getElem?,h2,h1]
  | const v=>exact conc_ofV μ v u hu
  | global g=>cases hu
  | func f =>
    injection (show some (AV.func f [] [])=some u from hu) with hu;subst hu
    rfl
theorem Nxt.want (L:Line P call ops n rows q st) (I:Inv P B μ0 s0 w0 N9 ds ops n q st M p H μ a w) {i:Nat} {o:Oper} (N:Nxt P ops rows M i o) (hi:i<q) {b:Bool} (h:wantA ops.toList (st i).1 o=some b):Region.wanted o (yielded ops a.tmps)=b:=by
  refine want_ok' (μ:=μ) (fun j x pj d hg hp hd v hv=>?_) h
  refine N.tmp L I hi (List.mem_append_left _ ?_) v hv
  rw [hg]
  simp only [getL_eq,Array.getElem?_toList,hp,hd,List.mem_singleton]
end
end Go.Proofs.YtoegffiapnnkiaaGreat.Abs
namespace Go.Proofs.YtoegffiapnnkiaaGreat.Abs
open Go
variable {P:Program} {B:Nat} {μ μ' μ0:K→Option Loc} {H H':Hp} {w w0 w':World} {s0:St} {N9:K}
variable {call:Nat→List AV→St→CR} {ops:Array Oper} {n:Nat} {rows:List (List Bool)} {q:Nat} {st:Nat→Tm×St} {ds:List Deferred} {M:Array Bool} {p:Nat} {a:Act}
theorem set_get {i j:Nat} (hi:i<M.size):(M.setIfInBounds i true).getD j false=true↔j=i∨M.getD j false=true:=by
  by_cases e:i=j
  · subst e
    simp [hi]
  · rw [getD_set_ne false e]
    exact ⟨fun h=>.inr h,fun h=>h.elim (fun h=>absurd h.symm e) id⟩
theorem closed_set (hi:M.size=ops.size) (hc:Closed ops M) {i:Nat} {o:Oper} (N:Nxt P ops rows M i o):Closed ops (M.setIfInBounds i true):=by
  intro j oj hj hM e he hb
  have his:i<M.size:=by rw [hi];exact (Array.getElem?_eq_some_iff.1 N.ho).1
  rcases (set_get his).1 hM with rfl|h
  · rw [N.ho] at hj;injection hj with hj;subst hj
    exact getD_set_true (N.edges e he hb)
  · exact getD_set_true (hc j oj hj h e he hb)
theorem tmps_set (L:Line P call ops n rows q st) (I:Inv P B μ0 s0 w0 N9 ds ops n q st M p H μ a w) {i:Nat} {o:Oper} (N:Nxt P ops rows M i o) (hi:i<q) (hm:MLe μ μ') {v:AV} {c:Value} (hc:conc μ' v=some c) (hp:putK none n (st i).1 v (fun tm=>some tm) o.dst=some (st (i+1)).1) :
    ∀i',i'≤q→∀t,(∀j oj,ops[j]?=some oj→oj.dst=some t→((M.setIfInBounds i true).getD j false=true↔j<i'))→∀v,T.get (st i').1 (K.of t)=some v→∃x,conc μ' v=some x∧(a.put o.dst c).tmps[t]?=some x:=by
  intro i' hi' t hw v' hv'
  have his:i<M.size:=by rw [I.size];exact (Array.getElem?_eq_some_iff.1 N.ho).1
  by_cases hd:o.dst=some t
  · have hlt:i<i':=(hw i o N.ho hd).1 ((set_get his).2 (.inl rfl))
    have hbt:T.get (st i').1 (K.of t)=T.get (st (i+1)).1 (K.of t):=by
      refine L.tm_between (by omega) hi' fun k ok h1 h2 hok hdk=>?_
      have hk:=(set_get his).1 ((hw k ok hok hdk).2 h2)
      rcases hk with rfl|hk
      · omega
      · rcases N.behind L hok (show i<k by omega) with h3|h3
        · rw [hk] at h3;cases h3
        · exact (apart_reads h3).2.2 t hd hdk
    obtain ⟨h1,h2⟩:=(putK_get hp t).2 hd
    rw [hbt,h1] at hv'
    injection hv' with hv';subst hv'
    exact ⟨c,hc,by rw [hd];simp [Act.put,I.tsize,h2]⟩
  · have:=I.tmps i' hi' t (fun j oj hj hdj=>by
      rw [←hw j oj hj hdj]
      have hne:j≠i:=by
        rintro rfl
        rw [N.ho] at hj;injection hj with hj;subst hj
        exact hd hdj
      constructor
      · intro h;exact (set_get his).2 (.inr h)
      · intro h;exact ((set_get his).1 h).resolve_left hne) v' hv'
    obtain ⟨x,h1,h2⟩:=this
    refine ⟨x,conc_mono hm _ _ h1,?_⟩
    cases hod:o.dst with
    | none=>exact h2
    | some d =>
      have hne:¬d=t:=fun e=>hd (by rw [hod,e])
      simp [Act.put,hne,h2]
theorem put_size (d:Option Tmp) (c:Value):(a.put d c).tmps.size=a.tmps.size:=by cases d<;>simp [Act.put]
theorem Inv.quiet (L:Line P call ops n rows q st) (I:Inv P B μ0 s0 w0 N9 ds ops n q st M p H μ a w) {i:Nat} {o:Oper} (N:Nxt P ops rows M i o) (hi:i<q) (hM:isM P o.op=false) (hF:¬Flt P ops st i) (hfc:cls P o.op=.f→p≤i) {v:AV} {c:Value} (hc:conc μ v=some c) (hp:putK none n (st i).1 v (fun tm=>some tm) o.dst=some (st (i+1)).1) :
    Inv P B μ0 s0 w0 N9 ds ops n q st (M.setIfInBounds i true) p H μ (a.put o.dst c) w:=by
  have his:i<M.size:=by rw [I.size];exact (Array.getElem?_eq_some_iff.1 N.ho).1
  have hFl:∀f,Flt P ops st f→((M.setIfInBounds i true).getD f false=true↔M.getD f false=true):=fun f hf=>by
    rw [set_get his]
    exact ⟨fun h=>h.resolve_left (by rintro rfl;exact hF hf),.inr⟩
  refine ⟨by simpa using I.size,closed_set I.size I.closed N,fun j hj=>?_,I.ple,fun j oj hj hjq hMj=>?_,fun j oj hj hjp hcj=>(set_get his).2 (.inr (I.fl j oj hj hjp hcj)),fun k b=>?_,I.step,fun k l hk=>?_,(put_defers _ _ _).trans I.defers,(put_size _ _).trans I.tsize,tmps_set L I N hi (MLe.refl _) hc hp⟩
  · rcases (set_get his).1 hj with rfl|hj
    · exact .inl hi
    · exact I.lt j hj
  · rw [set_get his,I.mov j oj hj hjq hMj]
    refine ⟨fun h=>h.resolve_left ?_,.inr⟩
    rintro rfl
    rw [N.ho] at hj;injection hj with hj;subst hj
    rw [hM] at hMj;cases hMj
  · rw [I.heap k b]
    constructor
    · rintro (h|⟨f,h1,h2,h3,h4,h5⟩)
      · exact .inl h
      · exact .inr ⟨f,h1,h2,h3,(hFl f h3).2 h4,h5⟩
    · rintro (h|⟨f,h1,h2,h3,h4,h5⟩)
      · exact .inl h
      · exact .inr ⟨f,h1,h2,h3,(hFl f h3).1 h4,h5⟩
  · rcases I.dom k l hk with h|h|⟨f,h1,h2,h3,h4,h5⟩
    · exact .inl h
    · exact .inr (.inl h)
    · exact .inr (.inr ⟨f,h1,h2,h3,(hFl f h3).2 h4,h5⟩)
theorem Inv.make (L:Line P call ops n rows q st) (I:Inv P B μ0 s0 w0 N9 ds ops n q st M p H μ a w) {i:Nat} {o:Oper} (N:Nxt P ops rows M i o) (hi:i<q) (hF:Flt P ops st i) (h0:s0.nx.val≤(st i).2.nx.val) (h9:(st q).2.nx.val≤N9.val) {b:Bk} (hb:(st (i+1)).2=newB (st i).2 b)
    {v:AV} {c:Value} (hc:conc μ' v=some c) (hp:putK none n (st i).1 v (fun tm=>some tm) o.dst=some (st (i+1)).1)
    (hs:Step B μ (T.get (.e:T Bk)) (st i).2.nx w μ' (T.get (newB ⟨.e,(st i).2.nx⟩ b).hp) (newB ⟨.e,(st i).2.nx⟩ b).nx w') :
    ∃H',Inv P B μ0 s0 w0 N9 ds ops n q st (M.setIfInBounds i true) p H' μ' (a.put o.dst c) w':=by
  have his:i<M.size:=by rw [I.size];exact (Array.getElem?_eq_some_iff.1 N.ho).1
  obtain ⟨o',ho',hcf,-⟩:=id hF
  rw [N.ho] at ho';injection ho' with ho';subst ho'
  have hpi:p≤i:=by
    rcases Nat.lt_or_ge i p with h|h
    · have:=I.fl i o N.ho h hcf;rw [N.un] at this;cases this
    · exact h
  have hget:∀k,T.get (newB ⟨.e,(st i).2.nx⟩ b).hp k=if k=(st i).2.nx then some b else none:=fun k=>by
    show T.get (T.set .e (st i).2.nx b) k=_
    rw [T.get_set,T.get_e]
  have hnone:∀j,j≤i→T.get (st j).2.hp (st i).2.nx=none:=fun j hj=>L.flt_none hi hF hj
  have hown:T.get (st (i+1)).2.hp (st i).2.nx=some b:=by
    rw [hb]
    show T.get (T.set (st i).2.hp (st i).2.nx b) _=_
    rw [T.get_set,if_pos rfl]
  have hHn:H (st i).2.nx=none:=by
    cases hh:H (st i).2.nx with
    | none=>rfl
    | some b' =>
      rcases (I.heap _ _).1 hh with h|⟨f,h1,h2,h3,h4,h5,-⟩
      · rw [hnone p hpi] at h;cases h
      · have:=L.flt_inj hi h2 hF h3 h5
        subst this
        rw [N.un] at h4;cases h4
  have hst:=step_laid (H:=H) I.step.rel (fun k b' h=>by rw [T.get_e] at h;cases h) hs
  have hH':∀k b',laid (T.get (newB ⟨.e,(st i).2.nx⟩ b).hp) (T.get (.e:T Bk)) H k=some b'↔(k=(st i).2.nx∧b'=b)∨H k=some b':=fun k b'=>by
    by_cases e:k=(st i).2.nx
    · subst e
      rw [hHn]
      unfold laid
      rw [hget,if_pos rfl]
      exact ⟨fun h=>.inl ⟨rfl,by injection h with h;exact h.symm⟩,fun h=>h.elim (fun h=>by rw [h.2]) (fun h=>by cases h)⟩
    · rw [laid_old (by rw [hget,if_neg e]) (T.get_e k)]
      exact ⟨.inr,fun h=>h.elim (fun h=>absurd h.1 e) id⟩
  refine ⟨_,by simpa using I.size,closed_set I.size I.closed N,fun j hj=>?_,I.ple,fun j oj hj hjq hMj=>?_,fun j oj hj hjp hcj=>(set_get his).2 (.inr (I.fl j oj hj hjp hcj)),fun k b'=>?_,I.step.then_ hst h0 ?_,fun k l hk=>?_,(put_defers _ _ _).trans I.defers,(put_size _ _).trans I.tsize,tmps_set L I N hi hst.ext hc hp⟩
  · rcases (set_get his).1 hj with rfl|hj
    · exact .inl hi
    · exact I.lt j hj
  · rw [set_get his,I.mov j oj hj hjq hMj]
    refine ⟨fun h=>h.resolve_left ?_,.inr⟩
    rintro rfl
    rw [hF.notM hj] at hMj;cases hMj
  · rw [hH' k b',I.heap k b']
    constructor
    · rintro (⟨rfl,rfl⟩|h|⟨f,h1,h2,h3,h4,h5⟩)
      · exact .inr ⟨i,hpi,hi,hF,(set_get his).2 (.inl rfl),rfl,hown⟩
      · exact .inl h
      · exact .inr ⟨f,h1,h2,h3,(set_get his).2 (.inr h4),h5⟩
    · rintro (h|⟨f,h1,h2,h3,h4,h5,h6⟩)
      · exact .inr (.inl h)
      · rcases (set_get his).1 h4 with rfl|h4
        · subst h5
          rw [hown] at h6
          exact .inl ⟨rfl,by injection h6 with h6;exact h6.symm⟩
        · exact .inr (.inr ⟨f,h1,h2,h3,h4,h5,h6⟩)
  · show (K.succ (st i).2.nx).val≤N9.val
    rw [K.val_succ]
    have:=L.flt_lt hF hi (Nat.le_refl q)
    omega
  · rcases hst.new k l hk with h|⟨h1,h2⟩
    · rcases I.dom k l h with h|h|⟨f,h1,h2,h3,h4,h5⟩
      · exact .inl h
      · exact .inr (.inl h)
      · exact .inr (.inr ⟨f,h1,h2,h3,(set_get his).2 (.inr h4),h5⟩)
    · have h2:k.val<(K.succ (st i).2.nx).val:=h2
      rw [K.val_succ] at h2
      exact .inr (.inr ⟨i,hpi,hi,hF,(set_get his).2 (.inl rfl),K.val_inj (by omega)⟩)
theorem Nxt.clear (L:Line P call ops n rows q st) (I:Inv P B μ0 s0 w0 N9 ds ops n q st M p H μ a w) {i:Nat} {o:Oper} (N:Nxt P ops rows M i o) (hiq:i≤q) (hM:isM P o.op=true) (hpi:p≤i):Inv P B μ0 s0 w0 N9 ds ops n q st M i H μ a w:=by
  refine I.raise L hpi hiq (fun k ok h1 h2 hk=>?_) (fun j oj hj h1 h2 hcj=>?_)
  · cases hMk:isM P ok.op with
    | false=>rfl
    | true =>
      rcases N.before L hk h2 with h3|h3
      · have:=(I.mov k ok hk (by omega) hMk).1 h3;omega
      · exact absurd (isM_true hMk) (apart_cls h3 (isM_true hM)).1
  · rcases N.before L hj h2 with h3|h3
    · exact h3
    · exact absurd hcj (apart_cls h3 (isM_true hM)).2
theorem Inv.move (L:Line P call ops n rows q st) {i:Nat} (I:Inv P B μ0 s0 w0 N9 ds ops n q st M i H μ a w) {o:Oper} (N:Nxt P ops rows M i o) (hi:i<q) (hM:isM P o.op=true) (h0:s0.nx.val≤(st i).2.nx.val) (h9:(st q).2.nx.val≤N9.val)
    {v:AV} {c:Value} (hc:conc μ' v=some c) (hp:putK none n (st i).1 v (fun tm=>some tm) o.dst=some (st (i+1)).1)
    (hs:Step B μ (T.get (st i).2.hp) (st i).2.nx w μ' (T.get (st (i+1)).2.hp) (st (i+1)).2.nx w') :
    ∃H',Inv P B μ0 s0 w0 N9 ds ops n q st (M.setIfInBounds i true) (i+1) H' μ' (a.put o.dst c) w':=by
  have his:i<M.size:=by rw [I.size];exact (Array.getElem?_eq_some_iff.1 N.ho).1
  have hnf:∀f,Flt P ops st f→f≠i:=fun f hf e=>by
    subst e
    rw [hf.notM N.ho] at hM;cases hM
  have hst:=step_laid (H:=H) I.step.rel (fun k b' h=>(I.heap k b').2 (.inl h)) hs
  refine ⟨_,by simpa using I.size,closed_set I.size I.closed N,fun j hj=>?_,by omega,fun j oj hj hjq hMj=>?_,fun j oj hj hjp hcj=>?_,fun k b'=>?_,I.step.then_ hst h0 (Nat.le_trans (L.nx_le (i:=i+1) (by omega) (Nat.le_refl q)) h9),fun k l hk=>?_,(put_defers _ _ _).trans I.defers,(put_size _ _).trans I.tsize,tmps_set L I N hi hst.ext hc hp⟩
  · rcases (set_get his).1 hj with rfl|hj
    · exact .inl hi
    · exact I.lt j hj
  · rw [set_get his,I.mov j oj hj hjq hMj]
    omega
  · have hne:j≠i:=by
      rintro rfl
      rw [N.ho] at hj;injection hj with hj;subst hj
      rw [isM_true hM] at hcj;cases hcj
    exact (set_get his).2 (.inr (I.fl j oj hj (by omega) hcj))
  · constructor
    · intro h
      rcases laid_some h with h|⟨h1,h2,h⟩
      · exact .inl h
      · rcases (I.heap k b').1 h with h|⟨f,g1,g2,g3,g4,g5,g6⟩
        · rw [h2] at h;cases h
        · have:=hnf f g3
          exact .inr ⟨f,by omega,g2,g3,(set_get his).2 (.inr g4),g5,g6⟩
    · rintro (h|⟨f,g1,g2,g3,g4,g5,g6⟩)
      · exact laid_new h
      · have hn:=hnf f g3
        have g4:=((set_get his).1 g4).resolve_left hn
        rw [laid_old (by rw [g5];exact L.flt_none g2 g3 g1) (by rw [g5];exact L.flt_none g2 g3 (by omega))]
        exact (I.heap k b').2 (.inr ⟨f,by omega,g2,g3,g4,g5,g6⟩)
  · rcases hst.new k l hk with h|⟨h1,h2⟩
    · rcases I.dom k l h with h|h|⟨f,g1,g2,g3,g4,g5⟩
      · exact .inl h
      · exact .inr (.inl (Nat.lt_of_lt_of_le h (L.nx_succ hi)))
      · have:=hnf f g3
        exact .inr (.inr ⟨f,by omega,g2,g3,(set_get his).2 (.inr g4),g5⟩)
    · exact .inr (.inl h2)
theorem Inv.fresh {i:Nat} (I:Inv P B μ0 s0 w0 N9 ds ops n q st M i H μ a w) (hf:Fresh μ0 s0.nx N9) (h0:s0.nx.val≤(st i).2.nx.val) {N1:K} (h1:N1.val≤N9.val) (hn:∀f,i≤f→f<q→Flt P ops st f→M.getD f false=true→N1.val≤(st f).2.nx.val):Fresh μ (st i).2.nx N1:=fun k g1 g2=>by
  cases e:μ k with
  | none=>rfl
  | some l =>
    rcases I.dom k l e with h|h|⟨f,f1,f2,f3,f4,f5⟩
    · rw [hf k (by omega) (by omega)] at h;cases h
    · omega
    · have:=hn f f1 f2 f3 f4
      rw [←f5] at this;omega
end Go.Proofs.YtoegffiapnnkiaaGreat.Abs
namespace Go.Proofs.YtoegffiapnnkiaaGreat.Abs
open Go
variable {P:Program} {B:Nat} {μ μ' μ0:K→Option Loc} {H H':Hp} {w w0 w':World} {s0:St} {N9:K}
variable {call:Nat→List AV→St→CR} {ops:Array Oper} {n:Nat} {rows:List (List Bool)} {q:Nat} {st:Nat→Tm×St} {ds:List Deferred} {M:Array Bool} {p:Nat} {a:Act}
def Ld (P:Program) (t:TypeId) (x:Option Bk) (o:Nat) (v:AV):Prop:=∃b cs,x=some b∧rdl b=some cs∧partA P t cs o=some v
theorem loadAt_ld {t:TypeId} {h:T Bk} {i:K} {o:Nat} {v:AV} (e:loadAt P t h (i,o)=some v):Ld P t (T.get h i) o v:=by
  obtain ⟨cs,h1,h2⟩:=optK_some e
  obtain ⟨b,h3,h4⟩:=optK_some h1
  exact ⟨b,cs,h3,h4,h2⟩
theorem kept_ld {t:TypeId} {h:T Bk} {i:K} {o:Nat} {v:AV} (e:keptAt P h t (i,o) v=true) (hh:hasAt h i=true):Ld P t (T.get h i) o v:=by
  unfold keptAt at e
  split at e
  · rename_i u hu
    rw [←sameA_eq _ _ e]
    exact loadAt_ld hu
  · rw [show hasAt h (i,o).1=hasAt h i from rfl,hh] at e;cases e
theorem has_of {h:T Bk} {i:K} {b:Bk} (e:T.get h i=some b):hasAt h i=true:=by unfold hasAt;rw [e]
theorem load_there (L:Line P call ops n rows q st) (I:Inv P B μ0 s0 w0 N9 ds ops n q st M p H μ a w) (hf:Fresh μ0 s0.nx N9) (h0:∀j,j≤q→s0.nx.val≤(st j).2.nx.val) (h9:(st q).2.nx.val≤N9.val) {i:Nat} {o:Oper} (N:Nxt P ops rows M i o) (hi:i<q) (hc:cls P o.op=.r) (hw:wantA ops.toList (st i).1 o=some true) :
    ∃t k d v,readAt o.op (st i).1=some (t,(k,d))∧loadAt P t (st i).2.hp (k,d)=some v∧((∃l,μ k=some l)→Ld P t (H k) d v):=by
  obtain ⟨t,⟨k,d⟩,v,hr,hl,hk⟩:=L.held i o N.ho hi hc hw
  refine ⟨t,k,d,v,hr,hl,?_⟩
  rintro ⟨l,hl'⟩
  have hnM:isM P o.op=false:=by unfold isM;rw [hc]
  have good:Ld P t (T.get (st i).2.hp k) d v:=loadAt_ld hl
  have fin:Ld P t (T.get (st p).2.hp k) d v→Ld P t (H k) d v:=by
    rintro ⟨b,cs,h1,h2⟩
    exact ⟨b,cs,(I.heap k b).2 (.inl h1),h2⟩
  rcases Nat.lt_or_ge i p with hip|hip
  · refine fin ?_
    have up:∀j,i≤j→j≤p→Ld P t (T.get (st j).2.hp k) d v:=by
      intro j
      induction j with
      | zero =>
        intro h _
        have:i=0:=by omega
        subst this;exact good
      | succ j ih =>
        intro h1 h2
        by_cases e:i=j+1
        · subst e;exact good
        · obtain ⟨b,cs,g1,g2,g3⟩:=ih (by omega) (by omega)
          have hjq:j<q:=by have:=I.ple;omega
          obtain ⟨oj,hoj⟩:=L.at_ hjq
          cases hMj:isM P oj.op with
          | true =>
            have hlj:=(I.mov j oj hoj hjq hMj).2 (by omega)
            have hne:j≠i:=by rintro rfl;rw [N.un] at hlj;cases hlj
            have w1:waits rows j i=false:=by
              cases h:waits rows j i with
              | false=>rfl
              | true=>have:=N.post j h;rw [hlj] at this;cases this
            have w2:waits rows i j=false:=by
              cases h:waits rows i j with
              | false=>rfl
              | true=>have:=waits_lt L.rows_ i j h;omega
            obtain ⟨-,q2,q3⟩:=hk j oj hoj hjq hMj w1 w2
            exact kept_ld q2 (q3 ▸ has_of g1)
          | false =>
            rcases L.kind hoj hjq hMj with ⟨hF,b',hb'⟩|⟨-,hs⟩
            · refine ⟨b,cs,?_,g2,g3⟩
              rw [hb']
              show T.get (T.set (st j).2.hp (st j).2.nx b') k=some b
              rw [T.get_set]
              split
              · rename_i e'
                rw [e',L.flt_none hjq hF (Nat.le_refl _)] at g1;cases g1
              · exact g1
            · rw [hs];exact ⟨b,cs,g1,g2,g3⟩
    exact up p (by omega) (Nat.le_refl _)
  · have down:∀m j,j+m=i→p≤j→Ld P t (T.get (st j).2.hp k) d v∨∃f,p≤f∧f<i∧Flt P ops st f∧k=(st f).2.nx∧Ld P t (T.get (st (f+1)).2.hp k) d v:=by
      intro m
      induction m with
      | zero =>
        intro j h _
        have:j=i:=by omega
        subst this;exact .inl good
      | succ m ih =>
        intro j h1 h2
        rcases ih (j+1) (by omega) (by omega) with g|g
        · have hjq:j<q:=by omega
          obtain ⟨oj,hoj⟩:=L.at_ hjq
          obtain ⟨b,cs,g1,g2,g3⟩:=g
          cases hMj:isM P oj.op with
          | true =>
            have hlj:M.getD j false=false:=by
              cases h:M.getD j false with
              | false=>rfl
              | true=>have:=(I.mov j oj hoj hjq hMj).1 h;omega
            have w1:waits rows j i=false:=by
              cases h:waits rows j i with
              | false=>rfl
              | true=>have:=waits_lt L.rows_ j i h;omega
            have w2:waits rows i j=false:=by
              cases h:waits rows i j with
              | false=>rfl
              | true=>have:=N.pre j h;rw [hlj] at this;cases this
            obtain ⟨q1,-,q3⟩:=hk j oj hoj hjq hMj w1 w2
            exact .inl (kept_ld q1 (q3 ▸ has_of g1))
          | false =>
            rcases L.kind hoj hjq hMj with ⟨hF,b',hb'⟩|⟨-,hs⟩
            · by_cases e:k=(st j).2.nx
              · exact .inr ⟨j,h2,by omega,hF,e,b,cs,g1,g2,g3⟩
              · rw [hb'] at g1
                have g1:T.get (T.set (st j).2.hp (st j).2.nx b') k=some b:=g1
                rw [T.get_set,if_neg e] at g1
                exact .inl ⟨b,cs,g1,g2,g3⟩
            · rw [hs] at g1;exact .inl ⟨b,cs,g1,g2,g3⟩
        · exact .inr g
    rcases down (i-p) p (by omega) (Nat.le_refl _) with g|⟨f,f1,f2,f3,f4,b,cs,g1,g2,g3⟩
    · exact fin g
    · have hlf:M.getD f false=true:=by
        rcases I.dom k l hl' with h|h|⟨f',e1,e2,e3,e4,e5⟩
        · have h1:=h0 f (by omega)
          have h2:=L.flt_lt f3 (show f<q by omega) (Nat.le_refl q)
          rw [←f4] at h1 h2
          rw [hf k h1 (by omega)] at h;cases h
        · have:=L.nx_le (show p≤f from f1) (by omega)
          rw [f4] at h;omega
        · rw [f4] at e5
          have:=L.flt_inj (by omega) e2 f3 e3 e5
          subst this;exact e4
      exact ⟨b,cs,(I.heap k b).2 (.inr ⟨f,f1,by omega,f3,hlf,f4,g1⟩),g2,g3⟩
theorem readAt_inv {op:Op} {tm:Tm} {t:TypeId} {x:K×Nat} (h:readAt op tm=some (t,x)):∃e,op=.load t e∧ev tm e=some (.ptr (some x)):=by
  unfold readAt at h
  split at h
  · rename_i t' e
    split at h
    · rename_i y hy
      injection h with h;injection h with h1 h2;subst h1;subst h2
      obtain ⟨u,hu,hp⟩:=optK_some hy
      exact ⟨e,rfl,by rw [hu,asPtr_some hp]⟩
    · cases h
  · cases h
theorem drawn_step (hN:NoNG P) (L:Line P call ops n rows q st) (I:Inv P B μ0 s0 w0 N9 ds ops n q st M p H μ a w) (hf:Fresh μ0 s0.nx N9) (h0:∀j,j≤q→s0.nx.val≤(st j).2.nx.val) (h9:(st q).2.nx.val≤N9.val) {i:Nat} {o:Oper} (N:Nxt P ops rows M i o) (hi:i<q)
    {k:Act→World→Prop} {Q:Exit→Act→World→Prop} (hk:∀p' H' μ' a' w',Inv P B μ0 s0 w0 N9 ds ops n q st (M.setIfInBounds i true) p' H' μ' a' w'→k a' w'):wpOp P ops Q i k a w:=by
  unfold wpOp
  rw [N.ho]
  simp only []
  have hgo:=stepO_go (L.go i o N.ho hi)
  have hpf:cls P o.op=.f→p≤i:=fun hc=>by
    rcases Nat.lt_or_ge i p with h|h
    · have:=I.fl i o N.ho h hc;rw [N.un] at this;cases this
    · exact h
  have hpm:isM P o.op=true→p≤i:=fun hM=>by
    rcases Nat.lt_or_ge i p with h|h
    · have:=(I.mov i o N.ho hi hM).2 h;rw [N.un] at this;cases this
    · exact h
  have notF:cls P o.op≠.f→¬Flt P ops st i:=fun hc=>by
    rintro ⟨o',ho',hc',-⟩
    rw [N.ho] at ho';injection ho' with ho';subst ho'
    exact hc hc'
  have h1i:=h0 i (by omega)
  have hnx:=L.nx_le (i:=i+1) (by omega) (Nat.le_refl q)
  rcases hgo with ⟨hw,hp,hs⟩|⟨hw,v,hv,hp⟩
  · rw [N.want L I hi hw]
    simp only [Bool.false_eq_true,if_false]
    cases hM:isM P o.op with
    | true =>
      have I':=N.clear L I (by omega) hM (hpm hM)
      obtain ⟨H',h⟩:=I'.move (μ':=μ) (w':=w) L N hi hM h1i h9 conc_undef hp (by rw [hs];exact Step.refl (I'.step.rel.sub fun k b h=>(I'.heap k b).2 (.inl h)) _)
      exact hk _ _ _ _ _ h
    | false =>
      refine hk _ _ _ _ _ (I.quiet L N hi hM ?_ hpf conc_undef hp)
      rintro ⟨o',ho',-,hw'⟩
      rw [N.ho] at ho';injection ho' with ho';subst ho'
      rw [hw] at hw';cases hw'
  · rw [N.want L I hi hw]
    simp only [if_true]
    have hops:=N.ops_ L I hi
    refine .inl ?_
    cases hc:cls P o.op with
    | m =>
      have hM:=isM_of hc
      have I':=N.clear L I (by omega) hM (hpm hM)
      refine op_wp hN L.hC (I'.step.rel.sub fun k b h=>(I'.heap k b).2 (.inl h)) (I'.fresh hf h1i (by omega) fun f f1 f2 f3 f4=>?_) hv hops fun μ' c w' hcc hst=>?_
      · have:f≠i:=by
          rintro rfl
          rw [f3.notM N.ho] at hM;cases hM
        exact L.nx_le (by omega) (by omega)
      · obtain ⟨H',h⟩:=I'.move L N hi hM h1i h9 hcc hp hst
        exact hk _ _ _ _ _ h
    | f =>
      have hF:Flt P ops st i:=⟨o,N.ho,hc,hw⟩
      obtain ⟨b,hb,hrun⟩:=flt_inv hc ((opQ_not (P:=P) (o:=o) (by rw [hc];intro e;cases e) call _ _).symm.trans hv)
      have hrun:=(opQ_not (P:=P) (o:=o) (by rw [hc];intro e;cases e) call _ _).trans hrun
      have hfr:Fresh μ (st i).2.nx (newB ⟨.e,(st i).2.nx⟩ b).nx:=fun k g1 g2=>by
        cases e:μ k with
        | none=>rfl
        | some l =>
          have g2:k.val<(K.succ (st i).2.nx).val:=g2
          rw [K.val_succ] at g2
          have hlt:=L.flt_lt hF hi (Nat.le_refl q)
          rcases I.dom k l e with h|h|⟨f,f1,f2,f3,f4,f5⟩
          · rw [hf k (by omega) (by omega)] at h;cases h
          · have:=L.nx_le (show p≤i from hpf hc) (by omega);omega
          · have:(st f).2.nx=(st i).2.nx:=by rw [←f5];exact K.val_inj (by omega)
            have:=L.flt_inj f2 hi f3 hF this
            subst this
            rw [N.un] at f4;cases f4
      refine op_wp (μ:=μ) (s:=⟨.e,(st i).2.nx⟩) hN L.hC (I.step.rel.sub fun k b h=>by rw [T.get_e] at h;cases h) hfr hrun hops fun μ' c w' hcc hst=>?_
      obtain ⟨H',h⟩:=I.make L N hi hF h1i h9 hb hcc hp hst
      exact hk _ _ _ _ _ h
    | p =>
      have hv:=(opQ_not (P:=P) (o:=o) (by rw [hc];intro e;cases e) call _ _).symm.trans hv
      obtain ⟨dst,op,ty,pos,after,guard⟩:=o
      obtain ⟨-,c,hcc,hy⟩:=pure_ok (P:=P) call dst op ty pos after guard hc hv hops
      unfold Oper.wp
      rw [hy w,Oper.upon]
      exact hk _ _ _ _ _ (I.quiet L N hi (by unfold isM;rw [hc]) (notF (by rw [hc];exact fun e=>by cases e)) hpf hcc hp)
    | r =>
      obtain ⟨t,kk,d,v',hr,hl,hth⟩:=load_there L I hf h0 h9 N hi hc hw
      obtain ⟨e,heq,hev⟩:=readAt_inv hr
      obtain ⟨dst,op,ty,pos,after,guard⟩:=o
      have heq:op=.load t e:=heq
      subst heq
      have hv1:opLoad P t (ev (st i).1 e) (st i).2=some v:=(ofO_ret (show ofO (opLoad P t (ev (st i).1 e) (st i).2) (st i).2=.ret v (st (i+1)).2 from hv)).1
      rw [hev] at hv1
      have hv1:loadAt P t (st i).2.hp (kk,d)=some v:=hv1
      rw [hl] at hv1
      injection hv1 with hv1;subst hv1
      have hptr:=hops e (by simp [Op.operands]) _ hev
      obtain ⟨l,hkl,-⟩:=conc_ptr hptr
      obtain ⟨b,cs,g1,g2,g3⟩:=hth ⟨l,hkl⟩
      obtain ⟨c,hcc,hrun⟩:=loadAt_run I.step.rel g1 g2 g3 hptr
      have hex:(execOp a.eval ⟨dst,.load t e,ty,pos,after,guard⟩).run P w=.ok (.value c) w:=vrun hrun
      unfold Oper.wp
      rw [hex,Oper.upon]
      exact hk _ _ _ _ _ (I.quiet L N hi (by unfold isM;rw [hc]) (notF (by rw [hc];exact fun e=>by cases e)) hpf hcc hp)
theorem all_up {rows:List (List Bool)} (hrows:rowsOf [] 0 ops.toList=some rows) (hs:M.size=ops.size) (h:Region.ready .any ops M=[]):∀j,j<ops.size→M.getD j false=true:=by
  intro j
  induction j using Nat.strongRecOn with
  | _ j ih =>
    intro hj
    cases hM:M.getD j false with
    | true=>rfl
    | false =>
      have hj':j<M.size:=by omega
      have:j∈Region.ready .any ops M:=by
        refine mem_ready.2 ⟨?_,ops[j],Array.getElem?_eq_getElem hj,fun e he hb=>?_⟩
        · simp only [Array.getD_eq_getD_getElem?,Array.getElem?_eq_getElem hj',Option.getD_some] at hM ⊢
          exact hM
        · have:=edges_lt hrows (Array.getElem?_eq_getElem hj) e he hb
          exact ih e.on this (by omega)
      rw [h] at this;cases this
theorem count_set {i:Nat} (hi:i<M.size) (h:M.getD i false=false):(M.setIfInBounds i true).toList.count false+1=M.toList.count false:=by
  have hi':i<M.toList.length:=by simpa using hi
  have hM:M.toList[i]=false:=by
    simp only [Array.getD_eq_getD_getElem?,Array.getElem?_eq_getElem hi,Option.getD_some] at h
    simpa using h
  rw [Array.toList_setIfInBounds,List.count_set hi',hM]
  have:0<M.toList.count false:=List.count_pos_iff.2 (by rw [←hM];exact List.getElem_mem hi')
  rw [if_pos (show (false==false)=true from rfl),if_neg (show ¬(true==false)=true from fun h=>by cases h)]
  omega
theorem drawn_ok (hN:NoNG P) (L:Line P call ops n rows q st) (hq:q=ops.size) (hf:Fresh μ0 s0.nx N9) (h0:∀j,j≤q→s0.nx.val≤(st j).2.nx.val) (h9:(st q).2.nx=N9) {Q:Exit→Act→World→Prop}
    (hQ:∀a' w',Post B μ0 s0 w0 n ds .nrm (st q).1 (st q).2 .normal a' w'→Q .normal a' w'):∀(fuel:Nat) (M:Array Bool) (p:Nat) (H:Hp) (μ:K→Option Loc) (a:Act) (w:World),M.toList.count false≤fuel→Inv P B μ0 s0 w0 N9 ds ops n q st M p H μ a w→wpAny P .any ops Q fuel M a w:=by
  have done:∀(M:Array Bool) (p:Nat) (H:Hp) (μ:K→Option Loc) (a:Act) (w:World),Inv P B μ0 s0 w0 N9 ds ops n q st M p H μ a w→Region.ready .any ops M=[]→Q .normal a w:=by
    intro M p H μ a w I hr
    have hall:=all_up L.rows_ I.size hr
    have I':Inv P B μ0 s0 w0 N9 ds ops n q st M q H μ a w:=by
      refine I.raise L I.ple (Nat.le_refl q) (fun k o h1 h2 hk=>?_) (fun j o hj _ h2 _=>hall j (by omega))
      cases hM:isM P o.op with
      | false=>rfl
      | true=>have:=(I.mov k o hk h2 hM).1 (hall k (by omega));omega
    refine hQ a w ⟨μ,?_,trivial,I'.defers,fun _=>⟨I'.tsize,fun t v hv=>I'.tmps q (Nat.le_refl q) t (fun j o hj _=>?_) v hv⟩⟩
    · rw [h9]
      exact I'.step.sub fun k b h=>(I'.heap k b).2 (.inl h)
    · have:j<ops.size:=(Array.getElem?_eq_some_iff.1 hj).1
      exact ⟨fun _=>by omega,fun _=>hall j this⟩
  intro fuel
  induction fuel with
  | zero =>
    intro M p H μ a w hc I
    have hr:Region.ready .any ops M=[]:=by
      cases hr:Region.ready .any ops M with
      | nil=>rfl
      | cons i l =>
        obtain ⟨o,N⟩:=nxt_of L I (i:=i) (by rw [hr];simp)
        have hi:i<M.size:=by rw [I.size];exact (Array.getElem?_eq_some_iff.1 N.ho).1
        have:=count_set hi N.un
        omega
    exact ⟨hr,done M p H μ a w I hr⟩
  | succ fuel ih =>
    intro M p H μ a w hc I
    refine ⟨done M p H μ a w I,fun i hi=>?_⟩
    obtain ⟨o,N⟩:=nxt_of L I hi
    have his:i<ops.size:=(Array.getElem?_eq_some_iff.1 N.ho).1
    refine drawn_step hN L I hf h0 (by rw [h9];exact Nat.le_refl _) N (by omega) fun p' H' μ' a' w' I'=>ih _ p' H' μ' a' w' ?_ I'
    have:=count_set (by rw [I.size];exact his) N.un
    omega
theorem below_step (hR:Rel B μ H w) (hb:Go.RowKit.Below w.heap.size w w') (nx:K):Step B μ H nx w μ H nx w':=by
  obtain ⟨h1,h2,h3,h4,h5⟩:=hb
  refine ⟨MLe.refl μ,fun _ _ h=>.inl h,⟨fun i b h=>?_,hR.own,fun i cs l a b=>(hR.view i cs l a b).imp id fun ⟨c,d⟩=>⟨Nat.lt_of_lt_of_le c h4,d⟩,hR.inj,Nat.le_trans hR.size h4⟩,fun _ h=>.inl h,fun k hk _=>h5 k hk,h4,h1,h2,h3,Nat.le_refl _,fun k n hk h=>⟨h,SameTo.row (h5 k hk) n⟩,fun i cs l a b=>.inl ⟨cs,a,b,Nat.le_refl _⟩⟩
  obtain ⟨l,hl,hbr⟩:=hR.at_ i b h
  exact ⟨l,hl,hbr.same (h5 _ (hR.lt h hl))⟩
theorem Inv.loose (I:Inv P B μ0 s0 w0 N9 ds ops n q st M p H μ a w) {i:Nat} {o:Oper} (N:Nxt P ops rows M i o) (hi:q<i) {c:Value} (hb:Go.RowKit.Below w.heap.size w w'):Inv P B μ0 s0 w0 N9 ds ops n q st (M.setIfInBounds i true) p H μ (a.put o.dst c) w':=by
  have hio:i<ops.size:=(Array.getElem?_eq_some_iff.1 N.ho).1
  have his:i<M.size:=by rw [I.size];exact hio
  have hne:∀j,j≤q→((M.setIfInBounds i true).getD j false=true↔M.getD j false=true):=fun j hj=>by
    rw [set_get his]
    exact ⟨fun h=>h.resolve_left (by omega),.inr⟩
  refine ⟨by simpa using I.size,closed_set I.size I.closed N,fun j hj=>?_,I.ple,fun j oj hj hjq hMj=>?_,fun j oj hj hjp hcj=>(set_get his).2 (.inr (I.fl j oj hj hjp hcj)),fun k b=>?_,?_,fun k l hk=>?_,(put_defers _ _ _).trans I.defers,(put_size _ _).trans I.tsize,fun i' hi' t hw v hv=>?_⟩
  · rcases (set_get his).1 hj with rfl|hj
    · exact .inr ⟨hi,hio⟩
    · exact I.lt j hj
  · rw [hne j (by omega)];exact I.mov j oj hj hjq hMj
  · rw [I.heap k b]
    refine or_congr Iff.rfl ⟨fun ⟨f,h1,h2,h3,h4,h5⟩=>⟨f,h1,h2,h3,(hne f (by omega)).2 h4,h5⟩,fun ⟨f,h1,h2,h3,h4,h5⟩=>⟨f,h1,h2,h3,(hne f (by omega)).1 h4,h5⟩⟩
  · exact I.step.then_ (below_step I.step.rel hb N9) I.step.nxle (Nat.le_refl _)
  · rcases I.dom k l hk with h1|h1|⟨f,h1,h2,h3,h4,h5⟩
    · exact .inl h1
    · exact .inr (.inl h1)
    · exact .inr (.inr ⟨f,h1,h2,h3,(hne f (by omega)).2 h4,h5⟩)
  · have hd:o.dst≠some t:=fun e=>by
      have:=(hw i o N.ho e).1 ((set_get his).2 (.inl rfl))
      omega
    obtain ⟨x,h1,h2⟩:=I.tmps i' hi' t (fun j oj hj hdj=>by
      rw [←hw j oj hj hdj]
      have hji:j≠i:=by
        rintro rfl
        rw [N.ho] at hj;injection hj with hj;subst hj
        exact hd hdj
      rw [set_get his]
      exact ⟨.inr,fun h=>h.resolve_left hji⟩) v hv
    refine ⟨x,h1,?_⟩
    cases hod:o.dst with
    | none=>exact h2
    | some d =>
      have hnd:¬d=t:=fun e=>hd (by rw [hod,e])
      simp [Act.put,hnd,h2]
theorem loose_wp (hN:NoNG P) {call:Nat→List AV→St→CR} (hC:CallS P call) {i:Nat} {o:Oper} (ho:ops[i]?=some o) (hl:looseF P o=true) (hB:B≤w.heap.size) {k:Act→World→Prop} {Q:Exit→Act→World→Prop} (hk:∀c w',Go.RowKit.Below w.heap.size w w'→k (a.put o.dst c) w'):wpOp P ops Q i k a w:=by
  obtain ⟨dst,op,ty,pos,after,guard⟩:=o
  cases op with
  | alloc t =>
    cases guard with
    | some _=>simp [looseF] at hl
    | none =>
      simp only [looseF] at hl
      cases hz:zeroA P t with
      | none=>rw [hz] at hl;cases hl
      | some z =>
        have hrun:opA (.alloc t) P call .e ⟨.e,.z⟩=.ret (.ptr (some (.z,0))) (newB ⟨.e,.z⟩ (.cells z.parts t (lenL z.parts) true)):=by
          show ofP (opAlloc P t ⟨.e,.z⟩)=_
          unfold opAlloc
          rw [hz];rfl
        have hR0:Rel B (fun _=>none) (T.get (.e:T Bk)) w:=⟨fun i b h=>by (rw [T.get_e] at h;cases h),fun i b l h=>by (rw [T.get_e] at h;cases h),fun i cs l h=>by (rw [T.get_e] at h;cases h),fun i j b c l m h=>by (rw [T.get_e] at h;cases h),hB⟩
        unfold wpOp
        rw [ho]
        simp only [Region.wanted,if_true]
        refine .inl (op_wp (μ:=fun _=>none) (s:=⟨.e,.z⟩) (tm:=.e) (o:=⟨dst,.alloc t,ty,pos,after,none⟩) hN hC hR0 (fun k _ _=>rfl) hrun (fun x hx=>by simp [Op.operands] at hx) fun μ' c w' hcc hst=>hk c w' ⟨hst.os,hst.tape,hst.output,hst.size,fun k hk=>hst.frame k hk ?_⟩)
        rintro ⟨i,b,l,hb,-⟩
        rw [T.get_e] at hb;cases hb
  | _=>simp [looseF] at hl
theorem drawn_pan (hN:NoNG P) (L:Line P call ops n rows q st) {oq:Oper} (hoq:ops[q]?=some oq) {u:AV} {s9:St} (hpan:stepO P call ops.toList n oq (st q).1 (st q).2=.pan u s9) (hMq:isM P oq.op=true) (hlast:∀j o,ops[j]?=some o→j≤q∨waits rows j q=true∨looseF P o=true) (hf:Fresh μ0 s0.nx s9.nx) (h0:∀j,j≤q→s0.nx.val≤(st j).2.nx.val)
    {Q:Exit→Act→World→Prop} {tm9:Tm} (hQ:∀x a' w',Post B μ0 s0 w0 n ds (.pan u) tm9 s9 x a' w'→Q x a' w'):∀(fuel:Nat) (M:Array Bool) (p:Nat) (H:Hp) (μ:K→Option Loc) (a:Act) (w:World),M.toList.count false≤fuel→Inv P B μ0 s0 w0 s9.nx ds ops n q st M p H μ a w→wpAny P .any ops Q fuel M a w:=by
  have hqs:q<ops.size:=(Array.getElem?_eq_some_iff.1 hoq).1
  have hq9:(st q).2.nx.val≤s9.nx.val:=stepO_mono (tm':=(st q).1) L.hC (.inr hpan)
  have never:∀(M:Array Bool) (p:Nat) (H:Hp) (μ:K→Option Loc) (a:Act) (w:World),Inv P B μ0 s0 w0 s9.nx ds ops n q st M p H μ a w→Region.ready .any ops M≠[]:=by
    intro M p H μ a w I hr
    have:=I.lt q (all_up L.rows_ I.size hr q hqs)
    rcases this with h|h<;>omega
  intro fuel
  induction fuel with
  | zero =>
    intro M p H μ a w hc I
    refine absurd ?_ (never M p H μ a w I)
    cases hr:Region.ready .any ops M with
    | nil=>rfl
    | cons i l =>
      obtain ⟨o,N⟩:=nxt_of L I (i:=i) (by rw [hr];simp)
      have hi:i<M.size:=by rw [I.size];exact (Array.getElem?_eq_some_iff.1 N.ho).1
      have:=count_set hi N.un
      omega
  | succ fuel ih =>
    intro M p H μ a w hc I
    refine ⟨fun hr=>absurd hr (never M p H μ a w I),fun i hi=>?_⟩
    obtain ⟨o,N⟩:=nxt_of L I hi
    have his:i<ops.size:=(Array.getElem?_eq_some_iff.1 N.ho).1
    rcases Nat.lt_trichotomy i q with h|h|h
    · refine drawn_step hN L I hf h0 hq9 N h fun p' H' μ' a' w' I'=>ih _ p' H' μ' a' w' ?_ I'
      have:=count_set (by rw [I.size];exact his) N.un
      omega
    · subst h
      have ho:=N.ho
      rw [hoq] at ho;injection ho with ho;subst ho
      have I':=N.clear L I (Nat.le_refl _) hMq I.ple
      have hsub:∀k b,T.get (st i).2.hp k=some b→H k=some b:=fun k b h=>(I'.heap k b).2 (.inl h)
      have hfr:Fresh μ (st i).2.nx s9.nx:=I'.fresh hf (h0 i (Nat.le_refl _)) (Nat.le_refl _) (fun f f1 f2 _ _=>by omega)
      obtain ⟨hw,hv⟩:=stepO_pan hpan
      have hreads:∀t,t∈readsOf ops.toList oq→∀v,T.get (st i).1 (K.of t)=some v→∃c,conc μ v=some c∧a.tmps[t]?=some c:=fun t ht=>I.tmps i (Nat.le_refl _) t (N.order L ht)
      have hwant:Region.wanted oq (yielded ops a.tmps)=true:=by
        refine want_ok' (μ:=μ) (fun j x pj d hg hp hd v hv=>?_) hw
        refine hreads d (List.mem_append_left _ ?_) v hv
        rw [hg]
        simp only [getL_eq,Array.getElem?_toList,hp,hd,List.mem_singleton]
      have hops:OpsR μ (st i).1 a.eval oq.op:=fun x hx u hu=>by
        cases x with
        | tmp t =>
          obtain ⟨c,h1,h2⟩:=hreads t (List.mem_append_right _ (mem_tmpsOf _ hx)) u hu
          simp [Act.eval,Array.getD_eq_getD_getElem?,h2,h1]
        | const v=>exact conc_ofV μ v u hu
        | global g=>cases hu
        | func f =>
          injection (show some (AV.func f [] [])=some u from hu) with hu;subst hu
          rfl
      unfold wpOp
      rw [hoq]
      simp only []
      rw [hwant]
      simp only [if_true]
      refine .inl (op_wp_pan hN L.hC (I'.step.rel.sub hsub) hfr hv hops fun μ' c w' hcc hst=>hQ _ _ _ ⟨μ',?_,⟨c,hcc,rfl⟩,I.defers,fun h=>by cases h⟩)
      exact (I'.step.sub hsub).then_ hst (h0 i (Nat.le_refl _)) (Nat.le_refl _)
    · rcases hlast i o N.ho with h1|h1|h1
      · omega
      · have:=I.lt q (N.pre q h1)
        rcases this with h|h<;>omega
      · obtain ⟨p',H',μ',hn⟩:∃(p':Nat) (H':Hp) (μ':K→Option Loc),∀a' w',(∃c:Value,a'=a.put o.dst c)→Go.RowKit.Below w.heap.size w w'→Inv P B μ0 s0 w0 s9.nx ds ops n q st (M.setIfInBounds i true) p' H' μ' a' w':=⟨p,H,μ,fun a' w' ⟨c,hc⟩ hb=>by subst hc;exact I.loose N h hb⟩
        refine loose_wp hN L.hC N.ho h1 I.step.rel.size fun c w' hb=>ih _ p' H' μ' _ w' ?_ (hn _ w' ⟨c,rfl⟩ hb)
        have:=count_set (by rw [I.size];exact his) N.un
        omega
end Go.Proofs.YtoegffiapnnkiaaGreat.Abs
namespace Go.Proofs.YtoegffiapnnkiaaGreat.Abs
open Go
structure PermO (ops ops':Array Oper) (σ τ:Nat→Nat):Prop where
  size:ops'.size=ops.size
  at_:∀i,ops'[σ i]?=(ops[i]?).map (renO σ)
  st:∀i,σ (τ i)=i
  ts:∀i,τ (σ i)=i
section
variable {P:Program} {ops ops':Array Oper} {Q:Exit→Act→World→Prop} {σ τ:Nat→Nat} {M M':Array Bool}
theorem exec_ren (ρ:Operand→Value) (o:Oper):execOp ρ (renO σ o)=execOp ρ o:=by
  unfold execOp renO
  rfl
theorem upon_ren (o:Oper) (a:Act) (K:Act→World→Prop) (r:Result Next):(renO σ o).upon P a K Q r=o.upon P a K Q r:=by
  cases r with
  | ok n w=>cases n<;>rfl
  | halt x w=>cases x<;>rfl
theorem wp_ren (o:Oper) (a:Act) (w:World) (K:Act→World→Prop):(renO σ o).wp P a w K Q=o.wp P a w K Q:=by
  unfold Oper.wp
  rw [exec_ren,upon_ren]
theorem asks_ren (o:Oper) (a:Act) (w:World):(renO σ o).asks P a w=o.asks P a w:=by
  unfold Oper.asks
  rw [exec_ren]
theorem yielded_ren (h:PermO ops ops' σ τ) (tmps:Array Value) (j:Nat):yielded ops' tmps (σ j)=yielded ops tmps j:=by
  unfold yielded
  rw [h.at_ j]
  cases ops[j]?<;>rfl
theorem wanted_ren (h:PermO ops ops' σ τ) (o:Oper) (tmps:Array Value):Region.wanted (renO σ o) (yielded ops' tmps)=Region.wanted o (yielded ops tmps):=by
  unfold Region.wanted renO
  cases o.guard with
  | none=>rfl
  | some p =>
    show (yielded ops' tmps (σ p.1)==some p.2)=(yielded ops tmps p.1==some p.2)
    rw [yielded_ren h]
theorem wpOp_ren (h:PermO ops ops' σ τ) (i:Nat) (K:Act→World→Prop) (a:Act) (w:World):wpOp P ops' Q (σ i) K a w=wpOp P ops Q i K a w:=by
  unfold wpOp
  rw [h.at_ i]
  cases ops[i]? with
  | none=>rfl
  | some o =>
    simp only [Option.map_some]
    rw [wanted_ren h,wp_ren,asks_ren]
    rfl
structure PermM (σ:Nat→Nat) (M M':Array Bool):Prop where
  get:∀j,M'[σ j]?=M[j]?
theorem PermM.getD (h:PermM σ M M') (j:Nat) (d:Bool):M'.getD (σ j) d=M.getD j d:=by
  simp only [Array.getD_eq_getD_getElem?,h.get j]
theorem ready_ren (h:PermO ops ops' σ τ) (hM:PermM σ M M') (i:Nat):σ i∈Region.ready .any ops' M'↔i∈Region.ready .any ops M:=by
  unfold Region.ready
  simp only [List.mem_filter,List.mem_range]
  have hs:σ i<ops'.size↔i<ops.size:=by
    have:=h.at_ i
    constructor
    · intro hi
      rw [Array.getElem?_eq_getElem hi] at this
      cases e:ops[i]? with
      | none=>rw [e] at this;cases this
      | some o=>exact (Array.getElem?_eq_some_iff.1 e).1
    · intro hi
      rw [Array.getElem?_eq_getElem hi] at this
      exact (Array.getElem?_eq_some_iff.1 this).1
  rw [hs,h.at_ i,hM.getD i true]
  cases ops[i]? with
  | none=>rfl
  | some o =>
    have e:(renO σ o).after.all (fun e=>!Region.binds .any e||M'.getD e.on false)=o.after.all fun e=>!Region.binds .any e||M.getD e.on false:=by
      unfold renO
      rw [←Array.all_toList,←Array.all_toList]
      simp only [List.all_map]
      congr 1
      funext e
      show (!Region.binds .any e||M'.getD (σ e.on) false)=_
      rw [hM.getD]
    simp only [Option.map_some,Option.getD_some,e]
theorem PermM.set (h:PermO ops ops' σ τ) (hM:PermM σ M M') (i:Nat):PermM σ (M.setIfInBounds i true) (M'.setIfInBounds (σ i) true):=by
  refine ⟨fun j=>?_⟩
  have hg:=hM.get
  rw [Array.getElem?_setIfInBounds,Array.getElem?_setIfInBounds]
  have hinj:σ i=σ j↔i=j:=⟨fun e=>by rw [←h.ts i,e,h.ts],fun e=>by rw [e]⟩
  have hsz:σ i<M'.size↔i<M.size:=by
    have:=hg i
    constructor
    · intro hi
      rw [Array.getElem?_eq_getElem hi] at this
      exact (Array.getElem?_eq_some_iff.1 this.symm).1
    · intro hi
      rw [Array.getElem?_eq_getElem hi] at this
      exact (Array.getElem?_eq_some_iff.1 this).1
  by_cases e:i=j
  · rw [if_pos e,if_pos (hinj.2 e)]
    by_cases e2:i<M.size
    · rw [if_pos e2,if_pos (hsz.2 e2)]
    · rw [if_neg e2,if_neg (fun x=>e2 (hsz.1 x))]
  · rw [if_neg e,if_neg (fun x=>e (hinj.1 x))];exact hg j
theorem wpAny_ren (h:PermO ops ops' σ τ):∀(fuel:Nat) (M M':Array Bool) (a:Act) (w:World),PermM σ M M'→wpAny P .any ops' Q fuel M' a w→wpAny P .any ops Q fuel M a w:=by
  have nil:∀ {M M':Array Bool},PermM σ M M'→Region.ready .any ops M=[]→Region.ready .any ops' M'=[]:=fun {M M'} hM e=>by
    cases e':Region.ready .any ops' M' with
    | nil=>rfl
    | cons j l =>
      have hj:j∈Region.ready .any ops' M':=by rw [e'];simp
      rw [←h.st j,ready_ren h hM,e] at hj
      cases hj
  have nil':∀ {M M':Array Bool},PermM σ M M'→Region.ready .any ops' M'=[]→Region.ready .any ops M=[]:=fun {M M'} hM e=>by
    cases e':Region.ready .any ops M with
    | nil=>rfl
    | cons j l =>
      have hj:j∈Region.ready .any ops M:=by rw [e'];simp
      rw [←ready_ren h hM,e] at hj
      cases hj
  intro fuel
  induction fuel with
  | zero =>
    intro M M' a w hM hw
    exact ⟨nil' hM hw.1,hw.2⟩
  | succ fuel ih =>
    intro M M' a w hM hw
    refine ⟨fun e=>hw.1 (nil hM e),fun i hi=>?_⟩
    have h2:=hw.2 (σ i) ((ready_ren h hM i).2 hi)
    rw [wpOp_ren h] at h2
    exact wpOp_mono (fun a w k=>ih _ _ a w (hM.set h i) k) h2
theorem PermM.first (h:PermO ops ops' σ τ):PermM σ (Array.replicate ops.size false) (Array.replicate ops'.size false):=by
  refine ⟨fun j=>?_⟩
  rw [Array.getElem?_replicate,Array.getElem?_replicate]
  have:=h.at_ j
  have hs:σ j<ops'.size↔j<ops.size:=by
    constructor
    · intro hi
      rw [Array.getElem?_eq_getElem hi] at this
      cases e:ops[j]? with
      | none=>rw [e] at this;cases this
      | some o=>exact (Array.getElem?_eq_some_iff.1 e).1
    · intro hi
      rw [Array.getElem?_eq_getElem hi] at this
      exact (Array.getElem?_eq_some_iff.1 this).1
  by_cases e:j<ops.size
  · rw [if_pos e,if_pos (hs.2 e)]
  · rw [if_neg e,if_neg (fun x=>e (hs.1 x))]
end
theorem posL_out:∀(s:List Nat) (k i:Nat),(∀x∈s,x≠i)→posL s k i=i
  | [],_,_,_=>rfl
  | x::s,k,i,h=>by
    have hx:Nat.beq x i=false:=by
      cases e:Nat.beq x i with
      | false=>rfl
      | true=>exact absurd (Nat.eq_of_beq_eq_true e) (h x (by simp))
    simp only [posL,hx]
    exact posL_out s (k+1) i fun y hy=>h y (by simp [hy])
theorem chkA_get {s:List Nat} {n:Nat}:∀(l:List Nat) (k:Nat),chkA s n k l=true→∀j x,l[j]?=some x→posL s 0 x=k+j∧x<n
  | [],k,_,j,x,hx=>by simp at hx
  | y::l,k,h,j,x,hx=>by
    simp only [chkA,Bool.and_eq_true] at h
    cases j with
    | zero =>
      simp only [List.getElem?_cons_zero,Option.some.injEq] at hx;subst hx
      exact ⟨Nat.eq_of_beq_eq_true h.1.1,by simpa [Nat.blt_eq] using h.1.2⟩
    | succ j =>
      simp only [List.getElem?_cons_succ] at hx
      have:=chkA_get l (k+1) h.2 j x hx
      exact ⟨by omega,this.2⟩
theorem chkB_get {s:List Nat}:∀(n:Nat),chkB s n=true→∀i,i<n→s[posL s 0 i]?=some i
  | 0,_,i,hi=>by omega
  | n+1,h,i,hi=>by
    simp only [chkB,Bool.and_eq_true] at h
    by_cases e:i=n
    · subst e
      have h1:=h.1
      split at h1
      · rename_i x hx
        rw [hx,Nat.eq_of_beq_eq_true h1]
      · cases h1
    · exact chkB_get n h.2 i (by omega)
theorem pickL_eq (ops:List Oper) (σ:Nat→Nat):∀(s:List Nat),(∀x∈s,x<ops.length)→∀k:Nat,(pickL ops σ s)[k]?=(s[k]?).bind fun i=>(ops[i]?).map (renO σ)
  | [],_,k=>by simp [pickL]
  | x::s,h,k=>by
    have hx:=h x (by simp)
    have hg:getL ops x=some ops[x]:=by rw [getL_eq];exact List.getElem?_eq_getElem hx
    simp only [pickL,hg]
    cases k with
    | zero=>simp [List.getElem?_eq_getElem hx]
    | succ k =>
      rw [List.getElem?_cons_succ,List.getElem?_cons_succ]
      exact pickL_eq ops σ s (fun y hy=>h y (by simp [hy])) k
theorem pickL_len (ops:List Oper) (σ:Nat→Nat):∀(s:List Nat),(∀x∈s,x<ops.length)→(pickL ops σ s).length=s.length
  | [],_=>rfl
  | x::s,h=>by
    have hx:=h x (by simp)
    have hg:getL ops x=some ops[x]:=by rw [getL_eq];exact List.getElem?_eq_getElem hx
    simp only [pickL,hg,List.length_cons]
    rw [pickL_len ops σ s fun y hy=>h y (by simp [hy])]
theorem permO_of {ops:Array Oper} {s:List Nat} (h:permOk s ops.toList.length=true):PermO ops (permL s ops.toList).toArray (posL s 0) fun k=>(s[k]?).getD k:=by
  simp only [permOk,Bool.and_eq_true] at h
  obtain ⟨⟨h1,h2⟩,h3⟩:=h
  have hlen:s.length=ops.toList.length:=Nat.eq_of_beq_eq_true h1
  have hA:=chkA_get s 0 h2
  have hB:=chkB_get _ h3
  have hlt:∀x∈s,x<ops.toList.length:=fun x hx=>by
    obtain ⟨j,hj⟩:=List.getElem?_of_mem hx
    exact (hA j x hj).2
  have hout:∀i,ops.toList.length≤i→posL s 0 i=i:=fun i hi=>posL_out s 0 i fun x hx e=>by have:=hlt x hx;omega
  refine ⟨by show (permL s ops.toList).length=ops.size;unfold permL;rw [pickL_len _ _ _ hlt,hlen];simp,fun i=>?_,fun k=>?_,fun i=>?_⟩
  · show (permL s ops.toList).toArray[posL s 0 i]?=_
    rw [List.getElem?_toArray]
    unfold permL
    rw [pickL_eq _ _ _ hlt]
    by_cases hi:i<ops.toList.length
    · rw [hB i hi]
      show (ops.toList[i]?).map _=_
      rw [Array.getElem?_toList]
    · have e:ops[i]?=none:=by rw [←Array.getElem?_toList];exact List.getElem?_eq_none (by omega)
      rw [hout i (by omega),List.getElem?_eq_none (by omega),e];rfl
  · cases e:s[k]? with
    | some x =>
      show posL s 0 x=k
      have:=(hA k x e).1;omega
    | none =>
      show posL s 0 k=k
      refine hout k ?_
      have:=List.getElem?_eq_none_iff.1 e;omega
  · by_cases hi:i<ops.toList.length
    · show (s[posL s 0 i]?).getD _=i
      rw [hB i hi];rfl
    · show (s[posL s 0 i]?).getD _=i
      rw [hout i (by omega),List.getElem?_eq_none (by omega)];rfl
end Go.Proofs.YtoegffiapnnkiaaGreat.Abs
namespace Go.Proofs.YtoegffiapnnkiaaGreat.Abs
open Go
variable {P:Program} {B:Nat} {μ μ':K→Option Loc} {H H':Hp} {w w1 w':World} {nx nx':K}
theorem Rel.drawn (h:Rel B μ H w) (he:w1.heap=w.heap):Rel B μ H w1 :=
  ⟨fun i b hb=>let ⟨l,h1,h2⟩:=h.at_ i b hb;⟨l,h1,h2.same (by rw [he])⟩,h.own,fun i cs l a b=>(h.view i cs l a b).imp id fun ⟨c,d⟩=>⟨by rw [he];exact c,d⟩,h.inj,by rw [he];exact h.size⟩
theorem Step.drawn (h:Step B μ H nx w1 μ' H' nx' w') (he:w1.heap=w.heap) (h1:w1.os=w.os) (h2:w1.tape=w.tape) (h3:w1.output=w.output):Step B μ H nx w μ' H' nx' w' :=
  ⟨h.ext,h.new,h.rel,fun k hk=>by rw [←he];exact h.owned k hk,fun k hk hn=>by rw [←he];exact h.frame k (by rw [he];exact hk) hn,by rw [←he];exact h.size,h.os.trans h1,h.tape.trans h2,h.output.trans h3,h.nxle,fun k n hk hh=>⟨(h.keep k n (by rw [he];exact hk) hh).1,fun j hj=>((h.keep k n (by rw [he];exact hk) hh).2 j hj).trans (by unfold World.cell?;rw [he])⟩,fun i cs l a b=>by rw [←he];exact h.views i cs l a b⟩
theorem stT_get {tr:List (Tm×St)} {z x:Tm×St} {i:Nat} (h:tr[i]?=some x):stT tr z i=x:=by unfold stT;rw [h];rfl
theorem stT_end (tr:List (Tm×St)) (z:Tm×St):stT tr z tr.length=z:=by unfold stT;rw [List.getElem?_eq_none (Nat.le_refl _)];rfl
theorem line_of {call:Nat→List AV→St→CR} (hC:CallS P call) {ops:Array Oper} {n:Nat} {rows:List (List Bool)} {tr:List (Tm×St)} {tm9:Tm} {s9:St} {q:Nat} (hq:q≤ops.size) (hqt:q≤tr.length) (hrows:rowsOf [] 0 ops.toList=some rows)
    (hgo:∀i o,ops[i]?=some o→i<q→stepO P call ops.toList n o (stT tr (tm9,s9) i).1 (stT tr (tm9,s9) i).2=.go (stT tr (tm9,s9) (i+1)).1 (stT tr (tm9,s9) (i+1)).2)
    (h1:pairs1 P ops.toList rows 0 ops.toList=true) (h2:heldAll P ops.toList rows tr s9 0 ops.toList tr=true) (h3:fltOk P [] ops.toList tr=true):Line P call ops n rows q (stT tr (tm9,s9)) where
  hC:=hC
  le:=hq
  rows_:=hrows
  go:=hgo
  pairs i j oi oj hij hi hj:=by
    have:=pairs1_get ops.toList 0 h1 i j oi oj hij (by rw [Array.getElem?_toList];exact hi) (by rw [Array.getElem?_toList];exact hj)
    simpa using this
  held r o ho hr hc hw:=by
    obtain ⟨t,p,v,e1,e2,e3⟩:=heldAll_get (tm9:=tm9) ops.toList tr 0 h2 r o (by rw [Array.getElem?_toList];exact ho) (by omega) hc hw
    refine ⟨t,p,v,e1,e2,fun m om hom hm hM w1 w2=>?_⟩
    rw [Nat.zero_add] at e3
    exact heldBy_get (tm9:=tm9) ops.toList tr 0 e3 m om (by rw [Array.getElem?_toList];exact hom) (by omega) hM (by rw [Nat.zero_add];exact w1) (by rw [Nat.zero_add];exact w2)
  flt f o ho hf hc j hj:=by
    have hft:f<tr.length:=by omega
    have hjt:j<tr.length:=by omega
    obtain ⟨-,e⟩:=fltOk_get ops.toList tr [] h3 f o tr[f] (by rw [Array.getElem?_toList];exact ho) (List.getElem?_eq_getElem hft) hc
    rw [stT_get (List.getElem?_eq_getElem hft),stT_get (List.getElem?_eq_getElem hjt)]
    exact e j _ hj (List.getElem?_eq_getElem hjt)
theorem inv_first {call:Nat→List AV→St→CR} {ops:Array Oper} {n:Nat} {rows:List (List Bool)} {q:Nat} {st:Nat→Tm×St} (L:Line P call ops n rows q st) {s:St} {tm:Tm} (h0:st 0=(tm,s)) (hR:Rel B μ (T.get s.hp) w) {N9:K} (h9:s.nx.val≤N9.val) {a:Act} (hT:TmR n μ tm a) :
    Inv P B μ s w N9 a.defers ops n q st (Array.replicate ops.size false) 0 (T.get s.hp) μ a w:=by
  have hM:∀j,(Array.replicate ops.size false).getD j false=false:=fun j=>by simp only [Array.getD_eq_getD_getElem?,Array.getElem?_replicate];split<;>rfl
  refine ⟨by simp,fun j o ho hj=>?_,fun j hj=>?_,Nat.zero_le _,fun j o ho hj hm=>?_,fun j o ho hj=>by omega,fun i b=>?_,?_,fun i l hl=>.inl hl,rfl,hT.size,fun i hi t ht v hv=>?_⟩
  · rw [hM] at hj;cases hj
  · rw [hM] at hj;cases hj
  · rw [hM];exact ⟨fun h=>by (cases h),fun h=>by omega⟩
  · rw [h0]
    refine ⟨.inl,fun h=>h.elim id ?_⟩
    rintro ⟨f,-,-,-,h,-⟩
    rw [hM] at h;cases h
  · have:=Step.refl hR s.nx
    exact ⟨this.ext,fun i l h=>.inl h,hR,this.owned,this.frame,this.size,rfl,rfl,rfl,h9,this.keep,this.views⟩
  · rw [L.tm_between (Nat.zero_le i) hi (fun k o _ hk ho hd=>by have:=(ht k o ho hd).2 hk;rw [hM] at this;cases this),h0] at hv
    exact hT.at_ t v hv
theorem drawOps1_mono {call:Nat→List AV→St→CR} (hC:CallS P call) {ops:List Oper} {n:Nat} {tm tm':Tm} {s s':St} {e:Ex} (h:drawOps1 P call ops n tm s=.ok e tm' s'):s.nx.val≤s'.nx.val:=by
  have tr_mono:∀(l:List Oper) (tm:Tm) (s:St) (tr:List (Tm×St)) (v:Option AV) (tm9:Tm) (s9:St),traceA P call ops n l tm s=.ok tr v tm9 s9→s.nx.val≤s9.nx.val:=by
    intro l
    induction l with
    | nil =>
      intro tm s tr v tm9 s9 h
      injection (show TR.ok [] none tm s=.ok tr v tm9 s9 from h) with h1 h2 h3 h4;rw [h4];exact Nat.le_refl _
    | cons o l ih =>
      intro tm s tr v tm9 s9 h
      simp only [traceA] at h
      split at h
      · rename_i tm' s' hst
        split at h
        · rename_i tr' v' tm2 s2 htr
          injection h with h1 h2 h3 h4;subst h4
          exact Nat.le_trans (stepO_mono (v:=.nilFunc) hC (.inl hst)) (ih _ _ _ _ _ _ htr)
        · cases h
      · rename_i u s' hst
        injection h with h1 h2 h3 h4;subst h4
        exact stepO_mono (tm':=tm) hC (.inr hst)
      · cases h
  unfold drawOps1 at h
  split at h
  · rename_i tr v tm9 s9 htr
    have:=tr_mono _ _ _ _ _ _ _ htr
    split at h
    · split at h
      · split at h
        · injection h with h1 h2 h3;rw [←h3];exact this
        · split at h
          · injection h with h1 h2 h3;rw [←h3];exact this
          · cases h
      · cases h
    · cases h
  · cases h
theorem drawOps_mono {call:Nat→List AV→St→CR} (hC:CallS P call) {ops:List Oper} {n:Nat} {tm tm':Tm} {s s':St} {e:Ex} (h:drawOps P call ops n tm s=.ok e tm' s'):s.nx.val≤s'.nx.val:=by
  unfold drawOps at h
  split at h
  · rename_i hh
    injection h with h1 h2 h3;subst h1;subst h2;subst h3
    exact drawOps1_mono hC hh
  · split at h
    · split at h
      · split at h
        · exact drawOps1_mono hC h
        · cases h
      · cases h
    · cases h
theorem draw_any (hN:NoNG P) {call:Nat→List AV→St→CR} (hC:CallS P call) {ops:Array Oper} {n:Nat} {tm tm':Tm} {s s':St} {e:Ex} {a:Act} (h:drawOps1 P call ops.toList n tm s=.ok e tm' s') (hR':Rel B μ (T.get s.hp) w1) (hf:Fresh μ s.nx s'.nx) (hT:TmR n μ tm a)
    {Q:Exit→Act→World→Prop} (hQ':∀x a' w',Post B μ s w1 n a.defers e tm' s' x a' w'→Q x a' w'):wpAny P .any ops Q ops.size (Array.replicate ops.size false) a w1:=by
  have hmono:=drawOps1_mono hC h
  unfold drawOps1 at h
  split at h
  case h_2=>cases h
  rename_i tr v tm9 s9 htr
  split at h
  case h_2=>cases h
  rename_i rows hrows
  split at h
  case h_2=>cases h
  rename_i hb
  simp only [Bool.and_eq_true] at hb
  obtain ⟨⟨b1,b2⟩,b3⟩:=hb
  obtain ⟨t1,t2,t3,t4⟩:=trace_get ops.toList tm s tr v tm9 s9 htr
  have hcnt:(Array.replicate ops.size false).toList.count false≤ops.size:=by simp
  split at h
  · injection h with h1 h2 h3;subst h1;subst h2;subst h3
    have hlen:tr.length=ops.size:=by rw [t2 rfl];simp
    have L:Line P call ops n rows ops.size (stT tr (tm9,s9)):=line_of hC (Nat.le_refl _) (by omega) hrows (fun i o ho hi=>t4 i o (by rw [Array.getElem?_toList];exact ho) (.inr ⟨by omega,rfl⟩)) b1 b2 b3
    have hend:stT tr (tm9,s9) ops.size=(tm9,s9):=by rw [←hlen];exact stT_end _ _
    have h0:∀j,j≤ops.size→s.nx.val≤(stT tr (tm9,s9) j).2.nx.val:=fun j hj=>by
      have:=L.nx_le (Nat.zero_le j) hj
      rw [t1] at this;exact this
    refine drawn_ok hN L rfl hf h0 (by rw [hend]) (ds:=a.defers) (B:=B) (w0:=w1) (fun a' w' hp=>hQ' _ _ _ ?_) ops.size _ 0 _ _ a w1 hcnt (inv_first L t1 hR' hmono hT)
    rw [hend] at hp
    exact hp
  · rename_i u
    split at h
    case h_2=>cases h
    rename_i hl
    injection h with h1 h2 h3;subst h1;subst h2;subst h3
    simp only [Bool.and_eq_true] at hl
    obtain ⟨hl1,hl2⟩:=hl
    obtain ⟨p,o,r1,r2,r3⟩:=t3 u rfl
    have hp1:tr.length-1=p:=by omega
    rw [hp1] at hl1 hl2
    have ho:ops[p]?=some o:=by rw [←Array.getElem?_toList];exact r2
    rw [getL_eq,r2] at hl2
    have hps:p<ops.size:=(Array.getElem?_eq_some_iff.1 ho).1
    have L:Line P call ops n rows p (stT tr (tm9,s9)):=line_of hC (by omega) (by omega) hrows (fun i o ho hi=>t4 i o (by rw [Array.getElem?_toList];exact ho) (.inl (by omega))) b1 b2 b3
    have h0:∀j,j≤p→s.nx.val≤(stT tr (tm9,s9) j).2.nx.val:=fun j hj=>by
      have:=L.nx_le (Nat.zero_le j) hj
      rw [t1] at this;exact this
    refine drawn_pan hN L ho r3 hl2 (fun j oj hj=>?_) hf h0 (ds:=a.defers) (B:=B) (w0:=w1) (tm9:=tm9) hQ' ops.size _ 0 _ _ a w1 hcnt (inv_first L t1 hR' hmono hT)
    have:=lastAt_get ops.toList 0 hl1 j oj (by rw [Array.getElem?_toList];exact hj)
    simpa using this
theorem draw_wp (hN:NoNG P) (hmix:P.follows .mixedOrders=true) {call:Nat→List AV→St→CR} (hC:CallS P call) {ops:Array Oper} {n:Nat} {id:Nat} {tm tm':Tm} {s s':St} {e:Ex} {a:Act} (h:drawOps P call ops.toList n tm s=.ok e tm' s') (hR:Rel B μ (T.get s.hp) w) (hf:Fresh μ s.nx s'.nx) (hT:TmR n μ tm a)
    {Q:Exit→Act→World→Prop} (hQ:∀x a' w',Post B μ s w n a.defers e tm' s' x a' w'→Q x a' w'):(Code.region id ops true).wp P Q a w:=by
  have hmono:=drawOps_mono hC h
  refine wp_region_any hmix ?_
  have hR':Rel B μ (T.get s.hp) { w with drawn:=w.drawn+1 }:=hR.drawn rfl
  have hQ':∀x a' w',Post B μ s { w with drawn:=w.drawn+1 } n a.defers e tm' s' x a' w'→Q x a' w':=fun x a' w' ⟨μ',h1,h2⟩=>hQ x a' w' ⟨μ',h1.drawn rfl rfl rfl rfl,h2⟩
  generalize { w with drawn:=w.drawn+1 }=w1 at hR' hQ'
  unfold drawOps at h
  split at h
  · rename_i hh
    injection h with h1 h2 h3;subst h1;subst h2;subst h3
    exact draw_any hN hC hh hR' hf hT hQ'
  · split at h
    · split at h
      · split at h
        · rename_i hp
          have hperm:=permO_of hp
          have h9:=draw_any (ops:=(permL _ ops.toList).toArray) hN hC h hR' hf hT hQ'
          have h8:=wpAny_ren hperm _ _ _ a w1 (PermM.first hperm) h9
          rw [hperm.size] at h8
          exact h8
        · cases h
      · cases h
    · cases h
end Go.Proofs.YtoegffiapnnkiaaGreat.Abs
namespace Go.Proofs.YtoegffiapnnkiaaGreat.Abs
open Go
variable {P:Program} {B:Nat} {μ μ':K→Option Loc} {H H':Hp} {w w1 w':World} {nx nx':K}
def Runs (P:Program) (ex:Nat→Cd→Tm→St→Out) (c:Code):Prop:=∀n tm s e tm' s',ex n (.code c) tm s=.ok e tm' s'→∀B μ w a (Q:Exit→Act→World→Prop),Rel B μ (T.get s.hp) w→Fresh μ s.nx s'.nx→TmR n μ tm a →
  (∀x a' w',Post B μ s w n a.defers e tm' s' x a' w'→Q x a' w')→c.wp P Q a w
def Mono (ex:Nat→Cd→Tm→St→Out):Prop:=∀n d tm s e tm' s',ex n d tm s=.ok e tm' s'→s.nx.val≤s'.nx.val
def Rounds (P:Program) (ex:Nat→Cd→Tm→St→Out) (k:Nat) (c:Code):Prop:=∀n tm s e tm' s',ex n (.code (.loop c)) tm s=.ok e tm' s'→∀B μ w a (Q:Exit→Act→World→Prop),Rel B μ (T.get s.hp) w→Fresh μ s.nx s'.nx→TmR n μ tm a →
  (∀x a' w',Post B μ s w n a.defers e tm' s' x a' w'→Q x a' w')→Code.rounds P c Q k a w
def Unders (P:Program) (ex:Nat→Cd→Tm→St→Out) (body c:Code):Prop:=∀n tm s e tm' s',ex n (.under body c) tm s=.ok e tm' s'→∀B μ w a (Q:Exit→Act→World→Prop),Rel B μ (T.get s.hp) w→Fresh μ s.nx s'.nx→TmR n μ tm a →
  (∀x a' w',Post B μ s w n a.defers e tm' s' x a' w'→Q x a' w')→∀(b:Frame) (k:List Item) (cs:List Frame),∃e a' w',Q e a' w'∧Arrives P (lone (b.at a (.code c::.inScope body::k)) cs w) b k cs e a' w'
structure Snd (P:Program) (ex:Nat→Cd→Tm→St→Out) (k:Nat):Prop where
  mono:Mono ex
  code:∀c,Runs P ex c
  loop:∀c,Rounds P ex k c
  under:∀body c,Unders P ex body c
theorem exR_normal {e:Ex} {x:Exit} (h:ExR μ e x):(e=.nrm∧x=.normal)∨(e≠.nrm∧x≠.normal):=by
  cases e<;>cases x<;>first|exact h.elim|exact .inl ⟨rfl,rfl⟩|exact .inr ⟨fun h=>(by cases h),fun h=>(by cases h)⟩
theorem thenO_ok {r:Out} {k:Tm→St→Out} {e:Ex} {tm:Tm} {s:St} (h:thenO r k=.ok e tm s):(∃tm1 s1,r=.ok .nrm tm1 s1∧k tm1 s1=.ok e tm s)∨(e≠.nrm∧r=.ok e tm s):=by
  cases r with
  | no=>cases h
  | ok e1 tm1 s1 =>
    cases e1 with
    | nrm=>exact .inl ⟨tm1,s1,rfl,h⟩
    | _ =>
      injection (show Out.ok _ tm1 s1=.ok e tm s from h) with h1 h2 h3
      subst h1;subst h2;subst h3
      exact .inr ⟨fun h=>(by cases h),rfl⟩
theorem blockO_ok {id:Nat} {r:Out} {e:Ex} {tm:Tm} {s:St} (h:blockO id r=.ok e tm s):(e=.nrm∧r=.ok (.exit id) tm s)∨(r=.ok e tm s∧e≠.exit id):=by
  unfold blockO at h
  split at h
  · rename_i i tm1 s1
    split at h
    · rename_i hb
      injection h with h1 h2 h3;subst h1;subst h2;subst h3
      rw [Nat.beq_eq.mp hb]
      exact .inl ⟨rfl,rfl⟩
    · rename_i hb
      injection h with h1 h2 h3;subst h1;subst h2;subst h3
      refine .inr ⟨rfl,fun e=>?_⟩
      injection e with e
      rw [e,Nat.beq_refl] at hb;cases hb
  · rename_i hne
    refine .inr ⟨h,fun e'=>?_⟩
    subst e'
    exact hne _ _ _ h
theorem condO_ok {x:Option AV} {a b:Out} {e:Ex} {tm:Tm} {s:St} (h:condO x a b=.ok e tm s):∃c,x=some (.bool c)∧(if c then a else b)=.ok e tm s:=by
  have h:@Option.rec Bool (fun _=>Out) .no (fun c=>@Bool.rec (fun _=>Out) b a c) (optK asBool x)=.ok e tm s:=h
  cases hx:optK asBool x with
  | none=>rw [hx] at h;cases h
  | some c =>
    rw [hx] at h
    obtain ⟨u,hu,hc⟩:=optK_some hx
    refine ⟨c,by rw [hu,asBool_some hc],?_⟩
    cases c<;>exact h
theorem underO_ok {body:Code} {ih:Cd→Tm→St→Out} {r:Out} {e:Ex} {tm:Tm} {s:St} (h:underO body ih r=.ok e tm s):(∃l tm1 s1 rest,r=.ok (.goto l) tm1 s1∧findLabel body l=some rest∧ih (.under body rest) tm1 s1=.ok e tm s)∨(r=.ok e tm s∧∀l,e≠.goto l):=by
  unfold underO at h
  split at h
  · rename_i l tm1 s1
    split at h
    · rename_i rest hr
      exact .inl ⟨l,tm1,s1,rest,rfl,hr,h⟩
    · cases h
  · rename_i hne
    refine .inr ⟨h,fun l e'=>?_⟩
    subst e'
    exact hne _ _ _ h
theorem region_mono {call:Nat→List AV→St→CR} (hC:CallS P call) {ops:List Oper} {n:Nat} {tm tm':Tm} {s s':St} {e:Ex} {d:Bool} (h:@Bool.rec (fun _=>Out) (runOps P call ops n ops tm s) (drawOps P call ops n tm s) d=.ok e tm' s'):s.nx.val≤s'.nx.val:=by
  cases d with
  | false=>exact runOps_mono hC _ _ _ _ _ _ h
  | true=>exact drawOps_mono hC h
theorem region_wp (hN:NoNG P) (hmix:P.follows .mixedOrders=true) {call:Nat→List AV→St→CR} (hC:CallS P call) {ops:Array Oper} {n id:Nat} {tm tm':Tm} {s s':St} {e:Ex} {d:Bool} (h:@Bool.rec (fun _=>Out) (runOps P call ops.toList n ops.toList tm s) (drawOps P call ops.toList n tm s) d=.ok e tm' s') {a:Act} (hR:Rel B μ (T.get s.hp) w) (hf:Fresh μ s.nx s'.nx) (hT:TmR n μ tm a)
    {Q:Exit→Act→World→Prop} (hQ:∀x a' w',Post B μ s w n a.defers e tm' s' x a' w'→Q x a' w'):(Code.region id ops d).wp P Q a w:=by
  cases d with
  | false =>
    refine wp_region ?_
    have:=runOps_wp hN hC ops.toList 0 s s' tm tm' e a w μ rfl h hR hf hT hQ
    rw [List.range_eq_range']
    simpa using this
  | true=>exact draw_wp hN hmix hC h hR hf hT hQ
theorem then_wp {ex:Nat→Cd→Tm→St→Out} {x:Code} (hx:Runs P ex x) {n:Nat} {tm tm':Tm} {s s':St} {e:Ex} {k:Tm→St→Out} (hk:∀tm s e tm' s',k tm s=.ok e tm' s'→s.nx.val≤s'.nx.val) (h:thenO (ex n (.code x) tm s) k=.ok e tm' s') {a:Act} (hR:Rel B μ (T.get s.hp) w) (hf:Fresh μ s.nx s'.nx) (hT:TmR n μ tm a)
    {Q:Exit→Act→World→Prop} (hQ:∀x a' w',Post B μ s w n a.defers e tm' s' x a' w'→Q x a' w') {K:Act→World→Prop}
    (hK:∀tm1 s1 μ1 a1 w1,k tm1 s1=.ok e tm' s'→Rel B μ1 (T.get s1.hp) w1→Fresh μ1 s1.nx s'.nx→TmR n μ1 tm1 a1→(∀x a' w',Post B μ1 s1 w1 n a1.defers e tm' s' x a' w'→Q x a' w')→K a1 w1):x.wp P (Exit.then K Q) a w:=by
  rcases thenO_ok h with ⟨tm1,s1,h1,h2⟩|⟨hne,h1⟩
  · have m2:=hk _ _ _ _ _ h2
    refine hx n tm s .nrm tm1 s1 h1 B μ w a _ hR (hf.left m2) hT fun x a1 w1 hp=>?_
    obtain ⟨μ1,p1,p2,p3,p4⟩:=hp
    rcases exR_normal p2 with ⟨-,rfl⟩|⟨h,-⟩
    · refine hK tm1 s1 μ1 a1 w1 h2 p1.rel (hf.right p1) (p4 rfl) fun x a2 w2 hp=>hQ x a2 w2 ?_
      rw [p3] at hp
      exact hp.trans p1
    · exact absurd rfl h
  · refine hx n tm s e tm' s' h1 B μ w a _ hR hf hT fun x a1 w1 hp=>?_
    have:=hQ x a1 w1 hp
    obtain ⟨μ1,p1,p2,-⟩:=hp
    rcases exR_normal p2 with ⟨h,-⟩|⟨-,h⟩
    · exact absurd h hne
    · cases x<;>first|exact absurd rfl h|exact this
theorem snd_zero (g:Cg):Snd P (exec P g 0) 0 :=
  ⟨fun _ _ _ _ _ _ _ h=>(by cases h),fun _ _ _ _ _ _ _ h=>(by cases h),fun _ _ _ _ _ _ _ h=>(by cases h),fun _ _ _ _ _ _ _ _ h=>(by cases h)⟩
theorem snd_succ (hN:NoNG P) (hmix:P.follows .mixedOrders=true) {g:Cg} {k:Nat} (hC:CallS P (callA P g (exec P g k))) (S:Snd P (exec P g k) k):Snd P (exec P g (k+1)) (k+1):=by
  have hcm:∀n c tm s e tm' s',codeStep c P g (exec P g k) n tm s=.ok e tm' s'→s.nx.val≤s'.nx.val:=by
    intro n c tm s e tm' s' h
    have same:∀ {e1:Ex},Out.ok e1 tm s=.ok e tm' s'→s.nx.val≤s'.nx.val:=fun h=>by injection h with h1 h2 h3;rw [h3];exact Nat.le_refl _
    cases c with
    | skip=>exact same h
    | label l=>exact same h
    | exit id=>exact same h
    | goto l=>exact same h
    | ret=>exact same h
    | region id ops d=>exact region_mono hC h
    | seq x y =>
      rcases thenO_ok h with ⟨tm1,s1,h1,h2⟩|⟨-,h1⟩
      · exact Nat.le_trans (S.mono _ _ _ _ _ _ _ h1) (S.mono _ _ _ _ _ _ _ h2)
      · exact S.mono _ _ _ _ _ _ _ h1
    | loop x =>
      rcases thenO_ok h with ⟨tm1,s1,h1,h2⟩|⟨-,h1⟩
      · exact Nat.le_trans (S.mono _ _ _ _ _ _ _ h1) (S.mono _ _ _ _ _ _ _ h2)
      · exact S.mono _ _ _ _ _ _ _ h1
    | cond x y z =>
      obtain ⟨c,-,h⟩:=condO_ok h
      cases c<;>exact S.mono _ _ _ _ _ _ _ h
    | block id x =>
      rcases blockO_ok h with ⟨-,h⟩|⟨h,-⟩<;>exact S.mono _ _ _ _ _ _ _ h
    | scope x=>exact S.mono _ _ _ _ _ _ _ h
    | _=>cases h
  have hm:Mono (exec P g (k+1)):=by
    intro n d tm s e tm' s' h
    cases d with
    | code c=>exact hcm n c tm s e tm' s' h
    | under body c =>
      rcases underO_ok (show underO body (exec P g k n) (exec P g k n (.code c) tm s)=.ok e tm' s' from h) with ⟨l,tm1,s1,rest,h1,-,h2⟩|⟨h1,-⟩
      · exact Nat.le_trans (S.mono _ _ _ _ _ _ _ h1) (S.mono _ _ _ _ _ _ _ h2)
      · exact S.mono _ _ _ _ _ _ _ h1
  have hloop:∀c,Rounds P (exec P g (k+1)) (k+1) c:=by
    intro c n tm s e tm' s' h B μ w a Q hR hf hT hQ
    rw [rounds_succ]
    refine then_wp (S.code c) (fun tm s e tm' s' h=>S.mono _ _ _ _ _ _ _ h) (show thenO (exec P g k n (.code c) tm s) (exec P g k n (.code (.loop c)))=.ok e tm' s' from h) hR hf hT hQ fun tm1 s1 μ1 a1 w1 h2 hR1 hf1 hT1 hQ1=>?_
    exact S.loop c n tm1 s1 e tm' s' h2 B μ1 w1 a1 Q hR1 hf1 hT1 hQ1
  have here:∀ {n tm s a w} {B:Nat} {μ:K→Option Loc},Rel B μ (T.get s.hp) w→TmR n μ tm a→∀ {e x},ExR μ e x→Post B μ s w n a.defers e tm s x a w:=fun hR hT _ _ hx=>⟨_,Step.refl hR _,hx,rfl,fun _=>hT⟩
  refine ⟨hm,fun c=>?_,hloop,fun body c=>?_⟩
  · intro n tm s e tm' s' h B μ w a Q hR hf hT hQ
    cases c with
    | skip =>
      injection (show Out.ok .nrm tm s=.ok e tm' s' from h) with h1 h2 h3;subst h1;subst h2;subst h3
      exact wp_skip (hQ _ _ _ (here hR hT trivial))
    | label l =>
      injection (show Out.ok .nrm tm s=.ok e tm' s' from h) with h1 h2 h3;subst h1;subst h2;subst h3
      exact wp_label (hQ _ _ _ (here hR hT trivial))
    | exit id =>
      injection (show Out.ok (.exit id) tm s=.ok e tm' s' from h) with h1 h2 h3;subst h1;subst h2;subst h3
      exact wp_exit (hQ _ _ _ (here hR hT rfl))
    | goto l =>
      injection (show Out.ok (.goto l) tm s=.ok e tm' s' from h) with h1 h2 h3;subst h1;subst h2;subst h3
      exact wp_goto (hQ _ _ _ (here hR hT rfl))
    | ret =>
      injection (show Out.ok .ret tm s=.ok e tm' s' from h) with h1 h2 h3;subst h1;subst h2;subst h3
      exact wp_ret (hQ _ _ _ (here hR hT trivial))
    | region id ops d=>exact region_wp hN hmix hC h hR hf hT hQ
    | seq x y =>
      refine wp_seq ?_
      refine then_wp (S.code x) (fun tm s e tm' s' h=>S.mono _ _ _ _ _ _ _ h) (show thenO (exec P g k n (.code x) tm s) (exec P g k n (.code y))=.ok e tm' s' from h) hR hf hT hQ fun tm1 s1 μ1 a1 w1 h2 hR1 hf1 hT1 hQ1=>?_
      exact S.code y n tm1 s1 e tm' s' h2 B μ1 w1 a1 Q hR1 hf1 hT1 hQ1
    | loop x=>exact wp_loop_rounds (k+1) (hloop x n tm s e tm' s' h B μ w a Q hR hf hT hQ)
    | cond x y z =>
      obtain ⟨c,hc,h⟩:=condO_ok (show condO (ev tm x) (exec P g k n (.code y) tm s) (exec P g k n (.code z) tm s)=.ok e tm' s' from h)
      refine wp_cond (t:=c) (conc_bool (hT.ev x _ hc)) ?_
      cases c with
      | true=>exact S.code y n tm s e tm' s' h B μ w a Q hR hf hT hQ
      | false=>exact S.code z n tm s e tm' s' h B μ w a Q hR hf hT hQ
    | block id x =>
      refine wp_block ?_
      rcases blockO_ok (show blockO id (exec P g k n (.code x) tm s)=.ok e tm' s' from h) with ⟨rfl,hb⟩|⟨hb,hne⟩
      · refine S.code x n tm s _ tm' s' hb B μ w a _ hR hf hT fun x a1 w1 hp=>?_
        obtain ⟨μ1,p1,p2,p3,p4⟩:=hp
        cases x with
        | exit j =>
          have p2:id=j:=p2
          subst p2
          simp only [Exit.inBlock,if_true]
          exact hQ _ _ _ ⟨μ1,p1,trivial,p3,fun _=>p4 rfl⟩
        | _=>exact p2.elim
      · refine S.code x n tm s _ tm' s' hb B μ w a _ hR hf hT fun x a1 w1 hp=>?_
        have hq:=hQ x a1 w1 hp
        obtain ⟨μ1,p1,p2,p3,p4⟩:=hp
        cases x with
        | exit j =>
          cases e with
          | exit i =>
            have p2:i=j:=p2
            subst p2
            have:i≠id:=fun e=>hne (by rw [e])
            simp only [Exit.inBlock,if_neg this]
            exact hq
          | _=>exact p2.elim
        | _=>exact hq
    | scope x =>
      intro b k' cs
      obtain ⟨e1,a1,w1,q1,q2⟩:=S.under x x n tm s e tm' s' h B μ w a Q hR hf hT hQ b k' cs
      exact ⟨e1,a1,w1,q1,.of_steps (.one step_scope) q2⟩
    | _=>cases h
  · intro n tm s e tm' s' h B μ w a Q hR hf hT hQ b k' cs
    rcases underO_ok (show underO body (exec P g k n) (exec P g k n (.code c) tm s)=.ok e tm' s' from h) with ⟨l,tm1,s1,rest,h1,hl,h2⟩|⟨h1,hne⟩
    · have m2:=S.mono _ _ _ _ _ _ _ h2
      obtain ⟨x,a1,w1,⟨μ1,p1,p2,p3,p4⟩,harr⟩:=S.code c n tm s _ tm1 s1 h1 B μ w a (fun x a' w'=>Post B μ s w n a.defers (.goto l) tm1 s1 x a' w') hR (hf.left m2) hT (fun _ _ _ h=>h) b (.inScope body::k') cs
      cases x with
      | goto j =>
        have p2:l=j:=p2
        subst p2
        obtain ⟨e2,a2,w2,q1,q2⟩:=S.under body rest n tm1 s1 e tm' s' h2 B μ1 w1 a1 Q p1.rel (hf.right p1) (p4 rfl) (fun x a2 w2 hp=>hQ x a2 w2 (by rw [p3] at hp;exact hp.trans p1)) b k' cs
        exact ⟨e2,a2,w2,q1,.of_steps (harr _ (by simp [gotoIn,hl])) q2⟩
      | _=>exact p2.elim
    · obtain ⟨x,a1,w1,hp,harr⟩:=S.code c n tm s e tm' s' h1 B μ w a (fun x a' w'=>Post B μ s w n a.defers e tm' s' x a' w') hR hf hT (fun _ _ _ h=>h) b (.inScope body::k') cs
      have hq:=hQ x a1 w1 hp
      obtain ⟨μ1,p1,p2,p3,p4⟩:=hp
      cases x with
      | normal=>exact ⟨.normal,a1,w1,hq,Steps.trans harr (.one step_inScope)⟩
      | exit id=>exact ⟨.exit id,a1,w1,hq,fun k2 hk=>harr k2 (by simp [exitTo,hk])⟩
      | goto l =>
        cases e with
        | goto i=>exact absurd rfl (hne i)
        | _=>exact p2.elim
      | ret=>exact ⟨_,a1,w1,hq,harr⟩
      | panic ch=>exact ⟨_,a1,w1,hq,harr⟩
      | outgrown=>exact ⟨_,a1,w1,hq,harr⟩
end Go.Proofs.YtoegffiapnnkiaaGreat.Abs
namespace Go.Proofs.YtoegffiapnnkiaaGreat.Abs
open Go
variable {P:Program} {B:Nat} {μ μ':K→Option Loc} {H H':Hp} {w w1 w':World} {nx nx':K}
theorem startA_eq (ih:Nat→Cd→Tm→St→Out) (n:Nat) (c:Code) (tm:Tm) (s:St):startA ih n c tm s=ih n (.code c) tm s:=by cases n<;>rfl
theorem setArgs_get:∀(l:List AV) (i:Nat) (t:T AV) (j:Nat),T.get (setArgs i l t) (K.of j)=if i≤j∧j<i+l.length then l[j-i]? else T.get t (K.of j)
  | [],i,t,j=>by rw [if_neg (fun h=>by have:=h.2;simp at this;omega)];rfl
  | v::vs,i,t,j=>by
    show T.get (setArgs (i+1) vs (T.set t (K.of i) v)) (K.of j)=_
    rw [setArgs_get vs (i+1) _ j,T.get_set]
    by_cases h:i+1≤j∧j<i+1+vs.length
    · rw [if_pos h,if_pos (by simp;omega)]
      rw [show j-i=(j-(i+1))+1 by omega,List.getElem?_cons_succ]
    · rw [if_neg h]
      by_cases e:j=i
      · subst e
        rw [if_pos rfl,if_pos (by simp)]
        simp
      · rw [if_neg (fun e'=>e (K.of_inj e')),if_neg (by simp;omega)]
theorem lenL_length {α:Type}:∀(l:List α),lenL l=l.length
  | []=>rfl
  | _::l=>by show Nat.succ (lenL l)=_;rw [lenL_length l];rfl
theorem tmR_args {args:List AV} {cargs:List Value} (h:concL μ args=some cargs) (m:Nat):TmR (max m (lenL args)) μ (setArgs 0 args .e) { tmps:=cargs.toArray++Array.replicate (m-cargs.toArray.size) undef,defers:=[] }:=by
  have hlen:=concL_length _ _ h
  refine ⟨by rw [lenL_length];simp [hlen];omega,fun t v hv=>?_⟩
  rw [setArgs_get] at hv
  split at hv
  · rename_i hb
    obtain ⟨c,h1,h2⟩:=concL_get _ _ _ _ h hv
    refine ⟨c,h2,?_⟩
    have hlt:t<cargs.length:=by omega
    simp only [Nat.sub_zero] at h1
    rw [Array.getElem?_append_left (by simpa using hlt)]
    simpa using h1
  · rw [T.get_e] at hv;cases hv
theorem loadVar_of {t:TypeId} {c x:Value} (h:(Instr.loadAt t c).run P w=.ok x w) (hp:∃a,c=.pointer (some a)):(do loadVar t (←asAddr c):Sem Value).run P w=.ok x w:=by
  obtain ⟨a,rfl⟩:=hp
  simpa [Instr.loadAt,Instr.sureAddr,asAddr] using h
theorem resA_run {n:Nat} {tm:Tm} {s:St} {a:Act} (hR:Rel B μ (T.get s.hp) w) (hT:TmR n μ tm a):∀(rs:List ResultVar) (vs:List AV),resA P tm s rs=some vs →
    ∃cs,concL μ vs=some cs∧∀(f:ResultVar→Sem Value),(∀u,f (.tmp u)=pure (a.tmps.getD u undef))→(∀p t,f (.cell p t)=(do loadVar t (←asAddr (a.tmps.getD p undef))))→(rs.mapM f).run P w=.ok cs w
  | [],vs,h=>by
    injection (show some []=some vs from h) with h;subst h
    exact ⟨[],rfl,fun f _ _=>by simp⟩
  | r::rs,vs,h=>by
    simp only [resA] at h
    split at h
    · rename_i v us hv hus
      injection h with h;subst h
      obtain ⟨cs,h1,h2⟩:=resA_run hR hT rs us hus
      have key:∃c,conc μ v=some c∧∀(f:ResultVar→Sem Value),(∀u,f (.tmp u)=pure (a.tmps.getD u undef))→(∀p t,f (.cell p t)=(do loadVar t (←asAddr (a.tmps.getD p undef))))→(f r).run P w=.ok c w:=by
        cases r with
        | tmp t =>
          obtain ⟨c,h3,h4⟩:=hT.at_ t v hv
          refine ⟨c,h3,fun f hf hc=>?_⟩
          rw [hf]
          simp [Array.getD_eq_getD_getElem?,h4]
        | cell p t =>
          have hv:opLoad P t (T.get tm (K.of p)) s=some v:=hv
          obtain ⟨q,hq,hld⟩:=optK_some hv
          obtain ⟨u,hu,hq⟩:=optK_some hq
          have:=asPtr_some hq
          subst this
          obtain ⟨c,h3,h4⟩:=hT.at_ p _ hu
          obtain ⟨ds,hds,hld⟩:=optK_some hld
          obtain ⟨b,hb,hbl⟩:=optK_some hds
          obtain ⟨x,h5,h6⟩:=loadAt_run hR hb hbl hld h3
          obtain ⟨l,-,rfl⟩:=conc_ptr h3
          refine ⟨x,h5,fun f hf hc=>?_⟩
          rw [hc,show a.tmps.getD p undef=Value.pointer (some (ptrV l q.2)) by simp [Array.getD_eq_getD_getElem?,h4]]
          exact loadVar_of h6 ⟨_,rfl⟩
      obtain ⟨c,h3,h4⟩:=key
      exact ⟨c::cs,by simp [concL,h1,h3],fun f hf hc=>by simp [List.mapM_cons,h4 f hf hc,h2 f hf hc]⟩
    · cases h
theorem results_run {n:Nat} {tm:Tm} {s:St} {a:Act} (hR:Rel B μ (T.get s.hp) w) (hT:TmR n μ tm a) {fn:Func} {vs:List AV} (h:resA P tm s fn.results.toList=some vs):∃c,conc μ (oneOr vs)=some c∧(results fn a.tmps).run P w=.ok c w:=by
  have hrs:fn.results=fn.results.toList.toArray:=by simp
  generalize fn.results.toList=rs at hrs h
  unfold results
  rw [hrs,List.mapM_toArray]
  simp only [Sem.run_bind,Sem.run_map]
  obtain ⟨cs,h1,h2⟩:=resA_run hR hT rs vs h
  rw [h2 _ (fun _=>rfl) (fun _ _=>rfl)]
  have hlen:=concL_length _ _ h1
  match vs,cs,h1,hlen with
  | [],[],_,_=>exact ⟨_,rfl,by simp⟩
  | [v],[c],h1,_ =>
    simp only [concL,Option.bind_eq_some_iff,Option.map_eq_some_iff] at h1
    obtain ⟨x,h3,l,h4,h5⟩:=h1
    injection h4 with h4;subst h4
    injection h5 with h5 h6;subst h5
    exact ⟨x,h3,by simp⟩
  | v::v2::vs,c::c2::cs,h1,_=>exact ⟨_,by show (concL μ (v::v2::vs)).map _=_;rw [h1];rfl,by simp⟩
def RetS (B:Nat) (μ:K→Option Loc) (s:St) (w:World) (v:AV) (s':St) (e:Ending) (w':World):Prop:=∃μ' c,Step B μ (T.get s.hp) s.nx w μ' (T.get s'.hp) s'.nx w'∧conc μ' v=some c∧e=.returned c
def PanS (B:Nat) (μ:K→Option Loc) (s:St) (w:World) (v:AV) (s':St) (e:Ending) (w':World):Prop:=∃μ' c,Step B μ (T.get s.hp) s.nx w μ' (T.get s'.hp) s'.nx w'∧conc μ' v=some c∧e=.panicked [{ v:=c,recovered:=false }]
theorem body_inv {ih:Nat→Cd→Tm→St→Out} {f:Nat} {args:List AV} {s:St} {r:CR} (h:callBody P ih f args s=r) (hr:r≠.no):∃fn c e tm s',P.funcs[f]?=some fn∧fn.body=some c∧ih (max fn.ntmps (lenL args)) (.code c) (setArgs 0 args .e) s=.ok e tm s' ∧
    (((e=.nrm∨e=.ret)∧∃vs,resA P tm s' fn.results.toList=some vs∧r=.ret (oneOr vs) s')∨∃v,e=.pan v∧r=.pan v s'):=by
  unfold callBody at h
  split at h
  · rename_i fn hfn
    rw [getL_eq,Array.getElem?_toList] at hfn
    split at h
    · rename_i c hc
      rw [startA_eq] at h
      split at h
      · rename_i tm s' hst
        split at h
        · rename_i vs hvs
          exact ⟨fn,c,_,tm,s',hfn,hc,hst,.inl ⟨.inl rfl,vs,hvs,h.symm⟩⟩
        · exact absurd h.symm hr
      · rename_i tm s' hst
        split at h
        · rename_i vs hvs
          exact ⟨fn,c,_,tm,s',hfn,hc,hst,.inl ⟨.inr rfl,vs,hvs,h.symm⟩⟩
        · exact absurd h.symm hr
      · rename_i v tm s' hst
        exact ⟨fn,c,_,tm,s',hfn,hc,hst,.inr ⟨v,rfl,h.symm⟩⟩
      · exact absurd h.symm hr
    · exact absurd h.symm hr
  · exact absurd h.symm hr
theorem body_mono {ih:Nat→Cd→Tm→St→Out} {k:Nat} (S:Snd P ih k) {f:Nat} {args:List AV} {s s':St} {v:AV} (h:callBody P ih f args s=.ret v s'∨callBody P ih f args s=.pan v s'):s.nx.val≤s'.nx.val:=by
  rcases h with h|h
  · obtain ⟨fn,c,e,tm,s1,-,-,h3,h4⟩:=body_inv h (fun h=>by cases h)
    have:=S.mono _ _ _ _ _ _ _ h3
    rcases h4 with ⟨-,vs,-,h4⟩|⟨v,-,h4⟩
    · injection h4 with h5 h6;rw [h6];exact this
    · cases h4
  · obtain ⟨fn,c,e,tm,s1,-,-,h3,h4⟩:=body_inv h (fun h=>by cases h)
    have:=S.mono _ _ _ _ _ _ _ h3
    rcases h4 with ⟨-,vs,-,h4⟩|⟨v,-,h4⟩
    · cases h4
    · injection h4 with h5 h6;rw [h6];exact this
theorem body_ret {ih:Nat→Cd→Tm→St→Out} {k:Nat} (S:Snd P ih k) {f:Nat} {args:List AV} {s s':St} {v:AV} (h:callBody P ih f args s=.ret v s') {cargs:List Value} (hR:Rel B μ (T.get s.hp) w) (hf:Fresh μ s.nx s'.nx) (hc:concL μ args=some cargs):Calls P f cargs.toArray w (RetS B μ s w v s'):=by
  obtain ⟨fn,c,e,tm,s1,h1,h2,h3,h4⟩:=body_inv h (fun h=>by cases h)
  rcases h4 with ⟨he,vs,hvs,h4⟩|⟨v,-,h4⟩
  · injection h4 with h5 h6;subst h5;subst h6
    refine calls_of_wp h1 h2 (S.code c _ _ _ _ _ _ h3 B μ w _ _ hR hf (tmR_args hc _) fun x a' w' hp=>?_)
    obtain ⟨μ',p1,p2,p3,p4⟩:=hp
    have ht:=p4 (by rcases he with rfl|rfl<;>rfl)
    obtain ⟨cv,q1,q2⟩:=results_run p1.rel ht hvs
    rcases he with rfl|rfl
    · cases x with
      | normal=>exact ⟨p3,cv,q2,μ',cv,p1,q1,rfl⟩
      | _=>exact p2.elim
    · cases x with
      | ret=>exact ⟨p3,cv,q2,μ',cv,p1,q1,rfl⟩
      | _=>exact p2.elim
  · cases h4
theorem body_pan {ih:Nat→Cd→Tm→St→Out} {k:Nat} (S:Snd P ih k) {f:Nat} {args:List AV} {s s':St} {v:AV} (h:callBody P ih f args s=.pan v s') {cargs:List Value} (hR:Rel B μ (T.get s.hp) w) (hf:Fresh μ s.nx s'.nx) (hc:concL μ args=some cargs):Calls P f cargs.toArray w (PanS B μ s w v s'):=by
  obtain ⟨fn,c,e,tm,s1,h1,h2,h3,h4⟩:=body_inv h (fun h=>by cases h)
  rcases h4 with ⟨he,vs,hvs,h4⟩|⟨u,rfl,h4⟩
  · cases h4
  · injection h4 with h5 h6;subst h5;subst h6
    refine calls_of_wp h1 h2 (S.code c _ _ _ _ _ _ h3 B μ w _ _ hR hf (tmR_args hc _) fun x a' w' hp=>?_)
    obtain ⟨μ',p1,p2,p3,p4⟩:=hp
    cases x with
    | panic ch =>
      obtain ⟨cv,q1,rfl⟩:=p2
      exact ⟨p3,μ',cv,p1,q1,rfl⟩
    | _=>exact p2.elim
def endO (wt:Nat):Option Int→Ending
  | none=>.returned (.tuple #[])
  | some c=>.panicked [{ v:=.iface wt (.agg #[.int .i64 c]),recovered:=false }]
structure CgS (P:Program) (g:Cg):Prop where
  fn:∃fn,P.funcs[g.cg]?=some fn∧fn.body.isSome=true
  ok:∃et,∀(G:FuncId) (cap:Array Value) (o:Option Int) (R:World→Prop) (w:World),(∃fn,P.funcs[G]?=some fn∧fn.body.isSome=true) →
    Calls P G cap (w.alloc (.cells #[.int .i64 0] et)) (fun e w'=>e=endO g.wt o∧w'.heap[w.heap.size]?=some (.cells #[.int .i64 0] et (0,0))∧R w') →
    Calls P g.cg #[.func (.func G) #[] cap] w fun e w'=>e=.returned (.int .i64 (o.getD 0))∧∃w2,R w2∧(∀k,k<w2.heap.size→k≠w.heap.size→w'.heap[k]?=w2.heap[k]?)∧w2.heap.size≤w'.heap.size∧w'.os=w2.os∧w'.tape=w2.tape∧w'.output=w2.output
def MemoS (P:Program) (m:Memo):Prop:=(∃fn,P.funcs[m.f]?=some fn∧fn.body.isSome=true)∧(m.any=false→m.nx.val≤m.nx'.val∧∀B μ w cargs,Rel B μ (T.get (.e:T Bk)) w→Fresh μ m.nx m.nx'→concL μ m.args=some cargs →
  Calls P m.f cargs.toArray w (RetS B μ ⟨.e,m.nx⟩ w m.v ⟨addB m.bs .e,m.nx'⟩))∧(m.any=true→∀μ w cargs,concL μ m.args=some cargs→∃c,conc μ m.v=some c∧Calls P m.f cargs.toArray w fun e w'=>e=.returned c∧Go.RowKit.Below w.heap.size w w')
theorem addB_get:∀(bs:List (K×Bk)) (h:T Bk),T.get (addB bs h)=laid (T.get (addB bs .e)) (T.get (.e:T Bk)) (T.get h)
  | [],h=>by
    funext k
    exact (laid_old (H1':=T.get (addB [] .e)) (T.get_e k) (T.get_e k)).symm
  | (i,b)::bs,h=>by
    funext k
    have e1:T.get (addB ((i,b)::bs) h)=T.get (addB bs (T.set h i b)):=rfl
    have e2:T.get (addB ((i,b)::bs) .e)=T.get (addB bs (T.set .e i b)):=rfl
    rw [e1,e2,addB_get bs (T.set h i b),addB_get bs (T.set .e i b)]
    cases hk:T.get (addB bs .e) k with
    | some c=>rw [laid_new hk,laid_new (laid_new hk)]
    | none =>
      rw [laid_old hk (T.get_e k)]
      by_cases e:k=i
      · subst e
        rw [laid_new (b:=b) (by rw [laid_old hk (T.get_e k),T.get_set,if_pos rfl]),T.get_set,if_pos rfl]
      · rw [laid_old (by rw [laid_old hk (T.get_e k),T.get_set,if_neg e,T.get_e]) (T.get_e k),T.get_set,if_neg e]
theorem memoFind_some {f:Nat} {args:List AV} {s:St} {r:CR}:∀(ms:List Memo),memoFind f args s ms=some r→∃m∈ms,memoHit m f args s=true∧r=.ret m.v (memoSt m s)
  | [],h=>by cases h
  | m::ms,h=>by
    have h:@Bool.rec (fun _=>Option CR) (memoFind f args s ms) (some (.ret m.v (memoSt m s))) (memoHit m f args s)=some r:=h
    cases hm:memoHit m f args s with
    | true=>rw [hm] at h;injection h with h;exact ⟨m,by simp,hm,h.symm⟩
    | false =>
      rw [hm] at h
      obtain ⟨m',h1,h2⟩:=memoFind_some ms h
      exact ⟨m',by simp [h1],h2⟩
theorem K.beq_refl:∀(k:K),K.beq k k=true
  | .z=>rfl
  | .o k=>K.beq_refl k
  | .i k=>K.beq_refl k
theorem memoHit_inv {m:Memo} {f:Nat} {args:List AV} {s:St} (h:memoHit m f args s=true):f=m.f∧args=m.args∧(m.any=true∧memoSt m s=s∨m.any=false∧s.nx=m.nx∧memoSt m s=⟨addB m.bs s.hp,m.nx'⟩):=by
  unfold memoHit at h
  simp only [Bool.and_eq_true,Bool.or_eq_true] at h
  refine ⟨Nat.beq_eq.mp h.1,sameL_eq _ _ h.2.1,?_⟩
  unfold memoSt
  cases ha:m.any with
  | true=>exact .inl ⟨rfl,rfl⟩
  | false =>
    refine .inr ⟨rfl,?_,rfl⟩
    rcases h.2.2 with h2|h2
    · rw [ha] at h2;cases h2
    · exact K.beq_eq h2
theorem Step.below (hR:Rel B μ H w) (hb:Go.RowKit.Below w.heap.size w w') (nx:K):Step B μ H nx w μ H nx w':=by
  obtain ⟨h1,h2,h3,h4,h5⟩:=hb
  refine ⟨MLe.refl μ,fun _ _ h=>.inl h,⟨fun i b h=>?_,hR.own,fun i cs l a b=>(hR.view i cs l a b).imp id fun ⟨c,d⟩=>⟨Nat.lt_of_lt_of_le c h4,d⟩,hR.inj,Nat.le_trans hR.size h4⟩,fun _ h=>.inl h,fun k hk _=>h5 k hk,h4,h1,h2,h3,Nat.le_refl _,fun k n hk h=>⟨h,SameTo.row (h5 k hk) n⟩,fun i cs l a b=>.inl ⟨cs,a,b,Nat.le_refl _⟩⟩
  obtain ⟨l,hl,hbr⟩:=hR.at_ i b h
  exact ⟨l,hl,hbr.same (h5 _ (hR.lt h hl))⟩
theorem callB_caught {g:Cg} {ih:Nat→Cd→Tm→St→Out} {f:Nat} {args:List AV} {s s':St} {v:AV} (hf:Nat.beq f g.cg=true) (h:callB P g ih f args s=.ret v s'):∃G caps,args=[.func G [] caps]∧((callBody P ih G caps s=.ret (.tup []) s'∧v=.int .i64 0)∨∃c,callBody P ih G caps s=.pan (.iface g.wt (.agg [.int .i64 c])) s'∧v=.int .i64 c):=by
  unfold callB at h
  rw [hf] at h
  simp only at h
  split at h
  · rename_i G caps
    split at h
    · cases h
    · split at h
      · rename_i s1 hb
        injection h with h1 h2;subst h1;subst h2
        exact ⟨G,caps,rfl,.inl ⟨hb,rfl⟩⟩
      · rename_i t c s1 hb
        split at h
        · rename_i ht
          injection h with h1 h2;subst h1;subst h2
          rw [Nat.beq_eq.mp ht] at hb
          exact ⟨G,caps,rfl,.inr ⟨c,hb,rfl⟩⟩
        · cases h
      · cases h
  · cases h
theorem callB_caught_pan {g:Cg} {ih:Nat→Cd→Tm→St→Out} {f:Nat} {args:List AV} {s s':St} {v:AV} (hf:Nat.beq f g.cg=true) (h:callB P g ih f args s=.pan v s'):False:=by
  unfold callB at h
  rw [hf] at h
  simp only at h
  (repeat' split at h)<;>cases h
theorem callB_other {g:Cg} {ih:Nat→Cd→Tm→St→Out} {f:Nat} {args:List AV} {s:St} (hf:Nat.beq f g.cg=false):callB P g ih f args s=callBody P ih f args s:=by
  unfold callB
  rw [hf]
theorem caught_ok {g:Cg} (hg:CgS P g) {ih:Nat→Cd→Tm→St→Out} {k:Nat} (S:Snd P ih k) {G:Nat} {caps:List AV} {s s':St} {o:Option Int} {v:AV} (hv:v=.int .i64 (o.getD 0)) (h:(o=none∧callBody P ih G caps s=.ret (.tup []) s')∨∃c,o=some c∧callBody P ih G caps s=.pan (.iface g.wt (.agg [.int .i64 c])) s')
    {ccaps:List Value} (hR:Rel B μ (T.get s.hp) w) (hf:Fresh μ s.nx s'.nx) (hc:concL μ caps=some ccaps):Calls P g.cg #[.func (.func G) #[] ccaps.toArray] w (RetS B μ s w v s'):=by
  obtain ⟨et,hok⟩:=hg.ok
  have hfn:∃fn,P.funcs[G]?=some fn∧fn.body.isSome=true:=by
    rcases h with ⟨-,h⟩|⟨c,-,h⟩ <;>
    · obtain ⟨fn,c,e,tm,s1,h1,h2,-⟩:=body_inv h (fun h=>by cases h)
      exact ⟨fn,h1,by rw [h2];rfl⟩
  have hR1:Rel B μ (T.get s.hp) (w.alloc (.cells #[.int .i64 0] et)):=by
    refine ⟨fun i b hb=>?_,hR.own,fun i cs l a b=>(hR.view i cs l a b).imp id fun ⟨c,d⟩=>⟨by rw [show (w.alloc (.cells #[.int .i64 0] et)).heap.size=w.heap.size+1 from Array.size_push _];omega,d⟩,hR.inj,by rw [show (w.alloc (.cells #[.int .i64 0] et)).heap.size=w.heap.size+1 from Array.size_push _];have:=hR.size;omega⟩
    obtain ⟨l,hl,hbr⟩:=hR.at_ i b hb
    exact ⟨l,hl,hbr.same (push_old rfl (hR.lt hb hl))⟩
  have hnew:(w.alloc (.cells #[.int .i64 0] et)).heap[w.heap.size]?=some (.cells #[.int .i64 0] et (0,0)):=push_new rfl
  have hsz:(w.alloc (.cells #[.int .i64 0] et)).heap.size=w.heap.size+1:=Array.size_push _
  have hkeep:∀ {μ':K→Option Loc} {w2:World},Step B μ (T.get s.hp) s.nx (w.alloc (.cells #[.int .i64 0] et)) μ' (T.get s'.hp) s'.nx w2→w2.heap[w.heap.size]?=some (.cells #[.int .i64 0] et (0,0)):=fun {μ' w2} hst=>by
    rw [hst.frame w.heap.size (by omega) ?_,hnew]
    rintro ⟨i,b,l,hb,ho,hl,e⟩
    have:=hR.lt hb hl;omega
  have hcall:Calls P G ccaps.toArray (w.alloc (.cells #[.int .i64 0] et)) (fun e w'=>e=endO g.wt o∧w'.heap[w.heap.size]?=some (.cells #[.int .i64 0] et (0,0))∧∃μ',Step B μ (T.get s.hp) s.nx (w.alloc (.cells #[.int .i64 0] et)) μ' (T.get s'.hp) s'.nx w'):=by
    rcases h with ⟨rfl,h⟩|⟨c,rfl,h⟩
    · refine (body_ret S h hR1 hf hc).mono fun e w2 hh=>?_
      obtain ⟨μ',cv,h1,h2,rfl⟩:=hh
      injection (show some undef=some cv from h2) with h2
      exact ⟨by rw [←h2];rfl,hkeep h1,μ',h1⟩
    · refine (body_pan S h hR1 hf hc).mono fun e w2 hh=>?_
      obtain ⟨μ',cv,h1,h2,rfl⟩:=hh
      injection (show some (Value.iface g.wt (.agg #[.int .i64 c]))=some cv from h2) with h2
      exact ⟨by rw [←h2];rfl,hkeep h1,μ',h1⟩
  refine (hok G ccaps.toArray o _ w hfn hcall).mono fun e w' hh=>?_
  obtain ⟨rfl,w2,⟨μ',hst⟩,hfr,hle,ho,ht,hout⟩:=hh
  have hne:∀k,OwnBlk μ' (T.get s'.hp) k→k≠w.heap.size:=fun k hk e=>by
    rcases hst.owned k hk with ⟨i,b,l,hb,-,hl,e'⟩|h
    · have:=hR.lt hb hl;omega
    · omega
  have hR2:Rel B μ' (T.get s'.hp) w':=by
    refine ⟨fun i b hb=>?_,hst.rel.own,fun i cs l a b=>(hst.rel.view i cs l a b).imp id fun ⟨c,d⟩=>⟨by omega,d⟩,hst.rel.inj,by have:=hst.rel.size;omega⟩
    obtain ⟨l,hl,hbr⟩:=hst.rel.at_ i b hb
    refine ⟨l,hl,hbr.same (hfr _ (hst.rel.lt hb hl) fun e=>?_)⟩
    by_cases hob:OwnB b
    · exact hne _ ⟨i,b,l,hb,hob,hl,rfl⟩ e
    · cases b with
      | view cs =>
        rcases hst.views i cs l hb hl with ⟨cs',a1,a2,-⟩|⟨i',b',l',a1,-,a2,a3⟩|a1
        · have:=hR.lt a1 a2;omega
        · have:=hR.lt a1 a2;omega
        · omega
      | cells _ _ _ _=>exact hob trivial
      | mp _ _=>exact hob trivial
      | kept _ _ _ _=>exact hob trivial
  refine ⟨μ',.int .i64 (o.getD 0),⟨hst.ext,hst.new,hR2,fun k hk=>?_,fun k hk hn=>?_,?_,ho.trans hst.os,ht.trans hst.tape,hout.trans hst.output,hst.nxle,fun k n hk hh=>⟨(hst.keep k n (by omega) hh).1,fun j hj=>?_⟩,fun i cs l a b=>?_⟩,by rw [hv];rfl,rfl⟩
  · rcases hst.owned k hk with h|h
    · exact .inl h
    · exact .inr (by omega)
  · rw [hfr k (by have:=hst.size;omega) (by omega),hst.frame k (by omega) hn]
    exact push_old rfl hk
  · have:=hst.size;omega
  · refine Eq.trans ?_ (((hst.keep k n (by omega) hh).2 j hj).trans ?_)
    · unfold World.cell?
      rw [hfr k (by have:=hst.size;omega) (by omega)]
    · unfold World.cell?
      rw [show (w.alloc (.cells #[.int .i64 0] et)).heap[k]?=w.heap[k]? from push_old rfl hk]
  · rcases hst.views i cs l a b with h|h|h
    · exact .inl h
    · exact .inr (.inl h)
    · exact .inr (.inr (by omega))
theorem callB_mono {g:Cg} {ih:Nat→Cd→Tm→St→Out} {k:Nat} (S:Snd P ih k) {f:Nat} {args:List AV} {s s':St} {v:AV} (h:callB P g ih f args s=.ret v s'∨callB P g ih f args s=.pan v s'):s.nx.val≤s'.nx.val:=by
  cases hb:Nat.beq f g.cg with
  | false=>rw [callB_other hb] at h;exact body_mono S h
  | true =>
    rcases h with h|h
    · obtain ⟨G,caps,-,⟨h1,-⟩|⟨c,h1,-⟩⟩:=callB_caught hb h
      · exact body_mono S (.inl h1)
      · exact body_mono S (.inr h1)
    · exact (callB_caught_pan hb h).elim
theorem calls_ok {g:Cg} (hg:CgS P g) (hM:∀m∈g.ms,MemoS P m) {ih:Nat→Cd→Tm→St→Out} {k:Nat} (S:Snd P ih k):CallS P (callA P g ih):=by
  have inv:∀ {f args s r},callA P g ih f args s=r→(memoFind f args s g.ms=some r)∨(memoFind f args s g.ms=none∧callB P g ih f args s=r):=fun {f args s r} h=>by
    have h:@Option.rec CR (fun _=>CR) (callB P g ih f args s) (fun r=>r) (memoFind f args s g.ms)=r:=h
    cases hm:memoFind f args s g.ms with
    | none=>rw [hm] at h;exact .inr ⟨rfl,h⟩
    | some r'=>rw [hm] at h;exact .inl (by rw [show r'=r from h])
  refine ⟨fun f args s v s' h=>?_,fun f args s v s' h=>?_,fun f args s v s' h B μ w cargs hR hf hc=>?_,fun f args s v s' h B μ w cargs hR hf hc=>?_⟩
  · have hit:∀ {r},memoFind f args s g.ms=some r→∀v s',(r=.ret v s'∨r=.pan v s')→s.nx.val≤s'.nx.val:=fun {r} h v s' hr=>by
      obtain ⟨m,hm,hh,rfl⟩:=memoFind_some _ h
      obtain ⟨rfl,rfl,e⟩:=memoHit_inv hh
      rcases hr with hr|hr
      · injection hr with h1 h2
        rw [←h2]
        rcases e with ⟨-,e⟩|⟨ha,e,e'⟩
        · rw [e];exact Nat.le_refl _
        · rw [e,e'];exact ((hM m hm).2.1 ha).1
      · cases hr
    rcases h with h|h
    · rcases inv h with h|⟨-,h⟩
      · exact hit h v s' (.inl rfl)
      · exact callB_mono S (.inl h)
    · rcases inv h with h|⟨-,h⟩
      · exact hit h v s' (.inr rfl)
      · exact callB_mono S (.inr h)
  · have hit:∀ {r},memoFind f args s g.ms=some r→∃fn,P.funcs[f]?=some fn∧fn.body.isSome=true:=fun {r} h=>by
      obtain ⟨m,hm,hh,rfl⟩:=memoFind_some _ h
      obtain ⟨rfl,rfl,e⟩:=memoHit_inv hh
      exact (hM m hm).1
    have body:∀ {r},callBody P ih f args s=r→r≠.no→∃fn,P.funcs[f]?=some fn∧fn.body.isSome=true:=fun {r} h hr=>by
      obtain ⟨fn,c,e,tm,s1,h1,h2,-⟩:=body_inv h hr
      exact ⟨fn,h1,by rw [h2];rfl⟩
    cases hb:Nat.beq f g.cg with
    | true=>rw [Nat.beq_eq.mp hb];exact hg.fn
    | false =>
      rcases h with h|h <;>
      · rcases inv h with h|⟨-,h⟩
        · exact hit h
        · rw [callB_other hb] at h;exact body h (fun h=>by cases h)
  · rcases inv h with h|⟨-,h⟩
    · obtain ⟨m,hm,hh,hr⟩:=memoFind_some _ h
      obtain ⟨rfl,rfl,e⟩:=memoHit_inv hh
      injection hr with h1 h2;subst h1
      rcases e with ⟨ha,e⟩|⟨ha,e,e'⟩
      · rw [e] at h2;subst h2
        obtain ⟨c,hcv,hcl⟩:=(hM m hm).2.2 ha μ w cargs hc
        refine hcl.mono fun x w' hx=>?_
        exact ⟨μ,c,Step.below hR hx.2 _,hcv,hx.1⟩
      rw [e'] at h2;subst h2
      refine (((hM m hm).2.1 ha).2 B μ w cargs (hR.sub fun i b h=>by rw [T.get_e] at h;cases h) (by rw [←e];exact hf) hc).mono fun x w' hx=>?_
      obtain ⟨μ',c,q1,q2,rfl⟩:=hx
      refine ⟨μ',c,?_,q2,rfl⟩
      have:=step_laid hR (fun k b h=>by rw [T.get_e] at h;cases h) q1
      show Step B μ (T.get s.hp) s.nx w μ' (T.get (addB m.bs s.hp)) m.nx' w'
      rw [addB_get,e]
      exact this
    · cases hb:Nat.beq f g.cg with
      | false=>rw [callB_other hb] at h;exact body_ret S h hR hf hc
      | true =>
        obtain ⟨G,caps,rfl,h9⟩:=callB_caught hb h
        rw [Nat.beq_eq.mp hb]
        simp only [concL,Option.bind_eq_some_iff,Option.map_eq_some_iff] at hc
        obtain ⟨cf,hcf,l,hl,rfl⟩:=hc
        injection hl with hl;subst hl
        obtain ⟨F,C,hF,hC,rfl⟩:=conc_func hcf
        injection (show some []=some F from hF) with hF;subst hF
        rcases h9 with ⟨h9,rfl⟩|⟨c,h9,rfl⟩
        · exact caught_ok hg S (o:=none) rfl (.inl ⟨rfl,h9⟩) hR hf hC
        · exact caught_ok hg S (o:=some c) rfl (.inr ⟨c,rfl,h9⟩) hR hf hC
  · rcases inv h with h|⟨-,h⟩
    · obtain ⟨m,hm,hh,hr⟩:=memoFind_some _ h
      cases hr
    · cases hb:Nat.beq f g.cg with
      | false=>rw [callB_other hb] at h;exact body_pan S h hR hf hc
      | true=>exact (callB_caught_pan hb h).elim
theorem snd (hN:NoNG P) (hmix:P.follows .mixedOrders=true) {g:Cg} (hg:CgS P g) (hM:∀m∈g.ms,MemoS P m):∀k,Snd P (exec P g k) k
  | 0=>snd_zero g
  | k+1=>snd_succ hN hmix (calls_ok hg hM (snd hN hmix hg hM k)) (snd hN hmix hg hM k)
theorem leftIn_get {h:T Bk} {nx nx':K}:∀(bs:List (K×Bk)),leftIn h nx nx' bs=true→∀k b,T.get (addB bs .e) k=some b→T.get h k=some b
  | [],_,k,b,hk=>by rw [show T.get (addB [] .e) k=none from T.get_e k] at hk;cases hk
  | (i,c)::bs,hl,k,b,hk=>by
    have hk:T.get (addB bs (T.set .e i c)) k=some b:=hk
    simp only [leftIn] at hl
    split at hl
    · rename_i c' hc'
      simp only [Bool.and_eq_true] at hl
      rw [addB_get] at hk
      rcases laid_some hk with hk|⟨-,-,hk⟩
      · exact leftIn_get bs hl.2 k b hk
      · rw [T.get_set] at hk
        split at hk
        · rename_i e
          injection hk with hk;subst hk;subst e
          rw [hc']
          have hs:=hl.1.1.1
          unfold sameBk at hs
          split at hs
          · simp only [Bool.and_eq_true,beq_iff_eq] at hs
            rw [sameL_eq _ _ hs.1.1.1,Nat.beq_eq.mp hs.1.1.2,Nat.beq_eq.mp hs.1.2,hs.2]
          · cases hs
        · rw [T.get_e] at hk;cases hk
    · cases hl
theorem memo_of {g:Cg} {k:Nat} (hC:CallS P (callA P g (exec P g k))) {m:Memo} (h:memoOk P g k m=true):MemoS P m:=by
  unfold memoOk at h
  split at h
  · rename_i v s hv
    simp only [Bool.and_eq_true,Bool.not_eq_true'] at h
    obtain ⟨hany,h⟩:=h
    have hv:callA P g (exec P g k) m.f m.args ⟨.e,m.nx⟩=.ret v s:=hv
    have e1:=sameA_eq _ _ h.1.1
    have e2:=K.beq_eq h.1.2
    subst e1
    refine ⟨hC.fn _ _ _ _ _ (.inl hv),fun _=>⟨?_,fun B μ w cargs hR hf hc=>?_⟩,fun ha=>by rw [hany] at ha;cases ha⟩
    · have:=hC.mono _ _ _ _ _ (.inl hv)
      rw [←e2];exact this
    · refine (hC.ret _ _ _ _ _ hv B μ w cargs hR (by rw [e2];exact hf) hc).mono fun e w' hh=>?_
      obtain ⟨μ',c,h1,h2,rfl⟩:=hh
      refine ⟨μ',c,?_,h2,rfl⟩
      have:=h1.sub (H'':=T.get (addB m.bs .e)) (leftIn_get m.bs h.2)
      rw [e2] at this
      exact this
  · cases h
theorem closed_call {g:Cg} {k:Nat} (hC:CallS P (callA P g (exec P g k))) {f:Nat} {args:List AV} {s':St} {v:AV} (h:acall P g k f args ⟨.e,.z⟩=.ret v s') {cargs:List Value} (hc:∀μ,concL μ args=some cargs) {cv:Value} (hv:∀μ,conc μ v=some cv) (w:World) :
    Calls P f cargs.toArray w fun e w'=>e=.returned cv∧Go.RowKit.Below w.heap.size w w':=by
  have hR:Rel w.heap.size (fun _=>none) (T.get (.e:T Bk)) w:=⟨fun i b h=>by (rw [T.get_e] at h;cases h),fun i b l h=>by (rw [T.get_e] at h;cases h),fun i cs l h=>by (rw [T.get_e] at h;cases h),fun i j b c l m h=>by (rw [T.get_e] at h;cases h),Nat.le_refl _⟩
  refine (hC.ret f args ⟨.e,.z⟩ v s' h w.heap.size (fun _=>none) w cargs hR (fun _ _ _=>rfl) (hc _)).mono fun e w' hh=>?_
  obtain ⟨μ',c,h1,h2,rfl⟩:=hh
  rw [hv] at h2
  injection h2 with h2;subst h2
  refine ⟨rfl,h1.os,h1.tape,h1.output,h1.size,fun k hk=>h1.frame k hk ?_⟩
  rintro ⟨i,b,l,hb,-⟩
  rw [T.get_e] at hb;cases hb
theorem memo_pure {f:Nat} {v:AV} {cv:Value} (hfn:∃fn,P.funcs[f]?=some fn∧fn.body.isSome=true) (hv:∀μ,conc μ v=some cv) (h:∀w,Calls P f #[] w fun e w'=>e=.returned cv∧Go.RowKit.Below w.heap.size w w'):MemoS P ⟨f,[],.z,v,[],.z,true⟩ :=
  ⟨hfn,(fun ha=>by cases ha),fun _ μ w cargs hc=>by
    injection (show some []=some cargs from hc) with hc
    subst hc
    exact ⟨cv,hv μ,h w⟩⟩
end Go.Proofs.YtoegffiapnnkiaaGreat.Abs
