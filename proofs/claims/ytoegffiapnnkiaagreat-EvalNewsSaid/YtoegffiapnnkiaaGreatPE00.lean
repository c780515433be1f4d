/- Parts of one proof. No condition but those that each theorem names. -/
import Derived.Orders
import Derived.Scope
import Derived.Laws.AppendOwn
import Derived.Laws.Tables
import Derived.Laws.IdiomCopy
import Derived.Laws.Strings
import Derived.Laws.Slices
import Derived.Laws.StructEq
import Derived.Below
import Derived.Laws.BytesString
set_option linter.unusedVariables false
set_option linter.unusedSimpArgs false
namespace Go.Proofs.YtoegffiapnnkiaaGreat.Abs
open Go
inductive K where
  | z
  | o (k:K)
  | i (k:K)
namespace K
def val:K→Nat
  | .z=>0
  | .o k=>2 * val k+1
  | .i k=>2 * val k+2
noncomputable def succ (k:K):K:=@K.rec (fun _=>K) (.o .z) (fun k _=>.i k) (fun _ ih=>.o ih) k
noncomputable def ofF (d:Nat):Nat→K:=@Nat.rec (fun _=>Nat→K) (fun _=>.z) (fun _ ih n=>@Nat.rec (fun _=>K) .z (fun _ _=>@Nat.rec (fun _=>K) (.i (ih (Nat.sub (Nat.div n 2) 1))) (fun _ _=>.o (ih (Nat.div n 2))) (Nat.mod n 2)) n) d
noncomputable def of (n:Nat):K:=ofF n n
noncomputable def beq (k:K):K→Bool:=@K.rec (fun _=>K→Bool) (fun j=>@K.rec (fun _=>Bool) true (fun _ _=>false) (fun _ _=>false) j)
  (fun _ ih j=>@K.rec (fun _=>Bool) false (fun j _=>ih j) (fun _ _=>false) j) (fun _ ih j=>@K.rec (fun _=>Bool) false (fun _ _=>false) (fun j _=>ih j) j) k
theorem val_succ:∀k:K,(succ k).val=k.val+1
  | .z=>rfl
  | .o k=>rfl
  | .i k=>by
    show 2 * (succ k).val+1=_
    rw [val_succ k];simp only [val];omega
theorem val_inj:∀ {k j:K},k.val=j.val→k=j
  | .z,.z,_=>rfl
  | .z,.o j,e=>by simp only [val] at e;omega
  | .z,.i j,e=>by simp only [val] at e;omega
  | .o k,.z,e=>by simp only [val] at e;omega
  | .o k,.o j,e=>by simp only [val] at e;rw [val_inj (k:=k) (j:=j) (by omega)]
  | .o k,.i j,e=>by simp only [val] at e;omega
  | .i k,.z,e=>by simp only [val] at e;omega
  | .i k,.o j,e=>by simp only [val] at e;omega
  | .i k,.i j,e=>by simp only [val] at e;rw [val_inj (k:=k) (j:=j) (by omega)]
theorem ofF_succ (d n:Nat):ofF (d+1) n=if n=0 then .z else if n%2=1 then .o (ofF d (n/2)) else .i (ofF d (n/2-1)):=by
  show @Nat.rec (fun _=>K) .z (fun _ _=>@Nat.rec (fun _=>K) (.i (ofF d (n/2-1))) (fun _ _=>.o (ofF d (n/2))) (n%2)) n=_
  cases n with
  | zero=>rfl
  | succ k =>
    rw [if_neg (Nat.succ_ne_zero k)]
    rcases Nat.mod_two_eq_zero_or_one (k+1) with h|h<;>simp only [h]<;>rfl
theorem val_ofF:∀(d n:Nat),n≤d→(ofF d n).val=n
  | 0,n,h=>by
    have:n=0:=by omega
    subst this;rfl
  | d+1,n,h=>by
    rw [ofF_succ]
    split
    · rename_i e;rw [e];rfl
    · split
      · simp only [val];rw [val_ofF d (n/2) (by omega)];omega
      · simp only [val];rw [val_ofF d (n/2-1) (by omega)];omega
theorem val_of (n:Nat):(of n).val=n:=val_ofF n n (Nat.le_refl n)
theorem of_inj {n m:Nat} (h:of n=of m):n=m:=by have:=congrArg val h;rwa [val_of,val_of] at this
theorem beq_eq:∀ {k j:K},beq k j=true→k=j
  | .z,.z,_=>rfl
  | .z,.o j,e=>by cases e
  | .z,.i j,e=>by cases e
  | .o k,.z,e=>by cases e
  | .o k,.o j,e=>by rw [beq_eq (show beq k j=true from e)]
  | .o k,.i j,e=>by cases e
  | .i k,.z,e=>by cases e
  | .i k,.o j,e=>by cases e
  | .i k,.i j,e=>by rw [beq_eq (show beq k j=true from e)]
instance:DecidableEq K:=fun a b=>if h:a.val=b.val then isTrue (val_inj h) else isFalse fun e=>h (e ▸ rfl)
end K
inductive T (α:Type) where
  | e:T α
  | n (l:T α) (v:Option α) (r:T α):T α
namespace T
variable {α:Type}
noncomputable def lf (t:T α):T α:=@T.rec α (fun _=>T α) .e (fun l _ _ _ _=>l) t
noncomputable def rt (t:T α):T α:=@T.rec α (fun _=>T α) .e (fun _ _ r _ _=>r) t
noncomputable def top (t:T α):Option α:=@T.rec α (fun _=>Option α) none (fun _ v _ _ _=>v) t
noncomputable def get (t:T α) (k:K):Option α:=@K.rec (fun _=>T α→Option α) top (fun _ ih t=>ih (lf t)) (fun _ ih t=>ih (rt t)) k t
noncomputable def put (t:T α) (k:K) (v:Option α):T α:=@K.rec (fun _=>T α→T α) (fun t=>@T.rec α (fun _=>T α) (.n .e v .e) (fun l _ r _ _=>.n l v r) t)
  (fun _ ih t=>@T.rec α (fun _=>T α) (.n (ih .e) none .e) (fun l o r _ _=>.n (ih l) o r) t) (fun _ ih t=>@T.rec α (fun _=>T α) (.n .e none (ih .e)) (fun l o r _ _=>.n l o (ih r)) t) k t
theorem put_eq (k:K) (t:T α) (v:Option α):put t k v=match k with
    | .z=>.n (lf t) v (rt t)
    | .o k=>.n (put (lf t) k v) (top t) (rt t)
    | .i k=>.n (lf t) (top t) (put (rt t) k v):=by cases k<;>cases t<;>rfl
noncomputable def set (t:T α) (k:K) (v:α):T α:=put t k (some v)
noncomputable def del (t:T α) (k:K):T α:=put t k none
theorem get_put:∀(k:K) (t:T α) (v:Option α) (j:K),get (put t k v) j=if j=k then v else get t j
  | .z,t,v,.z=>by rw [if_pos rfl,put_eq];rfl
  | .z,t,v,.o j=>by rw [if_neg (by intro h;cases h),put_eq];rfl
  | .z,t,v,.i j=>by rw [if_neg (by intro h;cases h),put_eq];rfl
  | .o k,t,v,.z=>by rw [if_neg (by intro h;cases h),put_eq];rfl
  | .o k,t,v,.o j=>by
    rw [put_eq]
    show get (put (lf t) k v) j=if K.o j=K.o k then v else get (lf t) j
    rw [get_put k (lf t) v j]
    by_cases e:j=k
    · rw [if_pos e,if_pos (by rw [e])]
    · rw [if_neg e,if_neg (by intro h;injection h with h;exact e h)]
  | .o k,t,v,.i j=>by rw [if_neg (by intro h;cases h),put_eq];rfl
  | .i k,t,v,.z=>by rw [if_neg (by intro h;cases h),put_eq];rfl
  | .i k,t,v,.o j=>by rw [if_neg (by intro h;cases h),put_eq];rfl
  | .i k,t,v,.i j=>by
    rw [put_eq]
    show get (put (rt t) k v) j=if K.i j=K.i k then v else get (rt t) j
    rw [get_put k (rt t) v j]
    by_cases e:j=k
    · rw [if_pos e,if_pos (by rw [e])]
    · rw [if_neg e,if_neg (by intro h;injection h with h;exact e h)]
theorem get_set (t:T α) (k:K) (v:α) (j:K):get (set t k v) j=if j=k then some v else get t j:=get_put k t (some v) j
theorem get_del (t:T α) (k:K) (j:K):get (del t k) j=if j=k then none else get t j:=get_put k t none j
theorem get_e:∀(k:K),get (.e:T α) k=none
  | .z=>rfl
  | .o k=>get_e k
  | .i k=>get_e k
end T
inductive Cp where
  | ex (n:Nat)
  | own (sub:Nat)
inductive AV where
  | bool (b:Bool)
  | int (k:IntKind) (n:Int)
  | str (s:List Nat)
  | ptr (a:Option (K×Nat))
  | slice (a:Option (K×Nat)) (len:Nat) (cap:Cp)
  | map (r:Option K)
  | func (f:Nat) (first caps:List AV)
  | nilFunc
  | iface (t:Nat) (v:AV)
  | nilIface
  | agg (l:List AV)
  | tup (l:List AV)
inductive Bk where
  | cells (l:List AV) (elem esz:Nat) (full:Bool)
  | view (l:List AV)
  | mp (es:List (AV×AV×Nat)) (clock:Nat)
  | kept (l:List AV) (elem esz n:Nat)
structure St where
  hp:T Bk
  nx:K
abbrev Tm:=T AV
def AV.parts:AV→List AV
  | .agg l=>l
  | v=>[v]
def AV.leaf:AV→Bool
  | .agg _|.tup _=>false
  | _=>true
structure Loc where
  blk:Nat
  base:Nat
  cap:Nat
def bytesV (s:List Nat):ByteArray:=⟨(s.map UInt8.ofNat).toArray⟩
def ptrV (l:Loc) (o:Nat):Addr:=⟨l.blk,l.base+o,none⟩
def capV (l:Loc):Cp→Nat
  | .ex n=>n
  | .own s=>l.cap-s
mutual
noncomputable def conc (μ:K→Option Loc):AV→Option Value
  | .bool b=>some (.bool b)
  | .int k n=>some (.int k n)
  | .str s=>some (.string (bytesV s))
  | .ptr none=>some (.pointer none)
  | .ptr (some (i,o))=>(μ i).map fun l=>.pointer (some (ptrV l o))
  | .slice none n (.ex c)=>some (.slice none n c)
  | .slice none n (.own k) => if n = 0 then (μ (K.of k)).map fun l => .slice (some ⟨l.blk, l.base, some l.cap⟩) 0 0 else none   -- (an empty row somewhere, in no block that is told of)
  | .slice (some (i,o)) n c=>(μ i).bind fun l=>if n≤capV l c then some (.slice (some (ptrV l o)) n (capV l c)) else none
  | .map none=>some (.map none)
  | .map (some i)=>(μ i).map fun l=>.map (some l.blk)
  | .func f first caps=>(concL μ first).bind fun a=>(concL μ caps).map fun b=>.func (.func f) a.toArray b.toArray
  | .nilFunc=>some .nilFunc
  | .iface t v=>(conc μ v).map fun x=>.iface t x
  | .nilIface=>some .nilIface
  | .agg l=>(concL μ l).map fun x=>.agg x.toArray
  | .tup l=>(concL μ l).map fun x=>.tuple x.toArray
noncomputable def concL (μ:K→Option Loc):List AV→Option (List Value)
  | []=>some []
  | v::vs=>(conc μ v).bind fun x=>(concL μ vs).map fun xs=>x::xs
end
def ofLeaf:Value→Option AV
  | .bool b=>some (.bool b)
  | .int k n=>some (.int k n)
  | .string s=>some (.str (s.data.toList.map UInt8.toNat))
  | .pointer none=>some (.ptr none)
  | .slice none n c=>some (.slice none n (.ex c))
  | .map none=>some (.map none)
  | .nilFunc=>some .nilFunc
  | .nilIface=>some .nilIface
  | _=>none
def ofLeafs:List Value→Option (List AV)
  | []=>some []
  | v::vs=>match ofLeaf v,ofLeafs vs with
    | some x,some xs=>some (x::xs)
    | _,_=>none
def ofV:Value→Option AV
  | .agg cs=>match ofLeafs cs.toList with
    | some l=>some (.agg l)
    | none=>none
  | .tuple cs=>match ofLeafs cs.toList with
    | some l=>some (.tup l)
    | none=>none
  | v=>ofLeaf v
theorem bytesV_of (s:ByteArray):bytesV (s.data.toList.map UInt8.toNat)=s:=by
  unfold bytesV
  rw [List.map_map]
  have:UInt8.ofNat ∘ UInt8.toNat=id:=by funext x;simp
  rw [this,List.map_id]
theorem conc_ofLeaf (μ:K→Option Loc) (c:Value) (v:AV) (h:ofLeaf c=some v):conc μ v=some c:=by
  unfold ofLeaf at h
  split at h<;>cases h<;>first|rfl|(unfold conc;rw [bytesV_of])
theorem concL_ofLeafs (μ:K→Option Loc):∀(cs:List Value) (l:List AV),ofLeafs cs=some l→concL μ l=some cs
  | [],l,h=>by simp only [ofLeafs,Option.some.injEq] at h;subst h;simp [concL]
  | c::cs,l,h=>by
    simp only [ofLeafs] at h
    split at h
    · rename_i x xs h1 h2
      injection h with h;subst h
      simp [concL,conc_ofLeaf μ c x h1,concL_ofLeafs μ cs xs h2]
    · cases h
theorem conc_ofV (μ:K→Option Loc) (c:Value) (v:AV) (h:ofV c=some v):conc μ v=some c:=by
  unfold ofV at h
  split at h
  · split at h
    · rename_i cs l hl
      injection h with h;subst h
      simp [conc,concL_ofLeafs μ _ _ hl]
    · cases h
  · split at h
    · rename_i cs l hl
      injection h with h;subst h
      simp [conc,concL_ofLeafs μ _ _ hl]
    · cases h
  · exact conc_ofLeaf μ c v h
def MLe (μ μ':K→Option Loc):Prop:=∀i l,μ i=some l→μ' i=some l
mutual
theorem conc_mono {μ μ':K→Option Loc} (h:MLe μ μ'):∀(v:AV) (c:Value),conc μ v=some c→conc μ' v=some c
  | .bool _,_,e=>e
  | .int _ _,_,e=>e
  | .str _,_,e=>e
  | .ptr none,_,e=>e
  | .ptr (some (i,o)),c,e=>by
    simp only [conc,Option.map_eq_some_iff] at e ⊢
    obtain ⟨l,h1,h2⟩:=e
    exact ⟨l,h i l h1,h2⟩
  | .slice none _ (.ex _),_,e=>e
  | .slice none n (.own k),c,e=>by
    simp only [conc] at e ⊢
    split at e
    · rename_i hn
      rw [if_pos hn]
      obtain ⟨l,h1,h2⟩:=Option.map_eq_some_iff.1 e
      exact Option.map_eq_some_iff.2 ⟨l,h _ l h1,h2⟩
    · cases e
  | .slice (some (i,o)) n k,c,e=>by
    simp only [conc,Option.bind_eq_some_iff] at e ⊢
    obtain ⟨l,h1,h2⟩:=e
    exact ⟨l,h i l h1,h2⟩
  | .map none,_,e=>e
  | .map (some i),c,e=>by
    simp only [conc,Option.map_eq_some_iff] at e ⊢
    obtain ⟨l,h1,h2⟩:=e
    exact ⟨l,h i l h1,h2⟩
  | .func f first caps,c,e=>by
    simp only [conc,Option.bind_eq_some_iff,Option.map_eq_some_iff] at e ⊢
    obtain ⟨a,h1,b,h2,h3⟩:=e
    exact ⟨a,concL_mono h first a h1,b,concL_mono h caps b h2,h3⟩
  | .nilFunc,_,e=>e
  | .iface t v,c,e=>by
    simp only [conc,Option.map_eq_some_iff] at e ⊢
    obtain ⟨x,h1,h2⟩:=e
    exact ⟨x,conc_mono h v x h1,h2⟩
  | .nilIface,_,e=>e
  | .agg l,c,e=>by
    simp only [conc,Option.map_eq_some_iff] at e ⊢
    obtain ⟨x,h1,h2⟩:=e
    exact ⟨x,concL_mono h l x h1,h2⟩
  | .tup l,c,e=>by
    simp only [conc,Option.map_eq_some_iff] at e ⊢
    obtain ⟨x,h1,h2⟩:=e
    exact ⟨x,concL_mono h l x h1,h2⟩
theorem concL_mono {μ μ':K→Option Loc} (h:MLe μ μ'):∀(l:List AV) (cs:List Value),concL μ l=some cs→concL μ' l=some cs
  | [],_,e=>e
  | v::vs,cs,e=>by
    simp only [concL,Option.bind_eq_some_iff,Option.map_eq_some_iff] at e ⊢
    obtain ⟨x,h1,xs,h2,h3⟩:=e
    exact ⟨x,conc_mono h v x h1,xs,concL_mono h vs xs h2,h3⟩
end
theorem concL_length {μ:K→Option Loc}:∀(l:List AV) (cs:List Value),concL μ l=some cs→cs.length=l.length
  | [],cs,e=>by simp only [concL,Option.some.injEq] at e;subst e;rfl
  | v::vs,cs,e=>by
    simp only [concL,Option.bind_eq_some_iff,Option.map_eq_some_iff] at e
    obtain ⟨x,h1,xs,h2,rfl⟩:=e
    simp [concL_length vs xs h2]
theorem concL_append {μ:K→Option Loc}:∀(l l':List AV) (cs cs':List Value),concL μ l=some cs→concL μ l'=some cs'→concL μ (l++l')=some (cs++cs')
  | [],l',cs,cs',e,e'=>by simp only [concL,Option.some.injEq] at e;subst e;exact e'
  | v::vs,l',cs,cs',e,e'=>by
    simp only [concL,Option.bind_eq_some_iff,Option.map_eq_some_iff] at e
    obtain ⟨x,h1,xs,h2,rfl⟩:=e
    simp [concL,h1,concL_append vs l' xs cs' h2 e']
noncomputable def getL {α:Type} (l:List α):Nat→Option α:=@List.rec α (fun _=>Nat→Option α) (fun _=>none) (fun x _ ih n=>@Nat.casesOn (fun _=>Option α) n (some x) ih) l
noncomputable def consO {α:Type} (x:α) (o:Option (List α)):Option (List α):=@Option.rec (List α) (fun _=>Option (List α)) none (fun l=>some (x::l)) o
noncomputable def takeL {α:Type} (n:Nat):List α→Option (List α):=@Nat.rec (fun _=>List α→Option (List α)) (fun _=>some []) (fun _ ih l=>@List.casesOn α (fun _=>Option (List α)) l none (fun x xs=>consO x (ih xs))) n
noncomputable def dropL {α:Type} (n:Nat):List α→Option (List α):=@Nat.rec (fun _=>List α→Option (List α)) (fun l=>some l) (fun _ ih l=>@List.casesOn α (fun _=>Option (List α)) l none (fun _ xs=>ih xs)) n
noncomputable def subL {α:Type} (l:List α) (o n:Nat):Option (List α):=@Option.rec (List α) (fun _=>Option (List α)) none (fun r=>takeL n r) (dropL o l)
noncomputable def setLs {α:Type} (l:List α):Nat→List α→Option (List α):=@List.rec α (fun _=>Nat→List α→Option (List α))
  (fun o vs=>@Nat.casesOn (fun _=>Option (List α)) o (@List.casesOn α (fun _=>Option (List α)) vs (some []) (fun _ _=>none)) (fun _=>none))
  (fun x l ih o vs=>@Nat.casesOn (fun _=>Option (List α)) o (@List.casesOn α (fun _=>Option (List α)) vs (some (x::l)) (fun v vs=>consO v (ih 0 vs))) (fun o=>consO x (ih o vs))) l
theorem consO_some {α:Type} {x:α} {o:Option (List α)} {r:List α} (h:consO x o=some r):∃l,o=some l∧r=x::l:=by
  cases o with
  | none=>cases h
  | some l=>injection h with h;exact ⟨l,rfl,h.symm⟩
theorem getL_eq {α:Type}:∀(l:List α) (n:Nat),getL l n=l[n]?
  | [],_=>by simp [getL]
  | x::_,0=>rfl
  | x::xs,n+1=>by
    show getL xs n=_
    rw [getL_eq xs n];simp
theorem takeL_eq {α:Type}:∀(n:Nat) (l r:List α),takeL n l=some r→r=l.take n∧n≤l.length
  | 0,l,r,h=>by
    have h:some []=some r:=h
    injection h with h;subst h;simp
  | n+1,[],r,h=>by cases h
  | n+1,x::xs,r,h=>by
    obtain ⟨l,hl,rfl⟩:=consO_some (show consO x (takeL n xs)=some r from h)
    obtain ⟨h1,h2⟩:=takeL_eq n xs l hl
    exact ⟨by simp [h1],by simpa using h2⟩
theorem dropL_eq {α:Type}:∀(n:Nat) (l r:List α),dropL n l=some r→r=l.drop n∧n≤l.length
  | 0,l,r,h=>by
    have h:some l=some r:=h
    injection h with h;subst h;simp
  | n+1,[],r,h=>by cases h
  | n+1,x::xs,r,h=>by
    obtain ⟨h1,h2⟩:=dropL_eq n xs r h
    exact ⟨by simpa using h1,by simpa using h2⟩
theorem subL_eq {α:Type} {l:List α} {o n:Nat} {r:List α} (h:subL l o n=some r):r=(l.drop o).take n∧o+n≤l.length∧r.length=n:=by
  unfold subL at h
  cases hd:dropL o l with
  | none=>rw [hd] at h;cases h
  | some d =>
    rw [hd] at h
    obtain ⟨h1,h2⟩:=dropL_eq _ _ _ hd
    obtain ⟨h3,h4⟩:=takeL_eq _ _ _ h
    subst h1
    rw [List.length_drop] at h4
    refine ⟨h3,by omega,?_⟩
    rw [h3,List.length_take,List.length_drop]
    omega
theorem setLs_eq {α:Type}:∀(l:List α) (o:Nat) (vs r:List α),setLs l o vs=some r→r=l.take o++vs++l.drop (o+vs.length)∧o+vs.length≤l.length:=by
  intro l
  induction l with
  | nil =>
    intro o vs r h
    cases o with
    | zero=>cases vs with
      | nil =>
        have h:some []=some r:=h
        injection h with h;subst h;simp
      | cons v vs=>cases h
    | succ o=>cases h
  | cons x l ih =>
    intro o vs r h
    cases o with
    | zero=>cases vs with
      | nil =>
        have h:some (x::l)=some r:=h
        injection h with h;subst h;simp
      | cons v vs =>
        obtain ⟨q,hq,rfl⟩:=consO_some (show consO v (setLs l 0 vs)=some r from h)
        obtain ⟨h1,h2⟩:=ih 0 vs q hq
        simp only [List.take_zero,List.nil_append,Nat.zero_add] at h1 h2
        subst h1
        exact ⟨by simp,by simpa using h2⟩
    | succ o =>
      obtain ⟨q,hq,rfl⟩:=consO_some (show consO x (setLs l o vs)=some r from h)
      obtain ⟨h1,h2⟩:=ih o vs q hq
      subst h1
      refine ⟨?_,by simp only [List.length_cons];omega⟩
      rw [show o+1+vs.length=(o+vs.length)+1 by omega]
      simp
theorem concL_get {μ:K→Option Loc}:∀(l:List AV) (cs:List Value) (j:Nat) (v:AV),concL μ l=some cs→l[j]?=some v→∃c,cs[j]?=some c∧conc μ v=some c
  | [],_,_,_,_,e=>by simp at e
  | x::xs,cs,j,v,h,e=>by
    simp only [concL,Option.bind_eq_some_iff,Option.map_eq_some_iff] at h
    obtain ⟨c,h1,ds,h2,rfl⟩:=h
    cases j with
    | zero=>simp only [List.getElem?_cons_zero,Option.some.injEq] at e;subst e;exact ⟨c,by simp,h1⟩
    | succ j=>simp only [List.getElem?_cons_succ] at e ⊢;exact concL_get xs ds j v h2 e
theorem concL_take {μ:K→Option Loc}:∀(l:List AV) (cs:List Value) (n:Nat),concL μ l=some cs→concL μ (l.take n)=some (cs.take n)
  | [],cs,n,h=>by simp only [concL,Option.some.injEq] at h;subst h;simp [concL]
  | x::xs,cs,n,h=>by
    simp only [concL,Option.bind_eq_some_iff,Option.map_eq_some_iff] at h
    obtain ⟨c,h1,ds,h2,rfl⟩:=h
    cases n with
    | zero=>simp [concL]
    | succ n=>simp [concL,h1,concL_take xs ds n h2]
theorem concL_drop {μ:K→Option Loc}:∀(l:List AV) (cs:List Value) (n:Nat),concL μ l=some cs→concL μ (l.drop n)=some (cs.drop n)
  | [],cs,n,h=>by simp only [concL,Option.some.injEq] at h;subst h;simp [concL]
  | x::xs,cs,n,h=>by
    cases n with
    | zero=>exact h
    | succ n =>
      simp only [concL,Option.bind_eq_some_iff,Option.map_eq_some_iff] at h
      obtain ⟨c,h1,ds,h2,rfl⟩:=h
      simpa using concL_drop xs ds n h2
end Go.Proofs.YtoegffiapnnkiaaGreat.Abs
namespace Go.Proofs.YtoegffiapnnkiaaGreat.Abs
open Go
def tagg (P:Program) (t:TypeId):Option (Bool×Nat) :=
  match P.underlying t with
  | some (.struct _)|some (.array _ _)=>match P.info? t with
    | some i=>some (true,i.size)
    | none=>none
  | some _=>some (false,1)
  | none=>none
def tsize (P:Program) (t:TypeId):Option Nat:=match P.info? t with
  | some i=>some i.size
  | none=>none
noncomputable def zeroA (P:Program) (t:TypeId):Option AV:=match P.info? t with
  | some i=>match i.zero with
    | some z=>ofV z
    | none=>none
  | none=>none
noncomputable def ev (tm:Tm) (x:Operand):Option AV:=@Operand.rec (fun _=>T AV→Option AV) (fun i t=>T.get t (K.of i)) (fun v _=>ofV v) (fun _ _=>none) (fun f _=>some (.func f [] [])) x tm
noncomputable def cons2 {α:Type} (x:Option α) (o:Option (List α)):Option (List α):=@Option.rec α (fun _=>Option (List α)) none (fun v=>consO v o) x
noncomputable def evs (tm:Tm) (l:List Operand):Option (List AV):=@List.rec Operand (fun _=>Option (List AV)) (some []) (fun x _ ih=>cons2 (ev tm x) ih) l
noncomputable def lenL {α:Type} (l:List α):Nat:=@List.rec α (fun _=>Nat) 0 (fun _ _ ih=>Nat.succ ih) l
theorem lenL_eq {α:Type}:∀(l:List α),lenL l=l.length
  | []=>rfl
  | _::xs=>by rw [List.length_cons,←lenL_eq xs];rfl
theorem cons2_some {α:Type} {x:Option α} {o:Option (List α)} {r:List α} (h:cons2 x o=some r):∃v l,x=some v∧o=some l∧r=v::l:=by
  cases x with
  | none=>cases h
  | some v =>
    obtain ⟨l,h1,h2⟩:=consO_some (show consO v o=some r from h)
    exact ⟨v,l,rfl,h1,h2⟩
noncomputable def pureRun {α:Type} (P:Program):Sem α→Option α
  | .pure a=>some a
  | .program k=>pureRun P (k P)
  | _=>none
noncomputable def none0:K→Option Loc:=fun _=>none
noncomputable def optK {α β:Type} (k:α→Option β) (x:Option α):Option β:=@Option.rec α (fun _=>Option β) none k x
noncomputable def asPtr (v:AV):Option (K×Nat):=@AV.rec (fun _=>Option (K×Nat)) (fun _=>PUnit) (fun _=>none) (fun _ _=>none) (fun _=>none) (fun a=>a) (fun _ _ _=>none) (fun _=>none) (fun _ _ _ _ _=>none) none (fun _ _ _=>none) none (fun _ _=>none) (fun _ _=>none) PUnit.unit (fun _ _ _ _=>PUnit.unit) v
noncomputable def asInt (v:AV):Option (IntKind×Int):=@AV.rec (fun _=>Option (IntKind×Int)) (fun _=>PUnit) (fun _=>none) (fun k n=>some (k,n)) (fun _=>none) (fun _=>none) (fun _ _ _=>none) (fun _=>none) (fun _ _ _ _ _=>none) none (fun _ _ _=>none) none (fun _ _=>none) (fun _ _=>none) PUnit.unit (fun _ _ _ _=>PUnit.unit) v
noncomputable def asBool (v:AV):Option Bool:=@AV.rec (fun _=>Option Bool) (fun _=>PUnit) (fun b=>some b) (fun _ _=>none) (fun _=>none) (fun _=>none) (fun _ _ _=>none) (fun _=>none) (fun _ _ _ _ _=>none) none (fun _ _ _=>none) none (fun _ _=>none) (fun _ _=>none) PUnit.unit (fun _ _ _ _=>PUnit.unit) v
theorem asPtr_some {v:AV} {p:K×Nat} (h:asPtr v=some p):v=.ptr (some p):=by
  cases v with
  | ptr a=>exact congrArg AV.ptr h
  | _=>cases h
theorem asInt_some {v:AV} {p:IntKind×Int} (h:asInt v=some p):v=.int p.1 p.2:=by
  cases v with
  | int k n=>injection h with h;rw [←h]
  | _=>cases h
theorem asBool_some {v:AV} {b:Bool} (h:asBool v=some b):v=.bool b:=by
  cases v with
  | bool a=>injection h with h;rw [h]
  | _=>cases h
theorem optK_some {α β:Type} {k:α→Option β} {x:Option α} {r:β} (h:optK k x=some r):∃a,x=some a∧k a=some r:=by
  cases x with
  | none=>cases h
  | some a=>exact ⟨a,rfl,h⟩
noncomputable def rdl (b:Bk):Option (List AV):=@Bk.rec (fun _=>Option (List AV)) (fun l _ _ _=>some l) (fun l=>some l) (fun _ _=>none) (fun l _ _ _=>some l) b
noncomputable def cellsAt (h:T Bk) (i:K):Option (List AV):=optK rdl (T.get h i)
noncomputable def newB (s:St) (b:Bk):St:=⟨T.set s.hp s.nx b,K.succ s.nx⟩
noncomputable def setB (s:St) (i:K) (b:Bk):St:=⟨T.set s.hp i b,s.nx⟩
noncomputable def aggO (x:Option (List AV)):Option AV:=optK (fun r=>some (.agg r)) x
noncomputable def partB (l:List AV) (o:Nat) (x:Bool×Nat):Option AV:=@Bool.rec (fun _=>Option AV) (getL l o) (aggO (subL l o x.2)) x.1
noncomputable def partA (P:Program) (t:TypeId) (l:List AV) (o:Nat):Option AV:=optK (partB l o) (tagg P t)
noncomputable def loadAt (P:Program) (t:TypeId) (h:T Bk) (p:K×Nat):Option AV:=optK (fun l=>partA P t l p.2) (cellsAt h p.1)
noncomputable def opLoad (P:Program) (t:TypeId) (a:Option AV) (s:St):Option AV:=optK (loadAt P t s.hp) (optK asPtr a)
noncomputable def allLeaf (l:List AV):Bool:=@List.rec AV (fun _=>Bool) true (fun v _ ih=>@Bool.rec (fun _=>Bool) false ih v.leaf) l
noncomputable def opStore (P:Program) (t:TypeId) (a x:Option AV) (s:St):Option St:=match a,x with
  | some (.ptr (some (i,o))),some v=>match T.get s.hp i with
    | some (.cells l e z f)=>match tsize P t with
      | some n=>match Nat.beq (lenL v.parts) n,allLeaf v.parts with
        | true,true=>match setLs l o v.parts with
          | some l'=>some (setB s i (.cells l' e z f))
          | none=>none
        | _,_=>none
      | none=>none
    | _=>none
  | _,_=>none
noncomputable def opAlloc (P:Program) (t:TypeId) (s:St):Option (AV×St):=match zeroA P t with
  | some z=>some (.ptr (some (s.nx,0)),newB s (.cells z.parts t (lenL z.parts) true))
  | none=>none
noncomputable def opBox (t:TypeId) (x:Option AV) (s:St):Option (AV×St):=match x with
  | some v=>some (.ptr (some (s.nx,0)),newB s (.cells v.parts t (lenL v.parts) true))
  | none=>none
noncomputable def eqN (l:List Nat):List Nat→Bool:=@List.rec Nat (fun _=>List Nat→Bool) (fun m=>@List.casesOn Nat (fun _=>Bool) m true (fun _ _=>false))
  (fun x _ ih m=>@List.casesOn Nat (fun _=>Bool) m false (fun y ys=>@Bool.rec (fun _=>Bool) false (ih ys) (Nat.beq (Nat.mod x 256) (Nat.mod y 256)))) l
noncomputable def ltN:List Nat→List Nat→Bool
  | _,[]=>false
  | [],_::_=>true
  | x::xs,y::ys=>match Nat.blt (x%256) (y%256) with
    | true=>true
    | false=>match Nat.beq (x%256) (y%256) with
      | true=>ltN xs ys
      | false=>false
def kidx:IntKind→Nat
  | .i8=>0|.i16=>1|.i32=>2|.i64=>3|.u8=>4|.u16=>5|.u32=>6|.u64=>7
def kindEq (k k':IntKind):Bool:=Nat.beq (kidx k) (kidx k')
def lim:IntKind→Nat
  | .i8=>128|.i16=>32768|.i32=>2147483648|.i64=>9223372036854775808|.u8=>256|.u16=>65536|.u32=>4294967296|.u64=>18446744073709551616
def isSig:IntKind→Bool
  | .i8=>true|.i16=>true|.i32=>true|.i64=>true|.u8=>false|.u16=>false|.u32=>false|.u64=>false
def wrapF (k:IntKind):Int→Int
  | .ofNat m=>match Nat.blt m (lim k) with
    | true=>.ofNat m
    | false=>k.wrap (.ofNat m)
  | .negSucc m=>match isSig k&&Nat.blt m (lim k) with
    | true=>.negSucc m
    | false=>k.wrap (.negSucc m)
def ieqb:Int→Int→Bool
  | .ofNat a,.ofNat b=>Nat.beq a b
  | .negSucc a,.negSucc b=>Nat.beq a b
  | _,_=>false
def iltb:Int→Int→Bool
  | .ofNat a,.ofNat b=>Nat.blt a b
  | .ofNat _,.negSucc _=>false
  | .negSucc _,.ofNat _=>true
  | .negSucc a,.negSucc b=>Nat.blt b a
def ileb:Int→Int→Bool
  | .ofNat a,.ofNat b=>Nat.ble a b
  | .ofNat _,.negSucc _=>false
  | .negSucc _,.ofNat _=>true
  | .negSucc a,.negSucc b=>Nat.ble b a
def iadd:Int→Int→Int
  | .ofNat a,.ofNat b=>.ofNat (Nat.add a b)
  | a,b=>Int.add a b
theorem kindEq_eq {k k':IntKind} (h:kindEq k k'=true):k=k':=by
  cases k<;>cases k'<;>first|rfl|(simp [kindEq,kidx] at h)
theorem wrap_in (k:IntKind) (n:Int) (h0:(if isSig k=true then -(lim k:Int) else 0)≤n) (h1:n<lim k):k.wrap n=n:=by
  cases k<;>simp only [lim,isSig,if_true,Bool.false_eq_true,if_false] at h0 h1<;>simp only [IntKind.wrap,IntKind.bits,IntKind.signed,Bool.true_and,Bool.false_and,Bool.false_eq_true,if_false,decide_eq_true_eq,Int.reducePow,Nat.reduceSub,ge_iff_le]<;>omega
theorem wrapF_eq (k:IntKind) (n:Int):wrapF k n=k.wrap n:=by
  cases n with
  | ofNat m =>
    simp only [wrapF]
    cases h:Nat.blt m (lim k)
    · rfl
    · have h:m<lim k:=by simpa [Nat.blt_eq] using h
      refine (wrap_in k _ ?_ ?_).symm
      · split<;>simp<;>omega
      · simp;omega
  | negSucc m =>
    simp only [wrapF]
    cases h:(isSig k&&Nat.blt m (lim k))
    · rfl
    · simp only [Bool.and_eq_true] at h
      have h2:m<lim k:=by simpa [Nat.blt_eq] using h.2
      refine (wrap_in k (Int.negSucc m) ?_ ?_).symm
      · rw [if_pos h.1];omega
      · omega
theorem ieqb_eq (a b:Int):ieqb a b=(a==b):=by
  cases a<;>cases b<;>simp only [ieqb]<;>rw [Bool.eq_iff_iff]<;>simp [Nat.beq_eq]<;>omega
theorem iltb_eq (a b:Int):iltb a b=decide (a<b):=by
  cases a<;>cases b<;>rw [Bool.eq_iff_iff]<;>simp [iltb,Nat.blt_eq]<;>omega
theorem ileb_eq (a b:Int):ileb a b=decide (a≤b):=by
  cases a<;>cases b<;>rw [Bool.eq_iff_iff]<;>simp [ileb,Nat.ble_eq]<;>omega
theorem iadd_eq (a b:Int):iadd a b=a+b:=by cases a<;>cases b<;>rfl
noncomputable def sameK (k k':IntKind) (v:Option AV):Option AV:=@Bool.rec (fun _=>Option AV) none v (kindEq k k')
noncomputable def intBin (op:BinOp):IntKind→Int→IntKind→Int→Option AV:=@BinOp.rec (fun _=>IntKind→Int→IntKind→Int→Option AV)
  (fun k a k' b=>sameK k k' (some (.int k (wrapF k (iadd a b)))))
  (fun k a k' b=>sameK k k' (some (.int k (wrapF k (Int.sub a b)))))
  (fun k a k' b=>sameK k k' (some (.int k (wrapF k (Int.mul a b)))))
  (fun k a k' b=>sameK k k' (if b=0 then none else some (.int k (wrapF k (a.tdiv b)))))
  (fun k a k' b=>sameK k k' (if b=0 then none else some (.int k (a.tmod b))))
  (fun k a k' b=>sameK k k' (some (.int k (k.wrap (BitVec.ofInt k.bits a &&& BitVec.ofInt k.bits b).toNat))))
  (fun k a k' b=>sameK k k' (some (.int k (k.wrap (BitVec.ofInt k.bits a ||| BitVec.ofInt k.bits b).toNat))))
  (fun k a k' b=>sameK k k' (some (.int k (k.wrap (BitVec.ofInt k.bits a ^^^ BitVec.ofInt k.bits b).toNat))))
  (fun k a _ b=>if b<0 then none else some (.int k (wrapF k (a * 2^(min b.toNat k.bits)))))
  (fun k a _ b=>if b<0 then none else some (.int k (a.fdiv (2^(min b.toNat k.bits)))))
  (fun _ _ _ _=>none)
  (fun k a k' b=>sameK k k' (some (.bool (ieqb a b))))
  (fun k a k' b=>sameK k k' (some (.bool (!ieqb a b))))
  (fun k a k' b=>sameK k k' (some (.bool (iltb a b))))
  (fun k a k' b=>sameK k k' (some (.bool (ileb a b))))
  (fun k a k' b=>sameK k k' (some (.bool (iltb b a))))
  (fun k a k' b=>sameK k k' (some (.bool (ileb b a))))
  op
noncomputable def strBin (op:BinOp) (a b:List Nat):Option AV:=match op with
  | .add=>if a.length+b.length≤9223372036854775807 then some (.str (a++b)) else none
  | .eql=>some (.bool (eqN a b))
  | .neq=>some (.bool (!eqN a b))
  | .lss=>some (.bool (ltN a b))
  | .leq=>some (.bool (ltN a b||eqN a b))
  | .gtr=>some (.bool (!(ltN a b||eqN a b)))
  | .geq=>some (.bool (!ltN a b))
  | _=>none
noncomputable def eqDeep (P:Program) (t:TypeId) (x y:AV):Option Bool:=match conc none0 x,conc none0 y with
  | some X,some Y=>match pureRun P (eqGuard .eql t (.tmp 0) (.tmp 0) X Y) with
    | some _=>pureRun P (Op.equal t X Y)
    | none=>none
  | _,_=>none
noncomputable def eqFs (rec:TypeId→AV→AV→Option Bool) (P:Program) (xs ys:List AV):List Field→Option Bool
  | []=>some true
  | f::fs=>match eqFs rec P xs ys fs with
    | none=>none
    | some q=>match f.name == "_" with
      | true=>some q
      | false=>match partA P f.type xs f.offset,partA P f.type ys f.offset with
        | some a,some b=>match rec f.type a b with
          | some r=>some (r&&q)
          | none=>none
        | _,_=>none
noncomputable def eqS (P:Program):Nat→TypeId→AV→AV→Option Bool
  | 0,_,_,_=>none
  | d+1,t,x,y=>match P.underlying t,x,y with
    | some (.int _),.int k a,.int k' b=>match kindEq k k' with
      | true=>some (ieqb a b)
      | false=>none
    | some .bool,.bool a,.bool b=>some (a==b)
    | some .string,.str a,.str b=>some (eqN a b)
    | some (.struct fs),.agg xs,.agg ys=>match P.stoodInHeld t with
      | true=>none
      | false=>eqFs (eqS P d) P xs ys fs.toList
    | _,_,_=>none
noncomputable def eqStr (P:Program) (t:TypeId) (x y:AV):Option Bool:=match P.eqGuardType P.depth t,eqS P 8 t x y with
  | false,some b=>some b
  | _,_=>eqDeep P t x y
noncomputable def eqA (P:Program) (t:TypeId) (x y:AV):Option Bool:=match P.underlying t,x,y with
  | some .bool,.bool a,.bool b=>some (a==b)
  | some (.pointer _),.ptr none,.ptr b=>some b.isNone
  | some (.pointer _),.ptr (some _),.ptr none=>some false
  | some (.slice _),.slice none _ (.ex _),.slice none _ (.ex _)=>some true
  | some (.slice _),.slice none _ (.ex _),.slice (some _) _ _=>some false
  | some (.slice _),.slice (some _) _ _,.slice none _ (.ex _)=>some false
  | some (.map _ _),.map none,.map b=>some b.isNone
  | some (.map _ _),.map (some _),.map none=>some false
  | some (.struct _),.agg xs,.agg ys=>eqStr P t (.agg xs) (.agg ys)
  | some (.array _ _),.agg xs,.agg ys=>eqDeep P t (.agg xs) (.agg ys)
  | _,_,_=>none
noncomputable def binOther (op:BinOp) (P:Program) (t:TypeId) (v u:AV):Option AV:=match op with
  | .eql=>match eqA P t v u with
    | some b=>some (.bool b)
    | none=>none
  | .neq=>match eqA P t v u with
    | some b=>some (.bool (!b))
    | none=>none
  | _=>none
noncomputable def opBin2 (P:Program) (op:BinOp) (t:TypeId) (x y:Option AV):Option AV:=match x,y with
  | some (.str a),some (.str b)=>strBin op a b
  | some v,some u=>binOther op P t v u
  | _,_=>none
noncomputable def opBin (P:Program) (op:BinOp) (t:TypeId) (x y:Option AV):Option AV:=@Option.rec (IntKind×Int) (fun _=>Option AV) (opBin2 P op t x y)
  (fun p=>optK (fun q=>intBin op p.1 p.2 q.1 q.2) (optK asInt y)) (optK asInt x)
noncomputable def opUn (op:UnOp) (x:Option AV):Option AV:=match op,x with
  | .not,some (.bool b)=>some (.bool (!b))
  | .neg,some (.int k n)=>some (.int k (k.wrap (0-n)))
  | _,_=>none
noncomputable def opConv (P:Program) (src dst:TypeId) (x:Option AV):Option AV:=match P.underlying src,P.underlying dst,x with
  | some _,some (.int k),some (.int _ n)=>some (.int k (k.wrap n))
  | some _,some .string,some (.str s)=>some (.str s)
  | _,_,_=>none
noncomputable def bytesA (s:List Nat):List AV:=s.map fun b=>.int .u8 (b%256:Nat)
noncomputable def textA:List AV→Option (List Nat)
  | []=>some []
  | .int .u8 n::l=>match textA l with
    | some r=>some (n.toNat::r)
    | none=>none
  | _::_=>none
noncomputable def opBytes (P:Program) (e:TypeId) (x:Option AV) (st:St):Option (AV×St):=match x,P.underlying e with
  | some (.str s),some (.int .u8)=>some (.slice (some (st.nx,0)) (lenL s) (.own 0),newB st (.cells (bytesA s) e 1 false))
  | _,_=>none
noncomputable def opText (P:Program) (e:TypeId) (x:Option AV) (st:St):Option AV:=match x,P.underlying e with
  | some (.slice none _ (.ex _)),some (.int .u8)=>some (.str [])
  | some (.slice (some (i,o)) n _),some (.int .u8)=>match cellsAt st.hp i with
    | some l=>match subL l o n with
      | some cs=>match textA cs with
        | some r=>some (.str r)
        | none=>none
      | none=>none
    | none=>none
  | _,_=>none
noncomputable def cvM (P:Program) (a b:TypeId):Bool:=match P.underlying a,P.underlying b with
  | some (.slice _),_=>true
  | _,some (.slice _)=>true
  | _,_=>false
noncomputable def fillA (place:Nat→Option (Nat×Nat)):List AV→List (Nat×AV)→Option (List AV)
  | cs,[]=>some cs
  | cs,(i,v)::rest=>match place i with
    | some (o,n)=>match Nat.beq (lenL v.parts) n,setLs cs o v.parts with
      | true,some cs'=>fillA place cs' rest
      | _,_=>none
    | none=>none
noncomputable def evPart (tm:Tm) (p:Nat×Operand):Option (Nat×AV):=@Option.rec AV (fun _=>Option (Nat×AV)) none (fun v=>some (p.1,v)) (ev tm p.2)
noncomputable def evParts (tm:Tm) (l:List (Nat×Operand)):Option (List (Nat×AV)):=@List.rec (Nat×Operand) (fun _=>Option (List (Nat×AV))) (some []) (fun x _ ih=>cons2 (evPart tm x) ih) l
noncomputable def placesOf (P:Program) (fs:List Field):Option (List (Nat×Nat)):=fs.mapM fun f=>(P.info? f.type).map fun i=>(f.offset,i.size)
noncomputable def opBuild (P:Program) (t:TypeId) (parts:Option (List (Nat×AV))):Option AV:=match parts,zeroA P t,P.underlying t with
  | some ps,some z,some (.struct fs)=>match placesOf P fs.toList with
    | some pl=>match fillA (getL pl) z.parts ps with
      | some cs=>some (.agg cs)
      | none=>none
    | none=>none
  | some ps,some z,some (.array _ e)=>match tsize P e with
    | some n=>match fillA (fun i=>some (i * n,n)) z.parts ps with
      | some cs=>some (.agg cs)
      | none=>none
    | none=>none
  | _,_,_=>none
noncomputable def repL {α:Type}:Nat→List α→List α
  | 0,_=>[]
  | n+1,l=>l++repL n l
noncomputable def opBuildSlice (P:Program) (t:TypeId) (len:Nat) (parts:Option (List (Nat×AV))) (s:St):Option (AV×St):=match parts,P.underlying t with
  | some ps,some (.slice e)=>match tsize P e,zeroA P e with
    | some n,some z=>if len * n≤16777216∧z.parts.length=n∧0<n then match fillA (fun i=>some (i * n,n)) (repL len z.parts) ps with
        | some cs=>some (.slice (some (s.nx,0)) len (.ex len),newB s (.cells cs e n true))
        | none=>none
      else none
    | _,_=>none
  | _,_=>none
noncomputable def opField (P:Program) (t:TypeId) (x:Option AV) (f:Nat):Option AV:=match P.underlying t,x with
  | some (.struct fs),some (.agg l)=>match getL fs.toList f with
    | some d=>partA P d.type l d.offset
    | none=>none
  | _,_=>none
def offOf (P:Program) (t:TypeId) (f:Nat):Option Nat:=match P.underlying t with
  | some (.struct fs)=>match fs.toList[f]? with
    | some d=>match tsize P d.type with
      | some (_+1)=>some d.offset
      | _=>none
    | none=>none
  | _=>none
noncomputable def ptrAt (p:K×Nat) (o:Nat):Option AV:=some (.ptr (some (p.1,Nat.add p.2 o)))
noncomputable def opFieldAddr (P:Program) (t:TypeId) (x:Option AV) (f:Nat):Option AV:=optK (fun p=>optK (ptrAt p) (offOf P t f)) (optK asPtr x)
noncomputable def opIndex (P:Program) (t:TypeId) (x ix:Option AV):Option AV:=match P.underlying t,x,ix with
  | some .string,some (.str s),some (.int _ (.ofNat i))=>match getL s i with
    | some b=>some (.int .u8 (.ofNat (Nat.mod b 256)))
    | none=>none
  | some (.array len e),some (.agg l),some (.int _ (.ofNat i))=>match Nat.blt i len,tsize P e with
    | true,some n=>partA P e l (Nat.mul i n)
    | _,_=>none
  | _,_,_=>none
noncomputable def opIndexAddr (P:Program) (t:TypeId) (x ix:Option AV):Option AV:=match P.underlying t,x,ix with
  | some (.slice e),some (.slice (some (j,o)) len _),some (.int _ (.ofNat i))=>match Nat.blt i len,tsize P e with
    | true,some n=>some (.ptr (some (j,Nat.add o (Nat.mul i n))))
    | _,_=>none
  | some (.array len e),some (.ptr (some (j,o))),some (.int _ (.ofNat i))=>match Nat.blt i len,tsize P e with
    | true,some n=>some (.ptr (some (j,Nat.add o (Nat.mul i n))))
    | _,_=>none
  | _,_,_=>none
noncomputable def evO (tm:Tm):Option Operand→Option (Option AV)
  | none=>some none
  | some x=>match ev tm x with
    | some v=>some (some v)
    | none=>none
noncomputable def bound1 (most:Nat) (dflt:Nat):Option AV→Option Nat
  | none=>some dflt
  | some (.int _ i)=>if 0≤i∧i≤most then some i.toNat else none
  | _=>none
def capM (c:Cp) (len:Nat):Nat:=match c with
  | .ex k=>k
  | .own _=>len
noncomputable def cutCap (c:Cp) (l:Nat):Cp:=match c with
  | .ex n=>.ex (n-l)
  | .own s=>.own (s+l)
noncomputable def opSlice (P:Program) (t:TypeId) (x:Option AV) (lo hi mx:Option (Option AV)):Option AV:=match P.underlying t,x,lo,hi,mx with
  | some .string,some (.str s),some lo,some hi,some none=>match bound1 s.length s.length hi with
    | some h=>match bound1 h 0 lo with
      | some l=>match subL s l (h-l) with
        | some r=>some (.str r)
        | none=>none
      | none=>none
    | none=>none
  | some (.slice e),some (.slice a len c),some lo,some hi,some none=>match tsize P e with
    | some n=>match bound1 (capM c len) len hi with
      | some h=>match bound1 h 0 lo with
        | some l=>match a with
          | none=>match c with
            | .ex q=>if l=0 then some (.slice none h (.ex q)) else none
            | .own _=>none
          | some (i,o)=>if l=0 then some (.slice (some (i,o)) h c)
            else if l<(capM c len) then some (.slice (some (i,o+l * n)) (h-l) (cutCap c l))
            else match c with
              | .ex k=>if k=l then some (.slice (some (i,o)) (h-l) (.ex 0)) else none
              | .own _=>none
        | none=>none
      | none=>none
    | none=>none
  | some (.slice e),some (.slice a len c),some lo,some (some hi),some (some mx)=>match tsize P e with
    | some n=>match bound1 (capM c len) 0 (some mx) with
      | some m=>match bound1 m 0 (some hi) with
        | some h=>match bound1 h 0 lo with
          | some l=>match a with
            | none=>match c with
              | .ex _=>if l=0 then some (.slice none h (.ex m)) else none
              | .own _=>none
            | some (i,o)=>if l=0 then some (.slice (some (i,o)) h (.ex m))
              else if m=l then some (.slice (some (i,o)) (h-l) (.ex 0))
              else some (.slice (some (i,o+l * n)) (h-l) (.ex (m-l)))
          | none=>none
        | none=>none
      | none=>none
    | none=>none
  | some (.array len e),some (.ptr (some (i,o))),some lo,some hi,some none=>match tsize P e with
    | some n=>match bound1 len len hi with
      | some h=>match bound1 h 0 lo with
        | some l=>if l=0 then some (.slice (some (i,o)) h (.ex len)) else if len=l then some (.slice (some (i,o)) (h-l) (.ex 0)) else some (.slice (some (i,o+l * n)) (h-l) (.ex (len-l)))
        | none=>none
      | none=>none
    | none=>none
  | _,_,_,_,_=>none
noncomputable def opMakeSlice (P:Program) (t:TypeId) (len cap:Option AV) (s:St):Option (AV×St):=match P.underlying t,len,cap with
  | some (.slice e),some (.int _ l),some (.int _ c)=>match P.info? e,zeroA P e with
    | some inf,some z=>if 0≤l∧l≤c∧c≤9223372036854775807∧inf.bytes * c≤281474976710656∧z.parts.length=inf.size∧0<inf.size then
        some (.slice (some (s.nx,0)) l.toNat (.ex c.toNat),newB s (.cells (repL c.toNat z.parts) e inf.size true))
      else none
    | _,_=>none
  | _,_,_=>none
noncomputable def srcCells (n m:Nat) (x:AV) (h:T Bk):Option (List AV):=match x with
  | .slice none _ _=>if m=0 then some [] else none
  | .slice (some (i,o)) _ _=>if m=0 then some [] else match cellsAt h i with
    | some l=>subL l o (m * n)
    | none=>none
  | .str s=>if n=1 then match takeL m s with
      | some r=>some (r.map fun b=>.int .u8 (b%256:Nat))
      | none=>none
    else none
  | _=>none
noncomputable def lenA:AV→Option Nat
  | .slice _ n _=>some n
  | .str s=>some s.length
  | _=>none
noncomputable def notInt:Option TypeDesc→Bool
  | some (.int _)=>false
  | none=>false
  | _=>true
noncomputable def opAppend (P:Program) (ts:List TypeId) (s x:AV) (st:St):Option (AV×St):=match ts,s with
  | [t,u],.slice a len c=>match P.underlying t,notInt (P.underlying u),lenA x with
    | some (.slice e),true,some m=>match P.info? e,zeroA P e with
      | some inf,some z=>if z.parts.length=inf.size∧0<inf.size∧0<inf.bytes∧len+m≤9223372036854775807∧(len+m) * inf.bytes≤140737488355328 then
          match srcCells inf.size m x st.hp with
          | some news=>match allLeaf news with
            | true=>if m=0 then match a with
                | none=>if len=0 then some (s,st) else none
                | some _=>some (s,st)
              else match a,c with
              | none,.ex 0=>if len=0 then some (.slice (some (st.nx,0)) m (.own 0),newB st (.cells news e inf.size false)) else none
              | some (i,0),.own 0=>match T.get st.hp i with
                | some (.cells l e' z' false)=>if e'=e∧z'=inf.size then match takeL (len * inf.size) l with
                    | some old=>some (.slice (some (st.nx,0)) (len+m) (.own 0),⟨T.set (T.del st.hp i) st.nx (.cells (old++news) e inf.size false),K.succ st.nx⟩)
                    | none=>none
                  else none
                | _=>none
              | some (i,o),.ex k=>if len+m≤k then match T.get st.hp i with
                  | some (.cells l e' z' f)=>match setLs l (o+len * inf.size) news with
                    | some l'=>some (.slice (some (i,o)) (len+m) (.ex k),setB st i (.cells l' e' z' f))
                    | none=>none
                  | _=>none
                else if len≤k then match cellsAt st.hp i with
                  | some l=>match subL l o (len * inf.size) with
                    | some old=>some (.slice (some (st.nx,0)) (len+m) (.own 0),newB st (.cells (old++news) e inf.size false))
                    | none=>none
                  | none=>none
                else none
              | _,_=>none
            | false=>none
          | none=>none
        else none
      | _,_=>none
    | _,_,_=>none
  | _,_=>none
noncomputable def grownK (h:T Bk) (i:K):Option (List AV×TypeId×Nat×Nat):=match T.get h i with
  | some (.cells l e z false)=>some (l,e,z,0)
  | some (.kept l e z n)=>some (l,e,z,n)
  | _=>none
noncomputable def opAppendK (P:Program) (ts:List TypeId) (s x:AV) (st:St):Option (AV×St):=match ts,s with
  | [t,u],.slice (some (i,0)) len (.own 0)=>match P.underlying t,notInt (P.underlying u),lenA x with
    | some (.slice e),true,some m=>match P.info? e,zeroA P e with
      | some inf,some z=>if z.parts.length=inf.size∧0<inf.size∧0<inf.bytes∧len+m≤9223372036854775807∧(len+m) * inf.bytes≤140737488355328 then
          match srcCells inf.size m x st.hp with
          | some news=>match allLeaf news with
            | true=>if m=0 then some (s,st) else match grownK st.hp i with
              | some (l,e',z',n0)=>if e'=e∧z'=inf.size∧n0≤len * inf.size then match takeL (len * inf.size) l with
                  | some old=>some (.slice (some (st.nx,0)) (len+m) (.own 0),⟨T.set (T.set st.hp i (.view old)) st.nx (.kept (old++news) e inf.size (len * inf.size)),K.succ st.nx⟩)
                  | none=>none
                else none
              | none=>none
            | false=>none
          | none=>none
        else none
      | _,_=>none
    | _,_,_=>none
  | _,_=>opAppend P ts s x st
noncomputable def opCopy (P:Program) (ts:List TypeId) (d x:AV) (st:St):Option (AV×St):=match ts,d with
  | t::_,.slice (some (i,o)) len _=>match P.underlying t,lenA x with
    | some (.slice e),some m=>match tsize P e with
      | some n=>match srcCells n (Nat.min m len) x st.hp with
        | some news=>match allLeaf news,T.get st.hp i with
          | true,some (.cells l e' z' f)=>match setLs l o news with
            | some l'=>some (.int .i64 (Nat.min m len:Nat),setB st i (.cells l' e' z' f))
            | none=>none
          | _,_=>none
        | none=>none
      | none=>none
    | _,_=>none
  | _,_=>none
mutual
noncomputable def sameA:AV→AV→Bool
  | .bool a,.bool b=>a==b
  | .int k a,.int k' b=>(if k=k' then true else false)&&(if a=b then true else false)
  | .str a,.str b=>sameN a b
  | .ptr none,.ptr none=>true
  | .ptr (some (i,o)),.ptr (some (j,p))=>K.beq i j&&Nat.beq o p
  | .slice none n (.ex c),.slice none m (.ex d)=>Nat.beq n m&&Nat.beq c d
  | .slice none n (.own c),.slice none m (.own d)=>Nat.beq n m&&Nat.beq c d
  | .slice (some (i,o)) n (.ex c),.slice (some (j,p)) m (.ex d)=>K.beq i j&&Nat.beq o p&&Nat.beq n m&&Nat.beq c d
  | .slice (some (i,o)) n (.own c),.slice (some (j,p)) m (.own d)=>K.beq i j&&Nat.beq o p&&Nat.beq n m&&Nat.beq c d
  | .map none,.map none=>true
  | .map (some i),.map (some j)=>K.beq i j
  | .nilFunc,.nilFunc=>true
  | .nilIface,.nilIface=>true
  | .func f a b,.func g c d=>Nat.beq f g&&sameL a c&&sameL b d
  | .iface t v,.iface u w=>Nat.beq t u&&sameA v w
  | .agg a,.agg b=>sameL a b
  | .tup a,.tup b=>sameL a b
  | _,_=>false
noncomputable def sameL:List AV→List AV→Bool
  | [],[]=>true
  | a::l,b::m=>sameA a b&&sameL l m
  | _,_=>false
noncomputable def sameN:List Nat→List Nat→Bool
  | [],[]=>true
  | a::l,b::m=>Nat.beq a b&&sameN l m
  | _,_=>false
end
def plainLeaf:AV→Bool
  | .bool _|.int _ _|.str _=>true
  | _=>false
def plainAll:List AV→Bool
  | []=>true
  | v::vs=>plainLeaf v&&plainAll vs
def plainKey:AV→Bool
  | .agg l=>plainAll l
  | v=>plainLeaf v
noncomputable def keyEq (P:Program) (kt:TypeId) (x y:AV):Option Bool:=match P.underlying kt,x,y with
  | some (.int _),.int k a,.int k' b=>if k=k' then some (a==b) else none
  | some .string,.str a,.str b=>some (eqN a b)
  | some (.struct _),.agg xs,.agg ys=>eqStr P kt (.agg xs) (.agg ys)
  | _,_,_=>none
noncomputable def findA (P:Program) (kt:TypeId) (k:AV):List (AV×AV×Nat)→Nat→Option (Option (Nat×AV))
  | [],_=>some none
  | (k',v,_)::es,i=>match keyEq P kt k k' with
    | some true=>some (some (i,v))
    | some false=>findA P kt k es (i+1)
    | none=>none
noncomputable def keyOk (P:Program) (kt:TypeId) (empty:Bool) (k:AV):Bool:=match conc none0 k with
  | some K=>match pureRun P (Instr.checkKey empty 10000 kt K) with
    | some _=>match P.underlying kt with
      | some (.int _)|some .string=>true
      | some (.struct _)=>true
      | _=>false
    | none=>false
  | none=>false
noncomputable def opLookup (P:Program) (t:TypeId) (m k:Option AV) (ok:Bool) (st:St):Option AV:=match P.underlying t,m,k with
  | some (.map kt et),some (.map (some i)),some k=>match T.get st.hp i with
    | some (.mp es _)=>match keyOk P kt es.isEmpty k,findA P kt k es 0,zeroA P et with
      | true,some (some (_,v)),_=>some (if ok then .tup [v,.bool true] else v)
      | true,some none,some z=>some (if ok then .tup [z,.bool false] else z)
      | _,_,_=>none
    | _=>none
  | some (.map kt et),some (.map none),some k=>match keyOk P kt true k,zeroA P et with
    | true,some z=>some (if ok then .tup [z,.bool false] else z)
    | _,_=>none
  | _,_,_=>none
noncomputable def setN {α:Type}:List α→Nat→(α→α)→List α
  | [],_,_=>[]
  | x::xs,0,f=>f x::xs
  | x::xs,n+1,f=>x::setN xs n f
noncomputable def delN {α:Type}:List α→Nat→List α
  | [],_=>[]
  | _::xs,0=>xs
  | x::xs,n+1=>x::delN xs n
noncomputable def opMapUpdate (P:Program) (t:TypeId) (m k x:Option AV) (st:St):Option St:=match P.underlying t,m,k,x with
  | some (.map kt _),some (.map (some i)),some k,some v=>match T.get st.hp i with
    | some (.mp es c)=>match keyOk P kt false k,findA P kt k es 0 with
      | true,some (some (j,_))=>match getL es j with
        | some e=>match sameA k e.1&&plainKey k with
          | true=>some (setB st i (.mp (setN es j fun e=>(k,v,e.2.2)) c))
          | false=>none
        | none=>none
      | true,some none=>some (setB st i (.mp (es++[(k,v,c)]) (c+1)))
      | _,_=>none
    | _=>none
  | _,_,_,_=>none
noncomputable def opDelete (P:Program) (ts:List TypeId) (m k:AV) (st:St):Option St:=match ts,m with
  | t::_,.map (some i)=>match P.underlying t,T.get st.hp i with
    | some (.map kt _),some (.mp es c)=>match keyOk P kt es.isEmpty k,findA P kt k es 0 with
      | true,some (some (j,_))=>some (setB st i (.mp (delN es j) c))
      | true,some none=>some st
      | _,_=>none
    | _,_=>none
  | _,_=>none
noncomputable def opClear (P:Program) (ts:List TypeId) (m:AV) (st:St):Option St:=match ts,m with
  | t::_,.map (some i)=>match P.underlying t,T.get st.hp i with
    | some (.map _ _),some (.mp _ c)=>some (setB st i (.mp [] c))
    | _,_=>none
  | _,_=>none
noncomputable def opLen (P:Program) (ts:List TypeId) (x:AV) (st:St):Option AV:=match ts with
  | t::_=>match P.underlying t,x with
    | some .string,.str s=>some (.int .i64 (s.length:Nat))
    | some (.slice _),.slice _ n _=>some (.int .i64 (n:Nat))
    | some (.array n _),_=>some (.int .i64 (n:Nat))
    | some (.map _ _),.map none=>some (.int .i64 0)
    | some (.map _ _),.map (some i)=>match T.get st.hp i with
      | some (.mp es _)=>some (.int .i64 (es.length:Nat))
      | _=>none
    | some (.pointer a),_=>match P.underlying a with
      | some (.array n _)=>some (.int .i64 (n:Nat))
      | _=>none
    | _,_=>none
  | []=>none
noncomputable def opCap (P:Program) (ts:List TypeId) (x:AV):Option AV:=match ts with
  | t::_=>match P.underlying t,x with
    | some (.slice _),.slice _ _ (.ex n)=>some (.int .i64 (n:Nat))
    | _,_=>none
  | []=>none
noncomputable def foldMM (least:Bool):AV→List AV→Option AV
  | .int k a,[]=>some (.int k a)
  | .int k a,.int _ b::r=>foldMM least (.int k (if least then (if b<a then b else a) else (if b>a then b else a))) r
  | _,_=>none
noncomputable def opMM (least:Bool) (xs:List AV):Option AV:=match xs with
  | x::r=>foldMM least x r
  | []=>none
end Go.Proofs.YtoegffiapnnkiaaGreat.Abs
namespace Go.Proofs.YtoegffiapnnkiaaGreat.Abs
open Go
inductive CR where
  | ret (v:AV) (s:St)
  | pan (v:AV) (s:St)
  | no
noncomputable def ofO (v:Option AV) (s:St):CR:=@Option.rec AV (fun _=>CR) .no (fun v=>.ret v s) v
noncomputable def ofP (v:Option (AV×St)):CR:=@Option.rec (AV×St) (fun _=>CR) .no (fun v=>.ret v.1 v.2) v
noncomputable def ofS (s:Option St):CR:=@Option.rec St (fun _=>CR) .no (fun s=>.ret (.tup []) s) s
noncomputable def opPick (c a b:Option AV):Option AV:=optK (fun c=>@Bool.rec (fun _=>Option AV) b a c) (optK asBool c)
noncomputable def opConvS (P:Program) (a b:TypeId) (x:Option AV) (s:St):CR:=match P.underlying a,P.underlying b with
  | some (.slice e),some .string=>ofO (opText P e x s) s
  | some .string,some (.slice e)=>ofP (opBytes P e x s)
  | some (.slice _),_=>.no
  | _,some (.slice _)=>.no
  | _,_=>ofO (opConv P a b x) s
noncomputable def opNil:Option AV→Option AV
  | some (.ptr (some a))=>some (.ptr (some a))
  | some (.iface t v)=>some (.iface t v)
  | some (.func f a b)=>some (.func f a b)
  | _=>none
noncomputable def opMkIface (P:Program) (t:TypeId) (x:Option AV):Option AV:=match P.underlying t,x with
  | some (.interface _),_=>none
  | some _,some v=>some (.iface t v)
  | _,_=>none
noncomputable def opMkFunc (fn:Fn) (first caps:Option (List AV)):Option AV:=match fn,first,caps with
  | .func f,some a,some b=>some (.func f a b)
  | _,_,_=>none
noncomputable def opExtract (x:Option AV) (i:Nat):Option AV:=match x with
  | some (.tup l)=>getL l i
  | _=>none
noncomputable def opBuiltin (P:Program) (b:Builtin) (ts:List TypeId) (as:List AV) (s:St):CR:=match b,as with
  | .append,[x,y]=>ofP (opAppend P ts x y s)
  | .copy,[x,y]=>ofP (opCopy P ts x y s)
  | .len,[x]=>ofO (opLen P ts x s) s
  | .cap,[x]=>ofO (opCap P ts x) s
  | .min,xs=>ofO (opMM true xs) s
  | .max,xs=>ofO (opMM false xs) s
  | .delete,[m,k]=>ofS (opDelete P ts m k s)
  | .clear,[m]=>ofS (opClear P ts m s)
  | _,_=>.no
noncomputable def opCall (P:Program) (call:Nat→List AV→St→CR) (c:Call) (tm:Tm) (s:St):CR:=match c.callee,evs tm c.args.toList with
  | .value f,some as=>match ev tm f with
    | some (.func g first caps)=>call g (first++as++caps) s
    | _=>.no
  | .builtin b,some as=>opBuiltin P b c.argTypes.toList as s
  | _,_=>.no
noncomputable def opMkMap (r:Option Operand) (s:St):CR:=match r with
  | none=>.ret (.map (some s.nx)) (newB s (.mp [] 0))
  | some _=>.no
noncomputable def opPanic (x:Option AV) (s:St):CR:=match x with
  | some (.iface t v)=>.pan (.iface t v) s
  | _=>.no
noncomputable def opA (o:Op):Program→(Nat→List AV→St→CR)→Tm→St→CR:=@Op.rec (fun _=>Program→(Nat→List AV→St→CR)→Tm→St→CR)
  (fun x _ _ tm s=>ofO (ev tm x) s)
  (fun x _ _ tm s=>ofO (ev tm x) s)
  (fun c a b _ _ tm s=>ofO (opPick (ev tm c) (ev tm a) (ev tm b)) s)
  (fun t P _ _ s=>ofP (opAlloc P t s))
  (fun t x _ _ tm s=>ofP (opBox t (ev tm x) s))
  (fun t ps P _ tm s=>ofO (opBuild P t (evParts tm ps.toList)) s)
  (fun t n ps P _ tm s=>ofP (opBuildSlice P t n (evParts tm ps.toList) s))
  (fun _ _ _ _ _ _ _ _=>.no)
  (fun t a P _ tm s=>ofO (opLoad P t (ev tm a) s) s)
  (fun t a x P _ tm s=>ofS (opStore P t (ev tm a) (ev tm x) s))
  (fun _ _ _ _ _=>.no)
  (fun _ _ _ _ _=>.no)
  (fun x _ _ tm s=>ofO (opNil (ev tm x)) s)
  (fun op t x y _ P _ tm s=>ofO (opBin P op t (ev tm x) (ev tm y)) s)
  (fun op _ x _ _ tm s=>ofO (opUn op (ev tm x)) s)
  (fun a b x P _ tm s=>opConvS P a b (ev tm x) s)
  (fun _ _ _ _ _ _=>.no)
  (fun t x P _ tm s=>ofO (opMkIface P t (ev tm x)) s)
  (fun fn a b _ _ tm s=>ofO (opMkFunc fn (evs tm a.toList) (evs tm b.toList)) s)
  (fun _ r _ _ _ s=>opMkMap r s)
  (fun _ _ _ _ _ _=>.no)
  (fun t l c P _ tm s=>ofP (opMakeSlice P t (ev tm l) (ev tm c) s))
  (fun t x lo hi mx P _ tm s=>ofO (opSlice P t (ev tm x) (evO tm lo) (evO tm hi) (evO tm mx)) s)
  (fun t x f P _ tm s=>ofO (opFieldAddr P t (ev tm x) f) s)
  (fun t x f P _ tm s=>ofO (opField P t (ev tm x) f) s)
  (fun t x i P _ tm s=>ofO (opIndexAddr P t (ev tm x) (ev tm i)) s)
  (fun t x i P _ tm s=>ofO (opIndex P t (ev tm x) (ev tm i)) s)
  (fun t m k ok P _ tm s=>ofO (opLookup P t (ev tm m) (ev tm k) ok s) s)
  (fun t m k x P _ tm s=>ofS (opMapUpdate P t (ev tm m) (ev tm k) (ev tm x) s))
  (fun _ _ _ _ _ _ _=>.no)
  (fun _ _ _ _ _ _ _ _=>.no)
  (fun _ _ _ _ _ _=>.no)
  (fun _ _ _ _ _ _=>.no)
  (fun _ _ _ _ _=>.no)
  (fun _ _ _ _ _ _ _ _=>.no)
  (fun x i _ _ tm s=>ofO (opExtract (ev tm x) i) s)
  (fun c P call tm s=>opCall P call c tm s)
  (fun _ _ _ _ _=>.no)
  (fun _ _ _ _ _=>.no)
  (fun x _ _ tm s=>opPanic (ev tm x) s)
  (fun _ _ _ _ _ _=>.no)
  (fun _ _ _ _ _ _ _=>.no)
  (fun _ _ _ _ _ _=>.no)
  o
def keepPos (s:String):Bool:=match s.toList with
  | 'l'::'a'::'n'::'g'::'b'::'o'::'o'::'k'::'.'::'g'::'o'::':'::'7'::_::[]=>false
  | 'l'::'a'::'n'::'g'::'b'::_=>true
  | 'b'::'o'::_=>true
  | _=>false
def isApp:Op→Bool
  | .call { callee:=.builtin .append,.. }=>true
  | _=>false
noncomputable def keepO (o:Oper):Bool:=@Bool.rec (fun _=>Bool) false (keepPos o.pos) (isApp o.op)
noncomputable def opAK (P:Program) (o:Op) (tm:Tm) (s:St):CR:=match o with
  | .call { callee:=.builtin .append,args:=args,argTypes:=ts }=>match evs tm args.toList with
    | some [x,y]=>ofP (opAppendK P ts.toList x y s)
    | _=>.no
  | _=>.no
noncomputable def opQ (o:Oper) (P:Program) (call:Nat→List AV→St→CR) (tm:Tm) (s:St):CR:=@Bool.rec (fun _=>CR) (opA o.op P call tm s) (opAK P o.op tm s) (keepO o)
inductive Ex where
  | nrm
  | exit (id:Nat)
  | goto (l:Nat)
  | ret
  | pan (v:AV)
inductive Out where
  | ok (e:Ex) (tm:Tm) (s:St)
  | no
inductive SO where
  | go (tm:Tm) (s:St)
  | pan (v:AV) (s:St)
  | no
noncomputable def guardA (ops:List Oper) (tm:Tm) (b:Bool) (j:Nat):Option Bool:=match getL ops j with
  | some p=>match p.dst with
    | some d=>match T.get tm (K.of d) with
      | some (.bool c)=>some (c==b)
      | some _=>some false
      | none=>none
    | none=>none
  | none=>none
noncomputable def wantA (ops:List Oper) (tm:Tm) (o:Oper):Option Bool:=@Option.rec (Nat×Bool) (fun _=>Option Bool) (some true) (fun p=>guardA ops tm p.2 p.1) o.guard
noncomputable def putK {ρ:Type} (no:ρ) (n:Nat) (tm:Tm) (v:AV) (k:Tm→ρ) (d:Option Tmp):ρ:=@Option.rec Nat (fun _=>ρ) (k tm) (fun d=>@Bool.rec (fun _=>ρ) no (k (T.set tm (K.of d) v)) (Nat.ble (Nat.succ d) n)) d
noncomputable def stepK {ρ:Type} (no:ρ) (pan:AV→St→ρ) (k:Tm→St→ρ) (P:Program) (call:Nat→List AV→St→CR) (ops:List Oper) (n:Nat) (o:Oper) (tm:Tm) (s:St):ρ :=
  @Option.rec Bool (fun _=>ρ) no (fun b=>@Bool.rec (fun _=>ρ) (putK no n tm (.tup []) (fun tm=>k tm s) o.dst)
    (@CR.rec (fun _=>ρ) (fun v s=>putK no n tm v (fun tm=>k tm s) o.dst) pan no (opQ o P call tm s)) b) (wantA ops tm o)
noncomputable def stepO (P:Program) (call:Nat→List AV→St→CR) (ops:List Oper) (n:Nat) (o:Oper) (tm:Tm) (s:St):SO:=stepK SO.no SO.pan SO.go P call ops n o tm s
noncomputable def runOps (P:Program) (call:Nat→List AV→St→CR) (ops:List Oper) (n:Nat) (l:List Oper):Tm→St→Out:=@List.rec Oper (fun _=>Tm→St→Out) (fun tm s=>.ok .nrm tm s)
  (fun o _ ih tm s=>stepK .no (fun v s=>.ok (.pan v) tm s) ih P call ops n o tm s) l
inductive Cls where
  | p|r|f|m
noncomputable def notMap (P:Program):List TypeId→Bool
  | t::_=>match P.underlying t with
    | some (.map _ _)=>false
    | some _=>true
    | none=>false
  | []=>false
noncomputable def cls (P:Program):Op→Cls
  | .move _|.assign _|.pick ..|.build ..|.nilCheck _|.binOp ..|.unOp ..|.makeInterface ..|.makeFunc ..|.slice ..|.fieldAddr ..|.field ..|.indexAddr ..|.index ..|.extract ..=>.p
  | .convert a b _=>match cvM P a b with
    | true=>.m
    | false=>.p
  | .load ..=>.r
  | .alloc _=>.f
  | .makeMap _ none=>.f
  | .call { callee:=.builtin .len,argTypes:=ts,.. }=>match notMap P ts.toList with
    | true=>.p
    | false=>.m
  | .call { callee:=.builtin .cap,.. }|.call { callee:=.builtin .min,.. }|.call { callee:=.builtin .max,.. }=>.p
  | _=>.m
noncomputable def orL:List Bool→List Bool→List Bool
  | [],l=>l
  | l,[]=>l
  | a::l,b::m=>(a||b)::orL l m
noncomputable def oneAt:Nat→List Bool
  | 0=>[true]
  | n+1=>false::oneAt n
noncomputable def waitsFor (rows:List (List Bool)) (i:Nat):List Edge→Option (List Bool)
  | []=>some []
  | e::es=>match waitsFor rows i es with
    | some l=>match Region.binds .any e with
      | true=>if e.on<i then match getL rows e.on with
          | some r=>some (orL (orL (oneAt e.on) r) l)
          | none=>none
        else none
      | false=>some l
    | none=>none
noncomputable def rowsOf:List (List Bool)→Nat→List Oper→Option (List (List Bool))
  | rows,_,[]=>some rows
  | rows,i,o::os=>match waitsFor rows i o.after.toList with
    | some r=>rowsOf (rows++[r]) (i+1) os
    | none=>none
noncomputable def waits (rows:List (List Bool)) (j i:Nat):Bool:=match getL rows j with
  | some r=>match getL r i with
    | some b=>b
    | none=>false
  | none=>false
noncomputable def tmpsOf:List Operand→List Nat
  | []=>[]
  | .tmp t::l=>t::tmpsOf l
  | _::l=>tmpsOf l
noncomputable def readsOf (ops:List Oper) (o:Oper):List Nat:=(match o.guard with
  | none=>[]
  | some (j,_)=>match getL ops j with
    | some p=>match p.dst with
      | some d=>[d]
      | none=>[]
    | none=>[])++tmpsOf o.op.operands.toList
noncomputable def isIn (d:Option Nat) (l:List Nat):Bool:=match d with
  | none=>false
  | some d=>l.any (Nat.beq d)
noncomputable def sameDst (a b:Option Nat):Bool:=match a,b with
  | some x,some y=>Nat.beq x y
  | _,_=>false
noncomputable def apartA (P:Program) (ops:List Oper) (oi oj:Oper):Bool :=
  !isIn oi.dst (readsOf ops oj)&&!isIn oj.dst (readsOf ops oi)&&!sameDst oi.dst oj.dst &&
  match cls P oi.op,cls P oj.op with
  | .m,.m=>false
  | .f,.m=>false
  | _,_=>true
noncomputable def pairs2 (P:Program) (ops:List Oper) (rows:List (List Bool)) (oi:Oper) (i:Nat):Nat→List Oper→Bool
  | _,[]=>true
  | j,oj::os=>match waits rows j i||apartA P ops oi oj with
    | true=>pairs2 P ops rows oi i (j+1) os
    | false=>false
noncomputable def pairs1 (P:Program) (ops:List Oper) (rows:List (List Bool)):Nat→List Oper→Bool
  | _,[]=>true
  | i,o::os=>match pairs2 P ops rows o i (i+1) os with
    | true=>pairs1 P ops rows (i+1) os
    | false=>false
noncomputable def readAt (o:Op) (tm:Tm):Option (TypeId×(K×Nat)):=match o with
  | .load t a=>match optK asPtr (ev tm a) with
    | some p=>some (t,p)
    | none=>none
  | _=>none
noncomputable def hasAt (h:T Bk) (i:K):Bool:=match T.get h i with
  | none=>false
  | some _=>true
noncomputable def keptAt (P:Program) (h:T Bk) (t:TypeId) (p:K×Nat) (v:AV):Bool:=match loadAt P t h p with
  | some u=>sameA u v
  | none=>!hasAt h p.1
inductive TR where
  | ok (l:List (Tm×St)) (v:Option AV) (tm:Tm) (s:St)
  | no
noncomputable def traceA (P:Program) (call:Nat→List AV→St→CR) (ops:List Oper) (n:Nat):List Oper→Tm→St→TR
  | [],tm,s=>.ok [] none tm s
  | o::rest,tm,s=>match stepO P call ops n o tm s with
    | .go tm' s'=>match traceA P call ops n rest tm' s' with
      | .ok l v tm2 s2=>.ok ((tm,s)::l) v tm2 s2
      | .no=>.no
    | .pan v s'=>.ok [(tm,s)] (some v) tm s'
    | .no=>.no
noncomputable def isM (P:Program) (o:Op):Bool:=match cls P o with
  | .m=>true
  | _=>false
noncomputable def heldBy (P:Program) (rows:List (List Bool)) (r:Nat) (t:TypeId) (p:K×Nat) (v:AV):Nat→List Oper→List (Tm×St)→St→Bool
  | j,o::os,(_,s)::tr,s9=>match !isM P o.op||waits rows j r||waits rows r j||(keptAt P s.hp t p v&&(keptAt P (match tr with|(_,s')::_=>s'|[]=>s9).hp t p v&&hasAt s.hp p.1==hasAt (match tr with|(_,s')::_=>s'|[]=>s9).hp p.1)) with
    | true=>heldBy P rows r t p v (j+1) os tr s9
    | false=>false
  | _,_,[],_=>true
  | _,[],_,_=>true
noncomputable def heldAll (P:Program) (all:List Oper) (rows:List (List Bool)) (tr0:List (Tm×St)) (s9:St):Nat→List Oper→List (Tm×St)→Bool
  | r,o::os,(tm,s)::tr=>match (match cls P o.op with
      | .r=>match wantA all tm o with
        | some true=>match readAt o.op tm with
          | some (t,p)=>match loadAt P t s.hp p with
            | some v=>heldBy P rows r t p v 0 all tr0 s9
            | none=>false
          | none=>false
        | some false=>true
        | none=>false
      | _=>true) with
    | true=>heldAll P all rows tr0 s9 (r+1) os tr
    | false=>false
  | _,[],_=>true
  | _,_,[]=>true
noncomputable def noneAt (k:K):List (Tm×St)→Bool
  | []=>true
  | (_,s)::l=>match T.get s.hp k with
    | none=>noneAt k l
    | some _=>false
noncomputable def fltOk (P:Program):List (Tm×St)→List Oper→List (Tm×St)→Bool
  | seen,o::os,x::tr=>match (match cls P o.op with
      | .f=>noneAt x.2.nx (x::seen)
      | _=>true) with
    | true=>fltOk P (x::seen) os tr
    | false=>false
  | _,[],_=>true
  | _,_,[]=>true
noncomputable def looseF (P:Program) (o:Oper):Bool:=match o.op,o.guard with
  | .alloc t,none=>match zeroA P t with
    | some _=>true
    | none=>false
  | _,_=>false
noncomputable def lastAt (P:Program) (rows:List (List Bool)) (p:Nat):Nat→List Oper→Bool
  | _,[]=>true
  | j,o::os=>match Nat.ble j p||(waits rows j p||looseF P o) with
    | true=>lastAt P rows p (j+1) os
    | false=>false
noncomputable def drawOps1 (P:Program) (call:Nat→List AV→St→CR) (ops:List Oper) (n:Nat) (tm:Tm) (s:St):Out:=match traceA P call ops n ops tm s with
  | .ok tr v tm9 s9=>match rowsOf [] 0 ops with
    | some rows=>match pairs1 P ops rows 0 ops&&heldAll P ops rows tr s9 0 ops tr&&fltOk P [] ops tr with
      | true=>match v with
        | none=>.ok .nrm tm9 s9
        | some v=>match lastAt P rows (tr.length-1) 0 ops&&(match getL ops (tr.length-1) with|some o=>isM P o.op|none=>false) with
          | true=>.ok (.pan v) tm9 s9
          | false=>.no
      | false=>.no
    | none=>.no
  | .no=>.no
def renE (σ:Nat→Nat) (e:Edge):Edge:=⟨σ e.on,e.ground⟩
def renO (σ:Nat→Nat) (o:Oper):Oper:=⟨o.dst,o.op,o.type,o.pos,(o.after.toList.map (renE σ)).toArray,o.guard.map fun p=>(σ p.1,p.2)⟩
def posL:List Nat→Nat→Nat→Nat
  | [],_,i=>i
  | x::s,k,i=>match Nat.beq x i with
    | true=>k
    | false=>posL s (k+1) i
noncomputable def pickL (ops:List Oper) (σ:Nat→Nat):List Nat→List Oper
  | []=>[]
  | k::s=>match getL ops k with
    | some o=>renO σ o::pickL ops σ s
    | none=>pickL ops σ s
noncomputable def permL (s:List Nat) (ops:List Oper):List Oper:=pickL ops (posL s 0) s
def chkA (s:List Nat) (n:Nat):Nat→List Nat→Bool
  | _,[]=>true
  | k,x::l=>Nat.beq (posL s 0 x) k&&Nat.blt x n&&chkA s n (k+1) l
def chkB (s:List Nat):Nat→Bool
  | 0=>true
  | i+1=>(match s[posL s 0 i]? with|some x=>Nat.beq x i|none=>false)&&chkB s i
def permOk (s:List Nat) (n:Nat):Bool:=Nat.beq s.length n&&chkA s n 0 s&&chkB s n
def uptoA:Nat→List Nat
  | 0=>[]
  | n+1=>uptoA n++[n]
noncomputable def looseA (P:Program) (rows:List (List Bool)) (p:Nat) (w:Bool):Nat→List Oper→List Nat
  | _,[]=>[]
  | j,o::os=>match Nat.blt p j&&((waits rows j p||looseF P o)==w) with
    | true=>j::looseA P rows p w (j+1) os
    | false=>looseA P rows p w (j+1) os
noncomputable def looseL (P:Program) (rows:List (List Bool)) (p:Nat) (ops:List Oper):List Nat:=uptoA p++(looseA P rows p false 0 ops++(p::looseA P rows p true 0 ops))
noncomputable def drawOps (P:Program) (call:Nat→List AV→St→CR) (ops:List Oper) (n:Nat) (tm:Tm) (s:St):Out:=match drawOps1 P call ops n tm s with
  | .ok e tm' s'=>.ok e tm' s'
  | .no=>match traceA P call ops n ops tm s with
    | .ok tr (some _) _ _=>match rowsOf [] 0 ops with
      | some rows=>match permOk (looseL P rows (tr.length-1) ops) ops.length with
        | true=>drawOps1 P call (permL (looseL P rows (tr.length-1) ops) ops) n tm s
        | false=>.no
      | none=>.no
    | _=>.no
inductive Cd where
  | code (c:Code)
  | under (body c:Code)
noncomputable def resA (P:Program) (tm:Tm) (s:St):List ResultVar→Option (List AV)
  | []=>some []
  | r::rs=>match (match r with
      | .tmp t=>T.get tm (K.of t)
      | .cell a t=>opLoad P t (T.get tm (K.of a)) s),resA P tm s rs with
    | some v,some vs=>some (v::vs)
    | _,_=>none
noncomputable def oneOr:List AV→AV
  | [v]=>v
  | l=>.tup l
noncomputable def setArgs:Nat→List AV→T AV→T AV
  | _,[],t=>t
  | i,v::vs,t=>setArgs (i+1) vs (T.set t (K.of i) v)
noncomputable def startA (ih:Nat→Cd→Tm→St→Out) (n:Nat) (c:Code) (tm:Tm) (s:St):Out:=@Nat.casesOn (fun _=>Out) n (ih 0 (.code c) tm s) (fun m=>ih (Nat.succ m) (.code c) tm s)
noncomputable def callBody (P:Program) (ih:Nat→Cd→Tm→St→Out) (f:Nat) (args:List AV) (s:St):CR:=match getL P.funcs.toList f with
  | some fn=>match fn.body with
    | some c=>match startA ih (max fn.ntmps (lenL args)) c (setArgs 0 args .e) s with
      | .ok .nrm tm s'=>match resA P tm s' fn.results.toList with
        | some vs=>.ret (oneOr vs) s'
        | none=>.no
      | .ok .ret tm s'=>match resA P tm s' fn.results.toList with
        | some vs=>.ret (oneOr vs) s'
        | none=>.no
      | .ok (.pan v) _ s'=>.pan v s'
      | _=>.no
    | none=>.no
  | none=>.no
structure Memo where
  f:Nat
  args:List AV
  nx:K
  v:AV
  bs:List (K×Bk)
  nx':K
  any:Bool
structure Cg where
  cg:Nat
  wt:Nat
  ms:List Memo
noncomputable def addB (bs:List (K×Bk)) (h:T Bk):T Bk:=@List.rec (K×Bk) (fun _=>T Bk→T Bk) (fun h=>h) (fun b _ ih h=>ih (T.set h b.1 b.2)) bs h
noncomputable def memoHit (m:Memo) (f:Nat) (args:List AV) (s:St):Bool:=Nat.beq f m.f&&(sameL args m.args&&(m.any||K.beq s.nx m.nx))
noncomputable def memoSt (m:Memo) (s:St):St:=@Bool.rec (fun _=>St) ⟨addB m.bs s.hp,m.nx'⟩ s m.any
noncomputable def memoFind (f:Nat) (args:List AV) (s:St) (ms:List Memo):Option CR:=@List.rec Memo (fun _=>Option CR) none (fun m _ ih=>@Bool.rec (fun _=>Option CR) ih (some (.ret m.v (memoSt m s))) (memoHit m f args s)) ms
noncomputable def callB (P:Program) (g:Cg) (ih:Nat→Cd→Tm→St→Out) (f:Nat) (args:List AV) (s:St):CR:=match Nat.beq f g.cg with
  | true=>match args with
    | [.func G [] caps]=>match Nat.beq G g.cg with
      | true=>.no
      | false=>match callBody P ih G caps s with
        | .ret (.tup []) s'=>.ret (.int .i64 0) s'
        | .pan (.iface t (.agg [.int .i64 c])) s'=>match Nat.beq t g.wt with
          | true=>.ret (.int .i64 c) s'
          | false=>.no
        | _=>.no
    | _=>.no
  | false=>callBody P ih f args s
noncomputable def callA (P:Program) (g:Cg) (ih:Nat→Cd→Tm→St→Out) (f:Nat) (args:List AV) (s:St):CR:=@Option.rec CR (fun _=>CR) (callB P g ih f args s) (fun r=>r) (memoFind f args s g.ms)
noncomputable def thenO (r:Out) (k:Tm→St→Out):Out:=@Out.rec (fun _=>Out) (fun e tm s=>@Ex.rec (fun _=>(Tm→St→Out)→Tm→St→Out) (fun k tm s=>k tm s) (fun i _ tm s=>.ok (.exit i) tm s) (fun l _ tm s=>.ok (.goto l) tm s) (fun _ tm s=>.ok .ret tm s) (fun v _ tm s=>.ok (.pan v) tm s) e k tm s) .no r
noncomputable def blockO (id:Nat) (r:Out):Out:=match r with
  | .ok (.exit i) tm s=>match Nat.beq i id with
    | true=>.ok .nrm tm s
    | false=>.ok (.exit i) tm s
  | r=>r
noncomputable def condO (x:Option AV) (a b:Out):Out:=@Option.rec Bool (fun _=>Out) .no (fun c=>@Bool.rec (fun _=>Out) b a c) (optK asBool x)
noncomputable def underO (body:Code) (ih:Cd→Tm→St→Out) (r:Out):Out:=match r with
  | .ok (.goto l) tm s=>match findLabel body l with
    | some rest=>ih (.under body rest) tm s
    | none=>.no
  | r=>r
noncomputable def codeStep (c:Code):Program→Cg→(Nat→Cd→Tm→St→Out)→Nat→Tm→St→Out:=@Code.rec (fun _=>Program→Cg→(Nat→Cd→Tm→St→Out)→Nat→Tm→St→Out)
  (fun _ _ _ _ tm s=>.ok .nrm tm s)
  (fun _ ops d P g ih n tm s=>@Bool.rec (fun _=>Out) (runOps P (callA P g ih) ops.toList n ops.toList tm s) (drawOps P (callA P g ih) ops.toList n tm s) d)
  (fun a b _ _ _ _ ih n tm s=>thenO (ih n (.code a) tm s) (ih n (.code b)))
  (fun x a b _ _ _ _ ih n tm s=>condO (ev tm x) (ih n (.code a) tm s) (ih n (.code b) tm s))
  (fun id c _ _ _ ih n tm s=>blockO id (ih n (.code c) tm s))
  (fun c _ _ _ ih n tm s=>thenO (ih n (.code c) tm s) (ih n (.code (.loop c))))
  (fun _ _ _ _ _ _ _ _ _ _ _ _=>.no)
  (fun id _ _ _ _ tm s=>.ok (.exit id) tm s)
  (fun c _ _ _ ih n tm s=>ih n (.under c c) tm s)
  (fun _ _ _ _ _ tm s=>.ok .nrm tm s)
  (fun l _ _ _ _ tm s=>.ok (.goto l) tm s)
  (fun _ _ _ _ tm s=>.ok .ret tm s)
  (fun _ _ _ _ _ _ _=>.no)
  c
noncomputable def execStep (P:Program) (g:Cg) (ih:Nat→Cd→Tm→St→Out) (n:Nat) (d:Cd):Tm→St→Out:=@Cd.rec (fun _=>Tm→St→Out) (fun c=>codeStep c P g ih n) (fun body c tm s=>underO body (ih n) (ih n (.code c) tm s)) d
noncomputable def exec (P:Program) (g:Cg) (k:Nat):Nat→Cd→Tm→St→Out:=Nat.rec (fun _ _ _ _=>.no) (fun _ ih=>execStep P g ih) k
noncomputable def acall (P:Program) (g:Cg) (k:Nat) (f:Nat) (args:List AV) (s:St):CR:=callA P g (exec P g k) f args s
noncomputable def sameBk:Bk→Bk→Bool
  | .cells l e z f,.cells l' e' z' f'=>sameL l l'&&Nat.beq e e'&&Nat.beq z z'&&(f==f')
  | _,_=>false
noncomputable def leftIn (h:T Bk) (nx nx':K):List (K×Bk)→Bool
  | []=>true
  | (i,b)::bs=>match T.get h i with
    | some b'=>sameBk b' b&&Nat.ble nx.val i.val&&Nat.blt i.val nx'.val&&leftIn h nx nx' bs
    | none=>false
noncomputable def memoOk (P:Program) (g:Cg) (k:Nat) (m:Memo):Bool:=match acall P g k m.f m.args ⟨.e,m.nx⟩ with
  | .ret v s=>!m.any&&(sameA v m.v&&K.beq s.nx m.nx'&&leftIn s.hp m.nx m.nx' m.bs)
  | _=>false
end Go.Proofs.YtoegffiapnnkiaaGreat.Abs
namespace Go.Proofs.YtoegffiapnnkiaaGreat.Abs
open Go
def OwnB:Bk→Prop
  | .view _=>False
  | _=>True
noncomputable def concE (μ:K→Option Loc) (e:AV×AV×Nat):Option MapEntry:=(conc μ e.1).bind fun k=>(conc μ e.2.1).map fun v=>{ key:=k,val:=v,born:=e.2.2 }
noncomputable def concEs (μ:K→Option Loc):List (AV×AV×Nat)→Option (List MapEntry)
  | []=>some []
  | e::es=>(concE μ e).bind fun x=>(concEs μ es).map fun xs=>x::xs
def FrOk (n:Nat) (fr:Nat×Nat):Prop:=∀k,k<n→¬(fr.1≤k∧k<fr.2)
theorem FrOk.zero (n:Nat):FrOk n (0,0):=fun k _ h=>by have:=h.2;simp at this
theorem FrOk.behind (n m:Nat):FrOk n (n,m):=fun k h h1=>by have:=h1.1;simp at this;omega
theorem FrOk.frozen {w:World} {b k:Nat} {arr:Array Value} {e:TypeId} {fr:Nat×Nat} (hf:FrOk arr.size fr) (h:w.heap[b]?=some (.cells arr e fr)) (hk:k<arr.size):w.frozen? ⟨b,k,none⟩=false:=by
  have:=hf k hk
  obtain ⟨lo,hi⟩:=fr
  simp only [World.frozen?,h]
  simpa using this
def BR (μ:K→Option Loc) (b:Bk) (l:Loc) (w:World):Prop:=match b with
  | .cells cs e z f=>l.base=0∧∃(arr:Array Value) (vs spare:List Value),(∃fr,w.heap[l.blk]?=some (.cells arr e fr)∧FrOk arr.size fr)∧concL μ cs=some vs∧arr.toList=vs++spare∧(f=true→spare=[])∧arr.size=l.cap * z
  | .view cs=>∃vs,concL μ cs=some vs∧∀j v,vs[j]?=some v→w.cell? ⟨l.blk,l.base+j,none⟩=some v
  | .mp es c=>∃arr:Array MapEntry,w.heap[l.blk]?=some (.map arr c)∧concEs μ es=some arr.toList
  | .kept cs e z n=>n≤cs.length∧l.base=0∧∃(arr:Array Value) (vs spare:List Value),(∃fr,w.heap[l.blk]?=some (.cells arr e fr)∧FrOk arr.size fr)∧concL μ cs=some vs∧arr.toList=vs++spare∧arr.size=l.cap * z
abbrev Hp:=K→Option Bk
def KeepAt (μ:K→Option Loc) (H:Hp) (k n:Nat):Prop:=∀i b l,H i=some b→OwnB b→μ i=some l→l.blk=k→∃cs e z n',b=.kept cs e z n'∧n≤n'
def SameTo (w w':World) (k n:Nat):Prop:=∀j,j<n→w'.cell? ⟨k,j,none⟩=w.cell? ⟨k,j,none⟩
structure Rel (B:Nat) (μ:K→Option Loc) (H:Hp) (w:World):Prop where
  at_:∀i b,H i=some b→∃l,μ i=some l∧BR μ b l w
  own:∀i b l,H i=some b→OwnB b→μ i=some l→B≤l.blk
  view:∀i cs l,H i=some (.view cs)→μ i=some l→l.blk<B∨(l.blk<w.heap.size∧l.base=0∧KeepAt μ H l.blk cs.length)
  inj:∀i j b c l m,H i=some b→H j=some c→OwnB b→OwnB c→μ i=some l→μ j=some m→l.blk=m.blk→i=j
  size:B≤w.heap.size
def OwnBlk (μ:K→Option Loc) (H:Hp) (k:Nat):Prop:=∃i b l,H i=some b∧OwnB b∧μ i=some l∧l.blk=k
structure Step (B:Nat) (μ:K→Option Loc) (H:Hp) (nx:K) (w:World) (μ':K→Option Loc) (H':Hp) (nx':K) (w':World):Prop where
  ext:MLe μ μ'
  new:∀i l,μ' i=some l→μ i=some l∨(nx.val≤i.val∧i.val<nx'.val)
  rel:Rel B μ' H' w'
  owned:∀k,OwnBlk μ' H' k→OwnBlk μ H k∨w.heap.size≤k
  frame:∀k,k<w.heap.size→¬OwnBlk μ H k→w'.heap[k]?=w.heap[k]?
  size:w.heap.size≤w'.heap.size
  os:w'.os=w.os
  tape:w'.tape=w.tape
  output:w'.output=w.output
  nxle:nx.val≤nx'.val
  keep:∀k n,k<w.heap.size→KeepAt μ H k n→KeepAt μ' H' k n∧SameTo w w' k n
  views:∀i cs l,H' i=some (.view cs)→μ' i=some l→(∃cs',H i=some (.view cs')∧μ i=some l∧cs.length≤cs'.length)∨OwnBlk μ H l.blk∨w.heap.size≤l.blk
def Fresh (μ:K→Option Loc) (nx nx':K):Prop:=∀i:K,nx.val≤i.val→i.val<nx'.val→μ i=none
variable {P:Program} {B:Nat} {μ μ' μ'':K→Option Loc} {H H' H'':Hp} {nx nx' nx'':K} {w w' w'':World}
theorem MLe.refl (μ:K→Option Loc):MLe μ μ:=fun _ _ h=>h
theorem MLe.trans (h:MLe μ μ') (k:MLe μ' μ''):MLe μ μ'':=fun i l e=>k i l (h i l e)
theorem Step.refl (h:Rel B μ H w) (nx:K):Step B μ H nx w μ H nx w :=
  ⟨MLe.refl μ,fun _ _ h=>.inl h,h,fun _ h=>.inl h,fun _ _ _=>rfl,Nat.le_refl _,rfl,rfl,rfl,Nat.le_refl _,fun _ _ _ h=>⟨h,fun _ _=>rfl⟩,fun i cs l h1 h2=>.inl ⟨cs,h1,h2,Nat.le_refl _⟩⟩
theorem Step.trans (h:Step B μ H nx w μ' H' nx' w') (k:Step B μ' H' nx' w' μ'' H'' nx'' w''):Step B μ H nx w μ'' H'' nx'' w'' where
  ext:=h.ext.trans k.ext
  new i l e:=by
    rcases k.new i l e with e1|e1
    · rcases h.new i l e1 with e2|e2
      · exact .inl e2
      · exact .inr ⟨e2.1,Nat.lt_of_lt_of_le e2.2 k.nxle⟩
    · exact .inr ⟨Nat.le_trans h.nxle e1.1,e1.2⟩
  rel:=k.rel
  owned j e:=by
    rcases k.owned j e with e1|e1
    · exact h.owned j e1
    · exact .inr (Nat.le_trans h.size e1)
  frame j hj hn:=by
    refine (k.frame j (Nat.lt_of_lt_of_le hj h.size) ?_).trans (h.frame j hj hn)
    intro ho
    rcases h.owned j ho with e|e
    · exact hn e
    · omega
  size:=Nat.le_trans h.size k.size
  os:=k.os.trans h.os
  tape:=k.tape.trans h.tape
  output:=k.output.trans h.output
  nxle:=Nat.le_trans h.nxle k.nxle
  keep j n hj hk:=by
    obtain ⟨a1,a2⟩:=h.keep j n hj hk
    obtain ⟨b1,b2⟩:=k.keep j n (Nat.lt_of_lt_of_le hj h.size) a1
    exact ⟨b1,fun i hi=>(b2 i hi).trans (a2 i hi)⟩
  views i cs l h1 h2:=by
    rcases k.views i cs l h1 h2 with ⟨cs',a1,a2,a3⟩|a1|a1
    · rcases h.views i cs' l a1 a2 with ⟨cs2,b1,b2,b3⟩|b1|b1
      · exact .inl ⟨cs2,b1,b2,Nat.le_trans a3 b3⟩
      · exact .inr (.inl b1)
      · exact .inr (.inr b1)
    · rcases h.owned _ a1 with b1|b1
      · exact .inr (.inl b1)
      · exact .inr (.inr b1)
    · exact .inr (.inr (Nat.le_trans h.size a1))
theorem KeepAt.sub {μ:K→Option Loc} {H H':Hp} {k n:Nat} (h:KeepAt μ H k n) (hs:∀i b,H' i=some b→H i=some b):KeepAt μ H' k n:=fun i b l h1 h2 h3 h4=>h i b l (hs i b h1) h2 h3 h4
theorem KeepAt.mono {μ:K→Option Loc} {H:Hp} {k n m:Nat} (h:KeepAt μ H k n) (hm:m≤n):KeepAt μ H k m:=fun i b l h1 h2 h3 h4=>by
  obtain ⟨cs,e,z,n',h5,h6⟩:=h i b l h1 h2 h3 h4
  exact ⟨cs,e,z,n',h5,Nat.le_trans hm h6⟩
theorem SameTo.row {w w':World} {k:Nat} (h:w'.heap[k]?=w.heap[k]?) (n:Nat):SameTo w w' k n:=fun j _=>by unfold World.cell?;rw [h]
theorem Fresh.left (h:Fresh μ nx nx'') (k:nx'.val≤nx''.val):Fresh μ nx nx':=fun i h1 h2=>h i h1 (Nat.lt_of_lt_of_le h2 k)
theorem Fresh.right (h:Fresh μ nx nx'') (s:Step B μ H nx w μ' H' nx' w'):Fresh μ' nx' nx'':=fun i h1 h2=>by
  cases e:μ' i with
  | none=>rfl
  | some l =>
    rcases s.new i l e with e1|e1
    · rw [h i (Nat.le_trans s.nxle h1) h2] at e1;cases e1
    · omega
theorem concEs_mono (h:MLe μ μ'):∀(es:List (AV×AV×Nat)) (l:List MapEntry),concEs μ es=some l→concEs μ' es=some l
  | [],_,e=>e
  | x::xs,l,e=>by
    simp only [concEs,concE,Option.bind_eq_some_iff,Option.map_eq_some_iff] at e ⊢
    obtain ⟨a,⟨k,hk,v,hv,e1⟩,as,h2,e2⟩:=e
    exact ⟨a,⟨k,conc_mono h _ _ hk,v,conc_mono h _ _ hv,e1⟩,as,concEs_mono h xs as h2,e2⟩
theorem BR.mono (h:MLe μ μ') {b:Bk} {l:Loc} (k:BR μ b l w):BR μ' b l w:=by
  cases b with
  | cells cs e z f =>
    obtain ⟨h0,arr,vs,spare,h1,h2,h3⟩:=k
    exact ⟨h0,arr,vs,spare,h1,concL_mono h _ _ h2,h3⟩
  | view cs =>
    obtain ⟨vs,h1,h2⟩:=k
    exact ⟨vs,concL_mono h _ _ h1,h2⟩
  | mp es c =>
    obtain ⟨arr,h1,h2⟩:=k
    exact ⟨arr,h1,concEs_mono h _ _ h2⟩
  | kept cs e z n =>
    obtain ⟨hn,h0,arr,vs,spare,h1,h2,h3⟩:=k
    exact ⟨hn,h0,arr,vs,spare,h1,concL_mono h _ _ h2,h3⟩
theorem BR.same {b:Bk} {l:Loc} (h:w'.heap[l.blk]?=w.heap[l.blk]?) (k:BR μ b l w):BR μ b l w':=by
  cases b with
  | cells cs e z f =>
    obtain ⟨h0,arr,vs,spare,⟨fr,h1,hfr⟩,h2⟩:=k
    exact ⟨h0,arr,vs,spare,⟨fr,h.trans h1,hfr⟩,h2⟩
  | view cs =>
    obtain ⟨vs,h1,h2⟩:=k
    refine ⟨vs,h1,fun j v hv=>?_⟩
    have:=h2 j v hv
    unfold World.cell? at this ⊢
    rw [h]
    exact this
  | mp es c =>
    obtain ⟨arr,h1,h2⟩:=k
    exact ⟨arr,h.trans h1,h2⟩
  | kept cs e z n =>
    obtain ⟨hn,h0,arr,vs,spare,⟨fr,h1,hfr⟩,h2⟩:=k
    exact ⟨hn,h0,arr,vs,spare,⟨fr,h.trans h1,hfr⟩,h2⟩
theorem heap_cell {a:Addr} {arr:Array Value} {e:TypeId} {fr:Nat×Nat} (h:w.heap[a.block]?=some (.cells arr e fr)) (hs:a.spot=none):w.cell? a=arr[a.off]?:=by
  unfold World.cell?
  rw [h]
  simp [hs]
theorem Rel.cells (hR:Rel B μ H w) {i:K} {b:Bk} {cs:List AV} (hb:H i=some b) (hl:rdl b=some cs) :
    ∃l vs,μ i=some l∧concL μ cs=some vs∧∀j v,vs[j]?=some v→w.cell? ⟨l.blk,l.base+j,none⟩=some v:=by
  obtain ⟨l,hμ,hB⟩:=hR.at_ i b hb
  cases b with
  | cells cs' e z f =>
    injection (show some cs'=some cs from hl) with hl;subst hl
    obtain ⟨h0,arr,vs,spare,⟨fr,h1,-⟩,h2,h3,-⟩:=hB
    refine ⟨l,vs,hμ,h2,fun j v hj=>?_⟩
    rw [heap_cell (a:=⟨l.blk,l.base+j,none⟩) h1 rfl,h0,←Array.getElem?_toList,h3,Nat.zero_add,List.getElem?_append_left (by have:=(List.getElem?_eq_some_iff.1 hj).1;exact this)]
    exact hj
  | view cs' =>
    injection (show some cs'=some cs from hl) with hl;subst hl
    obtain ⟨vs,h1,h2⟩:=hB
    exact ⟨l,vs,hμ,h1,h2⟩
  | mp es c=>cases hl
  | kept cs' e z n =>
    injection (show some cs'=some cs from hl) with hl;subst hl
    obtain ⟨hn,h0,arr,vs,spare,⟨fr,h1,-⟩,h2,h3,-⟩:=hB
    refine ⟨l,vs,hμ,h2,fun j v hj=>?_⟩
    rw [heap_cell (a:=⟨l.blk,l.base+j,none⟩) h1 rfl,h0,←Array.getElem?_toList,h3,Nat.zero_add,List.getElem?_append_left (by have:=(List.getElem?_eq_some_iff.1 hj).1;exact this)]
    exact hj
theorem tsize_run {t:TypeId} {n:Nat} (h:tsize P t=some n) (w:World):(sizeOf t).run P w=.ok n w:=by
  unfold tsize at h
  cases hi:P.info? t with
  | none=>rw [hi] at h;cases h
  | some i =>
    rw [hi] at h
    injection h with h
    simp [sizeOf,typeInfo,hi,h]
theorem tagg_agg {t:TypeId} {n:Nat} (h:tagg P t=some (true,n)) (w:World):(isAgg t).run P w=.ok true w∧(sizeOf t).run P w=.ok n w:=by
  unfold tagg at h
  cases hu:P.underlying t with
  | none=>rw [hu] at h;cases h
  | some d =>
    rw [hu] at h
    cases d<;>try (simp at h;done)
    all_goals
      cases hi:P.info? t with
      | none=>simp [hi] at h
      | some i =>
        simp only [hi,Option.some.injEq,Prod.mk.injEq,true_and] at h
        simp [isAgg,underlying,hu,sizeOf,typeInfo,hi,h]
theorem tagg_one {t:TypeId} {n:Nat} (h:tagg P t=some (false,n)) (w:World):(isAgg t).run P w=.ok false w:=by
  unfold tagg at h
  cases hu:P.underlying t with
  | none=>rw [hu] at h;cases h
  | some d =>
    rw [hu] at h
    cases d<;>first
      | (simp [isAgg,underlying,hu];done)
      | (cases hi:P.info? t<;>simp [hi] at h)
theorem pureRun_run {α:Type}:∀(m:Sem α) (a:α),pureRun P m=some a→∀w,m.run P w=.ok a w
  | .pure a,b,h,w=>by
    have h:some a=some b:=h
    injection h with h;subst h;rfl
  | .program k,b,h,w=>pureRun_run (k P) b h w
  | .load ..,_,h,_=>by cases h
  | .store ..,_,h,_=>by cases h
  | .new ..,_,h,_=>by cases h
  | .shape ..,_,h,_=>by cases h
  | .freeze ..,_,h,_=>by cases h
  | .frozen ..,_,h,_=>by cases h
  | .getObj ..,_,h,_=>by cases h
  | .setObj ..,_,h,_=>by cases h
  | .choose ..,_,h,_=>by cases h
  | .sys ..,_,h,_=>by cases h
  | .mark ..,_,h,_=>by cases h
  | .halt _,_,h,_=>by cases h
theorem conc_bool {b:Bool} {c:Value} (h:conc μ (.bool b)=some c):c=.bool b:=by injection (show some (Value.bool b)=some c from h) with h;exact h.symm
theorem conc_int {k:IntKind} {n:Int} {c:Value} (h:conc μ (.int k n)=some c):c=.int k n:=by injection (show some (Value.int k n)=some c from h) with h;exact h.symm
theorem conc_str {s:List Nat} {c:Value} (h:conc μ (.str s)=some c):c=.string (bytesV s):=by injection (show some (Value.string (bytesV s))=some c from h) with h;exact h.symm
theorem conc_ptr0 {c:Value} (h:conc μ (.ptr none)=some c):c=.pointer none:=by injection (show some (Value.pointer none)=some c from h) with h;exact h.symm
theorem conc_ptr {i:K} {o:Nat} {c:Value} (h:conc μ (.ptr (some (i,o)))=some c):∃l,μ i=some l∧c=.pointer (some (ptrV l o)):=by
  obtain ⟨l,h1,h2⟩:=Option.map_eq_some_iff.1 (show (μ i).map (fun l=>Value.pointer (some (ptrV l o)))=some c from h)
  exact ⟨l,h1,h2.symm⟩
theorem conc_slice0 {n m:Nat} {c:Value} (h:conc μ (.slice none n (.ex m))=some c):c=.slice none n m:=by
  injection (show some (Value.slice none n m)=some c from h) with h;exact h.symm
theorem conc_sliceN {n:Nat} {k:Cp} {c:Value} (h:conc μ (.slice none n k)=some c):∃a m,c=.slice a n m∧n≤n∧((k=.ex m∧a=none)∨(n=0∧m=0)):=by
  cases k with
  | ex m=>exact ⟨none,m,conc_slice0 h,Nat.le_refl _,.inl ⟨rfl,rfl⟩⟩
  | own s =>
    simp only [conc] at h
    split at h
    · rename_i hn
      subst hn
      obtain ⟨l,-,h2⟩:=Option.map_eq_some_iff.1 h
      exact ⟨_,_,h2.symm,Nat.le_refl _,.inr ⟨rfl,rfl⟩⟩
    · cases h
theorem conc_slice {i:K} {o n:Nat} {k:Cp} {c:Value} (h:conc μ (.slice (some (i,o)) n k)=some c):∃l,μ i=some l∧n≤capV l k∧c=.slice (some (ptrV l o)) n (capV l k):=by
  obtain ⟨l,h1,h2⟩:=Option.bind_eq_some_iff.1 (show (μ i).bind (fun l=>if n≤capV l k then some (Value.slice (some (ptrV l o)) n (capV l k)) else none)=some c from h)
  split at h2
  · rename_i hn
    injection h2 with h2
    exact ⟨l,h1,hn,h2.symm⟩
  · cases h2
theorem conc_slice_mk {i:K} {o n:Nat} {k:Cp} {l:Loc} (h:μ i=some l) (hn:n≤capV l k):conc μ (.slice (some (i,o)) n k)=some (.slice (some (ptrV l o)) n (capV l k)):=by
  simp only [conc,h,Option.bind_some,if_pos hn]
theorem conc_map0 {c:Value} (h:conc μ (.map none)=some c):c=.map none:=by injection (show some (Value.map none)=some c from h) with h;exact h.symm
theorem conc_map {i:K} {c:Value} (h:conc μ (.map (some i))=some c):∃l,μ i=some l∧c=.map (some l.blk):=by
  obtain ⟨l,h1,h2⟩:=Option.map_eq_some_iff.1 (show (μ i).map (fun l=>Value.map (some l.blk))=some c from h)
  exact ⟨l,h1,h2.symm⟩
theorem conc_func {f:Nat} {a b:List AV} {c:Value} (h:conc μ (.func f a b)=some c):∃x y,concL μ a=some x∧concL μ b=some y∧c=.func (.func f) x.toArray y.toArray:=by
  simp only [conc,Option.bind_eq_some_iff,Option.map_eq_some_iff] at h
  obtain ⟨x,h1,y,h2,h3⟩:=h
  exact ⟨x,y,h1,h2,h3.symm⟩
theorem conc_iface {t:Nat} {v:AV} {c:Value} (h:conc μ (.iface t v)=some c):∃x,conc μ v=some x∧c=.iface t x:=by
  simp only [conc,Option.map_eq_some_iff] at h
  obtain ⟨x,h1,h2⟩:=h
  exact ⟨x,h1,h2.symm⟩
theorem conc_agg {a:List AV} {c:Value} (h:conc μ (.agg a)=some c):∃x,concL μ a=some x∧c=.agg x.toArray:=by
  simp only [conc,Option.map_eq_some_iff] at h
  obtain ⟨x,h1,h2⟩:=h
  exact ⟨x,h1,h2.symm⟩
theorem conc_agg_mk {a:List AV} {x:List Value} (h:concL μ a=some x):conc μ (.agg a)=some (.agg x.toArray):=by simp only [conc,h,Option.map_some]
theorem conc_tup {a:List AV} {c:Value} (h:conc μ (.tup a)=some c):∃x,concL μ a=some x∧c=.tuple x.toArray:=by
  simp only [conc,Option.map_eq_some_iff] at h
  obtain ⟨x,h1,h2⟩:=h
  exact ⟨x,h1,h2.symm⟩
theorem conc_undef:conc μ (.tup [])=some undef:=rfl
theorem conc_leaf {v:AV} {c:Value} (h:conc μ v=some c) (hl:v.leaf=true):c.oneCell'=true:=by
  cases v with
  | bool b=>rw [conc_bool h];rfl
  | int k n=>rw [conc_int h];rfl
  | str s=>rw [conc_str h];rfl
  | ptr a=>cases a with
    | none=>rw [conc_ptr0 h];rfl
    | some p=>obtain ⟨l,-,rfl⟩:=conc_ptr (i:=p.1) (o:=p.2) h;rfl
  | slice a n k=>cases a with
    | none=>obtain ⟨_,m,rfl,-⟩:=conc_sliceN h;rfl
    | some p=>obtain ⟨l,-,-,rfl⟩:=conc_slice (i:=p.1) (o:=p.2) h;rfl
  | map r=>cases r with
    | none=>rw [conc_map0 h];rfl
    | some i=>obtain ⟨l,-,rfl⟩:=conc_map h;rfl
  | func f a b=>obtain ⟨x,y,-,-,rfl⟩:=conc_func h;rfl
  | nilFunc=>injection (show some Value.nilFunc=some c from h) with h;rw [←h];rfl
  | iface t v=>obtain ⟨x,-,rfl⟩:=conc_iface h;rfl
  | nilIface=>injection (show some Value.nilIface=some c from h) with h;rw [←h];rfl
  | agg l=>cases hl
  | tup l=>cases hl
theorem cells_one {c:Value} (h:c.oneCell'=true):c.cells=#[c]:=by
  cases c<;>first|rfl|cases h
theorem parts_conc {v:AV} {c:Value} (h:conc μ v=some c):concL μ v.parts=some c.cells.toList:=by
  by_cases hl:v.leaf=true
  · rw [cells_one (conc_leaf h hl)]
    have:v.parts=[v]:=by cases v<;>first|rfl|cases hl
    rw [this]
    simp only [concL,h,Option.bind_some,Option.map_some]
  · cases v with
    | agg l=>obtain ⟨x,h1,rfl⟩:=conc_agg h;exact h1
    | tup l=>obtain ⟨x,h1,rfl⟩:=conc_tup h;simp only [AV.parts,concL,h,Option.bind_some,Option.map_some];rfl
    | _=>exact absurd rfl hl
theorem allLeaf_conc:∀(l:List AV) (vs:List Value),allLeaf l=true→concL μ l=some vs→∀v∈vs,v.oneCell'=true
  | [],vs,_,h,v,hv=>by
    injection (show some []=some vs from h) with h;subst h;cases hv
  | x::xs,vs,hl,h,v,hv=>by
    have hl:@Bool.rec (fun _=>Bool) false (allLeaf xs) x.leaf=true:=hl
    cases hx:x.leaf with
    | false=>rw [hx] at hl;cases hl
    | true =>
      rw [hx] at hl
      simp only [concL,Option.bind_eq_some_iff,Option.map_eq_some_iff] at h
      obtain ⟨c,h1,ds,h2,rfl⟩:=h
      rcases List.mem_cons.1 hv with rfl|hv
      · exact conc_leaf h1 hx
      · exact allLeaf_conc xs ds hl h2 v hv
end Go.Proofs.YtoegffiapnnkiaaGreat.Abs
namespace Go.Proofs.YtoegffiapnnkiaaGreat.Abs
open Go
variable {P:Program} {B:Nat} {μ:K→Option Loc} {H:Hp} {w:World}
theorem ptrV_add (l:Loc) (o j:Nat):(ptrV l o).add j=ptrV l (o+j):=by
  unfold ptrV Addr.add
  split
  · rename_i h;subst h;rfl
  · simp [Nat.add_assoc]
theorem ptrV_eq (l:Loc) (o:Nat):ptrV l o=⟨l.blk,l.base+o,none⟩:=rfl
theorem take_drop_get {α:Type} {l:List α} {o n j:Nat} {v:α} (h:((l.drop o).take n)[j]?=some v):l[o+j]?=some v:=by
  have hj:j<n:=by
    have:=(List.getElem?_eq_some_iff.1 h).1
    simp at this;omega
  rwa [List.getElem?_take_of_lt hj,List.getElem?_drop] at h
theorem part_run {t:TypeId} {cs:List AV} {vs:List Value} {o:Nat} {v:AV} (h:partA P t cs o=some v) (hc:concL μ cs=some vs) (w:World):∃x,conc μ v=some x∧(part t vs.toArray o).run P w=.ok x w:=by
  obtain ⟨⟨g,n⟩,ht,hp⟩:=optK_some h
  cases g with
  | false =>
    have hp:getL cs o=some v:=hp
    rw [getL_eq] at hp
    obtain ⟨x,h1,h2⟩:=concL_get _ _ _ _ hc hp
    refine ⟨x,h2,?_⟩
    simp [part,tagg_one ht w,h1]
  | true =>
    obtain ⟨r,hr,hv⟩:=optK_some (show aggO (subL cs o n)=some v from hp)
    injection hv with hv;subst hv
    obtain ⟨h1,h2,h3⟩:=subL_eq hr
    have hlen:=concL_length _ _ hc
    refine ⟨.agg ((vs.drop o).take n).toArray,conc_agg_mk (by rw [h1];exact concL_take _ _ _ (concL_drop _ _ _ hc)),?_⟩
    obtain ⟨ha,hs⟩:=tagg_agg ht w
    simp [part,ha,hs,List.take_drop]
theorem loadAt_run (hR:Rel B μ H w) {i:K} {b:Bk} {cs:List AV} (hb:H i=some b) (hl:rdl b=some cs) {t:TypeId} {o:Nat} {v:AV} {c:Value} (hv:partA P t cs o=some v) (hp:conc μ (.ptr (some (i,o)))=some c) :
    ∃x,conc μ v=some x∧(Instr.loadAt t c).run P w=.ok x w:=by
  obtain ⟨l,hμ,rfl⟩:=conc_ptr hp
  obtain ⟨l',vs,hμ',hvs,hcell⟩:=hR.cells hb hl
  rw [hμ] at hμ'
  injection hμ' with hμ';subst hμ'
  obtain ⟨⟨g,n⟩,ht,hpart⟩:=optK_some hv
  cases g with
  | false =>
    have hpart:getL cs o=some v:=hpart
    rw [getL_eq] at hpart
    obtain ⟨x,h1,h2⟩:=concL_get _ _ _ _ hvs hpart
    refine ⟨x,h2,?_⟩
    have:=hcell o x h1
    simp [Instr.loadAt,Instr.sureAddr,loadVar,tagg_one ht w,ptrV_eq,this]
  | true =>
    obtain ⟨r,hr,hv⟩:=optK_some (show aggO (subL cs o n)=some v from hpart)
    injection hv with hv;subst hv
    obtain ⟨h1,h2,h3⟩:=subL_eq hr
    have hlen:=concL_length _ _ hvs
    obtain ⟨ha,hs⟩:=tagg_agg ht w
    have hn:((vs.drop o).take n).length=n:=by simp;omega
    refine ⟨.agg ((vs.drop o).take n).toArray,conc_agg_mk (by rw [h1];exact concL_take _ _ _ (concL_drop _ _ _ hvs)),?_⟩
    have hload:=run_loadCells_list (P:=P) (w:=w) (ptrV l o) ((vs.drop o).take n) (fun j v hj=>by
      rw [ptrV_add,ptrV_eq]
      exact hcell (o+j) v (take_drop_get hj))
    rw [hn] at hload
    simp [Instr.loadAt,Instr.sureAddr,loadVar,ha,hs,hload]
theorem sameK_some {k k':IntKind} {v:Option AV} {r:AV} (h:sameK k k' v=some r):k=k'∧v=some r:=by
  unfold sameK at h
  cases e:kindEq k k' with
  | false=>rw [e] at h;cases h
  | true=>rw [e] at h;exact ⟨kindEq_eq e,h⟩
theorem intBin_run {op:BinOp} {k k':IntKind} {a b:Int} {v:AV} (h:intBin op k a k' b=some v) (t:TypeId) (w:World) :
    ∃c,(∀μ,conc μ v=some c)∧(binOp op t (.int k a) (.int k' b)).run P w=.ok c w:=by
  cases op
  case shl =>
    have h:(if b<0 then none else some (AV.int k (wrapF k (a * 2^(min b.toNat k.bits)))))=some v:=h
    split at h
    · cases h
    · rename_i hb
      injection h with h;subst h
      exact ⟨_,fun _=>rfl,by simp [binOp,Op.shift,hb,wrapF_eq]⟩
  case shr =>
    have h:(if b<0 then none else some (AV.int k (a.fdiv (2^(min b.toNat k.bits)))))=some v:=h
    split at h
    · cases h
    · rename_i hb
      injection h with h;subst h
      exact ⟨_,fun _=>rfl,by simp [binOp,Op.shift,hb]⟩
  case andNot=>cases h
  case quo =>
    obtain ⟨rfl,h2⟩:=sameK_some (show sameK k k' (if b=0 then none else some (.int k (wrapF k (a.tdiv b))))=some v from h)
    split at h2
    · cases h2
    · rename_i hb
      injection h2 with h2;subst h2
      exact ⟨_,fun _=>rfl,by simp [binOp,Op.intDiv,hb,wrapF_eq]⟩
  case rem =>
    obtain ⟨rfl,h2⟩:=sameK_some (show sameK k k' (if b=0 then none else some (.int k (a.tmod b)))=some v from h)
    split at h2
    · cases h2
    · rename_i hb
      injection h2 with h2;subst h2
      exact ⟨_,fun _=>rfl,by simp [binOp,Op.intDiv,hb]⟩
  all_goals
    obtain ⟨rfl,h2⟩:=sameK_some h
    injection h2 with h2;subst h2
    exact ⟨_,fun _=>rfl,by simp [binOp,Op.intArith,Op.intBits,Op.intCmp,wrapF_eq,iadd_eq,ieqb_eq,iltb_eq,ileb_eq]<;>rfl⟩
theorem bytesV_toList (a:List Nat):(bytesV a).toList=a.map UInt8.ofNat:=by
  unfold bytesV;exact ByteArray.toList_mk _
theorem bytesV_size (a:List Nat):(bytesV a).size=a.length:=by
  show (a.map UInt8.ofNat).toArray.size=_
  simp
theorem bytesV_append (a b:List Nat):bytesV a++bytesV b=bytesV (a++b):=by
  apply ByteArray.ext
  simp [bytesV,ByteArray.data_append]
theorem u8_eq (x y:Nat):UInt8.ofNat x=UInt8.ofNat y↔x%256=y%256:=by
  constructor
  · intro h
    have:=congrArg UInt8.toNat h
    simpa using this
  · intro h
    apply UInt8.toNat_inj.1
    simpa using h
theorem eqN_eq:∀(a b:List Nat),eqN a b=(a.map UInt8.ofNat==b.map UInt8.ofNat)
  | [],[]=>rfl
  | [],_::_=>rfl
  | _::_,[]=>rfl
  | x::xs,y::ys=>by
    show @Bool.rec (fun _=>Bool) false (eqN xs ys) (Nat.beq (x%256) (y%256))=_
    rw [eqN_eq xs ys]
    simp only [List.map_cons]
    by_cases e:x%256=y%256
    · have h1:Nat.beq (x%256) (y%256)=true:=Nat.beq_eq.mpr e
      have h2:UInt8.ofNat x=UInt8.ofNat y:=(u8_eq x y).2 e
      rw [h1,h2,List.cons_beq_cons];simp
    · have h1:Nat.beq (x%256) (y%256)=false:=by
        cases hb:Nat.beq (x%256) (y%256) with
        | false=>rfl
        | true=>exact absurd (Nat.beq_eq.mp hb) e
      have h2:(UInt8.ofNat x==UInt8.ofNat y)=false:=beq_eq_false_iff_ne.mpr (fun h=>e ((u8_eq x y).1 h))
      rw [h1,List.cons_beq_cons,h2];rfl
theorem u8_lt (x y:Nat):UInt8.ofNat x<UInt8.ofNat y↔x%256<y%256:=by
  rw [UInt8.lt_iff_toNat_lt];simp
theorem ltN_eq:∀(a b:List Nat),ltN a b=Op.bytesLess (a.map UInt8.ofNat) (b.map UInt8.ofNat)
  | [],[]=>by simp [ltN,Op.bytesLess]
  | [],_::_=>by simp [ltN,Op.bytesLess]
  | _::_,[]=>by simp [ltN,Op.bytesLess]
  | x::xs,y::ys=>by
    simp only [ltN,Op.bytesLess,List.map_cons]
    rw [←ltN_eq xs ys]
    by_cases h:x%256<y%256
    · have h1:Nat.blt (x%256) (y%256)=true:=by simpa [Nat.blt_eq] using h
      rw [h1]
      have:=(u8_lt x y).2 h
      simp [this]
    · have h1:Nat.blt (x%256) (y%256)=false:=by
        cases hb:Nat.blt (x%256) (y%256) with
        | false=>rfl
        | true=>exact absurd (by simpa [Nat.blt_eq] using hb) h
      have h2:¬UInt8.ofNat x<UInt8.ofNat y:=fun h'=>h ((u8_lt x y).1 h')
      rw [h1]
      by_cases e:x%256=y%256
      · have h3:Nat.beq (x%256) (y%256)=true:=Nat.beq_eq.mpr e
        have h4:UInt8.ofNat x=UInt8.ofNat y:=(u8_eq x y).2 e
        rw [h3];simp [h4]
      · have h3:Nat.beq (x%256) (y%256)=false:=by
          cases hb:Nat.beq (x%256) (y%256) with
          | false=>rfl
          | true=>exact absurd (Nat.beq_eq.mp hb) e
        have h4:(UInt8.ofNat x==UInt8.ofNat y)=false:=beq_eq_false_iff_ne.mpr (fun h=>e ((u8_eq x y).1 h))
        rw [h3];simp [h2,h4]
theorem strBin_run {op:BinOp} {a b:List Nat} {v:AV} (h:strBin op a b=some v) (t:TypeId) (w:World) :
    ∃c,(∀μ,conc μ v=some c)∧(binOp op t (.string (bytesV a)) (.string (bytesV b))).run P w=.ok c w:=by
  cases op<;>simp only [strBin] at h<;>first
    | (cases h;done)
    | (split at h
       · rename_i hs
         injection h with h;subst h
         refine ⟨_,fun _=>rfl,?_⟩
         have:¬(((bytesV a).size+(bytesV b).size:Nat):Int)>IntKind.i64.max:=by
           rw [bytesV_size,bytesV_size]
           show ¬((a.length+b.length:Nat):Int)>9223372036854775807
           omega
         simp only [binOp,Op.stringOp,if_neg this,bytesV_append]
         rfl
       · cases h)
    | (injection h with h;subst h
       refine ⟨_,fun _=>rfl,?_⟩
       simp [binOp,Op.stringOp,bytesV_toList,eqN_eq,ltN_eq])
theorem opUn_run {op:UnOp} {x:Option AV} {v:AV} (h:opUn op x=some v):∃u,x=some u∧∀c,conc μ u=some c→∃d,conc μ v=some d∧∀w,(Op.unary op c).run P w=.ok d w:=by
  unfold opUn at h
  split at h
  · rename_i b
    injection h with h;subst h
    refine ⟨_,rfl,fun c hc=>?_⟩
    rw [conc_bool hc]
    exact ⟨_,rfl,fun w=>by simp [Op.unary]⟩
  · rename_i k n
    injection h with h;subst h
    refine ⟨_,rfl,fun c hc=>?_⟩
    rw [conc_int hc]
    exact ⟨_,rfl,fun w=>by simp [Op.unary,Op.intArith]⟩
  · cases h
theorem opConv_run {a b:TypeId} {x:Option AV} {v:AV} (h:opConv P a b x=some v):∃u,x=some u∧∀c,conc μ u=some c→∃d,conc μ v=some d∧∀w,(convert a b c).run P w=.ok d w:=by
  unfold opConv at h
  split at h
  · rename_i d k k' n h1 h2
    injection h with h;subst h
    refine ⟨_,rfl,fun c hc=>?_⟩
    rw [conc_int hc]
    exact ⟨_,rfl,fun w=>by simp [convert,underlying,h1,h2,Conv.intToInt]⟩
  · rename_i d s h1 h2
    injection h with h;subst h
    refine ⟨_,rfl,fun c hc=>?_⟩
    rw [conc_str hc]
    exact ⟨_,rfl,fun w=>by simp [convert,underlying,h1,h2]⟩
  · cases h
end Go.Proofs.YtoegffiapnnkiaaGreat.Abs
namespace Go.Proofs.YtoegffiapnnkiaaGreat.Abs
open Go
variable {P:Program} {B:Nat} {μ:K→Option Loc} {H:Hp} {w:World}
theorem equal_run {t:TypeId} {d:TypeDesc} (_hu:P.underlying t=some d) {x y:Value} {b:Bool} (h:∀n w,(Op.equalIn (n+1) t x y).run P w=.ok b w) (w:World):(Op.equal t x y).run P w=.ok b w:=h 9999 w
theorem mono0 {v:AV} {c:Value} (h:conc none0 v=some c):conc μ v=some c:=conc_mono (fun _ _ e=>by cases e) v c h
theorem eqDeep_run {t:TypeId} {xs ys:List AV} {b:Bool} (h:eqDeep P t (.agg xs) (.agg ys)=some b) {X Y:Value} (hX:conc μ (.agg xs)=some X) (hY:conc μ (.agg ys)=some Y) :
    (∀w xo yo,(eqGuard .eql t xo yo X Y).run P w=.ok () w)∧(∀w xo yo,(eqGuard .neq t xo yo X Y).run P w=.ok () w)∧∀w,(Op.equal t X Y).run P w=.ok b w:=by
  unfold eqDeep at h
  split at h
  · rename_i X' Y' h1 h2
    have e1:=mono0 (μ:=μ) h1
    have e2:=mono0 (μ:=μ) h2
    rw [hX] at e1;rw [hY] at e2
    injection e1 with e1;injection e2 with e2
    subst e1;subst e2
    obtain ⟨x,-,rfl⟩:=conc_agg hX
    obtain ⟨y,-,rfl⟩:=conc_agg hY
    split at h
    · rename_i g hg
      have hg:=pureRun_run _ _ hg
      exact ⟨fun w _ _=>hg w,fun w _ _=>hg w,pureRun_run _ _ h⟩
    · cases h
  · cases h
theorem eqFs_run {rec:TypeId→AV→AV→Option Bool} {d:Nat} (hrec:∀t x y b,rec t x y=some b→∀X Y,conc μ x=some X→conc μ y=some Y→∀w,(Op.equalIn d t X Y).run P w=.ok b w) {xs ys:List AV} {vs us:List Value} (hx:concL μ xs=some vs) (hy:concL μ ys=some us) :
    ∀(fs:List Field) (b:Bool),eqFs rec P xs ys fs=some b→∀w,(Op.eqFields d vs.toArray us.toArray fs).run P w=.ok b w
  | [],b,h,w=>by injection h with h;subst h;simp [Op.eqFields]
  | f::fs,b,h,w=>by
    simp only [eqFs] at h
    split at h
    · cases h
    · rename_i q hq
      have ih:=eqFs_run hrec hx hy fs q hq
      split at h
      · rename_i hn
        injection h with h;subst h
        have hn:f.name = "_" := by simpa using hn
        rw [Op.eqFields,if_neg (by simp [hn])]
        exact ih w
      · rename_i hn
        have hn:f.name ≠ "_" := by simpa using hn
        split at h
        · rename_i a c ha hc
          split at h
          · rename_i r hr
            injection h with h;subst h
            obtain ⟨A,h1,h2⟩:=part_run ha hx w
            obtain ⟨C,h3,h4⟩:=part_run hc hy w
            have h5:=hrec _ _ _ _ hr A C h1 h3
            rw [Op.eqFields,if_pos hn]
            simp only [Sem.run_bind,h2,h4,h5,Result.andThen_ok]
            cases r
            · simp
            · simpa using ih w
          · cases h
        · cases h
theorem eqS_run:∀(d:Nat) (t:TypeId) (x y:AV) (b:Bool),eqS P d t x y=some b→∀X Y,conc μ x=some X→conc μ y=some Y→∀n,d≤n→∀w,(Op.equalIn n t X Y).run P w=.ok b w
  | 0,t,x,y,b,h,X,Y,_,_,n,_,w=>by cases h
  | d+1,t,x,y,b,h,X,Y,hX,hY,n,hn,w=>by
    obtain ⟨n,rfl⟩:∃m,n=m+1:=⟨n-1,by omega⟩
    simp only [eqS] at h
    split at h
    · rename_i k0 k a k' c hu
      split at h
      · rename_i hk
        injection h with h;subst h
        have:=kindEq_eq hk;subst this
        injection (show some (Value.int k a)=some X from hX) with hX;subst hX
        injection (show some (Value.int k c)=some Y from hY) with hY;subst hY
        rw [ieqb_eq]
        exact run_equalIn_int w n t k k0 a c hu
      · cases h
    · rename_i a c hu
      injection h with h;subst h
      injection (show some (Value.bool a)=some X from hX) with hX;subst hX
      injection (show some (Value.bool c)=some Y from hY) with hY;subst hY
      exact run_equalIn_bool' w n t a c hu
    · rename_i a c hu
      injection h with h;subst h
      injection (show some (Value.string (bytesV a))=some X from hX) with hX;subst hX
      injection (show some (Value.string (bytesV c))=some Y from hY) with hY;subst hY
      rw [eqN_eq,←bytesV_toList,←bytesV_toList]
      exact run_equalIn_string w n t _ _ hu
    · rename_i fs xs ys hu
      split at h
      · cases h
      · rename_i hst
        obtain ⟨vs,h1,rfl⟩:=conc_agg hX
        obtain ⟨us,h2,rfl⟩:=conc_agg hY
        have hf:P.fieldsOf t=fs:=by simp [Program.fieldsOf,hu]
        rw [run_equalIn_struct (P:=P) w n t vs.toArray us.toArray (by rw [hf];exact hu) hst,hf]
        exact eqFs_run (fun t' x' y' b' h' X' Y' hX' hY' w'=>eqS_run d t' x' y' b' h' X' Y' hX' hY' n (by omega) w') h1 h2 fs.toList b h w
    · cases h
theorem eqStr_run {t:TypeId} {xs ys:List AV} {b:Bool} (h:eqStr P t (.agg xs) (.agg ys)=some b) {X Y:Value} (hX:conc μ (.agg xs)=some X) (hY:conc μ (.agg ys)=some Y) :
    (∀w xo yo,(eqGuard .eql t xo yo X Y).run P w=.ok () w)∧(∀w xo yo,(eqGuard .neq t xo yo X Y).run P w=.ok () w)∧∀w,(Op.equal t X Y).run P w=.ok b w:=by
  unfold eqStr at h
  split at h
  · rename_i b' hg hs
    injection h with h;subst h
    have h9:=eqS_run 8 t _ _ _ hs X Y hX hY 10000 (by omega)
    obtain ⟨vs,h1,rfl⟩:=conc_agg hX
    obtain ⟨us,h2,rfl⟩:=conc_agg hY
    exact ⟨fun w xo yo=>run_eqGuard_agg w .eql t xo yo _ _ hg,fun w xo yo=>run_eqGuard_agg w .neq t xo yo _ _ hg,h9⟩
  · exact eqDeep_run h hX hY
theorem eqA_run {t:TypeId} {x y:AV} {b:Bool} (h:eqA P t x y=some b) {X Y:Value} (hX:conc μ x=some X) (hY:conc μ y=some Y) :
    (∀w xo yo,(do eqGuard .eql t xo yo X Y;binOp .eql t X Y:Sem Value).run P w=.ok (.bool b) w∧(do eqGuard .neq t xo yo X Y;binOp .neq t X Y:Sem Value).run P w=.ok (.bool (!b)) w):=by
  intro w xo yo
  unfold eqA at h
  split at h
  case h_1 a c hu =>
    injection h with h;subst h
    rw [conc_bool hX,conc_bool hY]
    have e:(Op.equal t (.bool a) (.bool c)).run P w=.ok (a==c) w:=equal_run hu (fun n w=>by rw [Op.equalIn];simp [run_underlying hu]) w
    exact ⟨by simp [eqGuard,binOp,e],by simp [eqGuard,binOp,e]⟩
  case h_2 e c hu =>
    injection h with h;subst h
    rw [conc_ptr0 hX]
    cases c with
    | none =>
      rw [conc_ptr0 hY]
      have e:(Op.equal t (.pointer none) (.pointer none)).run P w=.ok true w:=equal_run hu (fun n w=>by rw [Op.equalIn];simp [run_underlying hu]) w
      exact ⟨by simp [eqGuard,binOp,e],by simp [eqGuard,binOp,e]⟩
    | some p =>
      obtain ⟨l,-,rfl⟩:=conc_ptr (i:=p.1) (o:=p.2) hY
      have e:(Op.equal t (.pointer none) (.pointer (some (ptrV l p.2)))).run P w=.ok false w:=equal_run hu (fun n w=>by rw [Op.equalIn];simp [run_underlying hu]) w
      exact ⟨by simp [eqGuard,binOp,e],by simp [eqGuard,binOp,e]⟩
  case h_3 e p hu =>
    injection h with h;subst h
    obtain ⟨l,-,rfl⟩:=conc_ptr (i:=p.1) (o:=p.2) hX
    rw [conc_ptr0 hY]
    have e:(Op.equal t (.pointer (some (ptrV l p.2))) (.pointer none)).run P w=.ok false w:=equal_run hu (fun n w=>by rw [Op.equalIn];simp [run_underlying hu]) w
    exact ⟨by simp [eqGuard,binOp,e],by simp [eqGuard,binOp,e]⟩
  case h_4 e n m n' m' hu =>
    injection h with h;subst h
    rw [conc_slice0 hX,conc_slice0 hY]
    have e:(Op.equal t (.slice none n m) (.slice none n' m')).run P w=.ok true w:=equal_run hu (fun n w=>by rw [Op.equalIn];simp [run_underlying hu]) w
    exact ⟨by simp [eqGuard,binOp,e],by simp [eqGuard,binOp,e]⟩
  case h_5 e n m p n' k' hu =>
    injection h with h;subst h
    rw [conc_slice0 hX]
    obtain ⟨l,-,-,rfl⟩:=conc_slice (i:=p.1) (o:=p.2) hY
    have e:(Op.equal t (.slice none n m) (.slice (some (ptrV l p.2)) n' (capV l k'))).run P w=.ok false w:=equal_run hu (fun n w=>by rw [Op.equalIn];simp [run_underlying hu]) w
    exact ⟨by simp [eqGuard,binOp,e],by simp [eqGuard,binOp,e]⟩
  case h_6 e p n k n' m hu =>
    injection h with h;subst h
    obtain ⟨l,-,-,rfl⟩:=conc_slice (i:=p.1) (o:=p.2) hX
    rw [conc_slice0 hY]
    have e:(Op.equal t (.slice (some (ptrV l p.2)) n (capV l k)) (.slice none n' m)).run P w=.ok false w:=equal_run hu (fun n w=>by rw [Op.equalIn];simp [run_underlying hu]) w
    exact ⟨by simp [eqGuard,binOp,e],by simp [eqGuard,binOp,e]⟩
  case h_7 kt et c hu =>
    injection h with h;subst h
    rw [conc_map0 hX]
    cases c with
    | none =>
      rw [conc_map0 hY]
      have e:(Op.equal t (.map none) (.map none)).run P w=.ok true w:=equal_run hu (fun n w=>by rw [Op.equalIn];simp [run_underlying hu]) w
      exact ⟨by simp [eqGuard,binOp,e],by simp [eqGuard,binOp,e]⟩
    | some p =>
      obtain ⟨l,-,rfl⟩:=conc_map hY
      have e:(Op.equal t (.map none) (.map (some l.blk))).run P w=.ok false w:=equal_run hu (fun n w=>by rw [Op.equalIn];simp [run_underlying hu]) w
      exact ⟨by simp [eqGuard,binOp,e],by simp [eqGuard,binOp,e]⟩
  case h_8 kt et p hu =>
    injection h with h;subst h
    obtain ⟨l,-,rfl⟩:=conc_map hX
    rw [conc_map0 hY]
    have e:(Op.equal t (.map (some l.blk)) (.map none)).run P w=.ok false w:=equal_run hu (fun n w=>by rw [Op.equalIn];simp [run_underlying hu]) w
    exact ⟨by simp [eqGuard,binOp,e],by simp [eqGuard,binOp,e]⟩
  case h_9 fs xs ys hu =>
    obtain ⟨g1,g2,e⟩:=eqStr_run h hX hY
    obtain ⟨x,-,rfl⟩:=conc_agg hX
    obtain ⟨y,-,rfl⟩:=conc_agg hY
    exact ⟨by simp [g1,binOp,e],by simp [g2,binOp,e]⟩
  case h_10 n et xs ys hu =>
    obtain ⟨g1,g2,e⟩:=eqDeep_run h hX hY
    obtain ⟨x,-,rfl⟩:=conc_agg hX
    obtain ⟨y,-,rfl⟩:=conc_agg hY
    exact ⟨by simp [g1,binOp,e],by simp [g2,binOp,e]⟩
  case h_11=>cases h
theorem opBin_run {op:BinOp} {t:TypeId} {x y:Option AV} {v:AV} (h:opBin P op t x y=some v):∃a b,x=some a∧y=some b∧∀μ X Y,conc μ a=some X→conc μ b=some Y→∃c,conc μ v=some c∧∀w xo yo,(do eqGuard op t xo yo X Y;binOp op t X Y:Sem Value).run P w=.ok c w:=by
  unfold opBin at h
  cases hx:optK asInt x with
  | some p =>
    rw [hx] at h
    obtain ⟨a,ha,ha2⟩:=optK_some hx
    obtain ⟨q,hq,hr⟩:=optK_some h
    obtain ⟨b,hb,hb2⟩:=optK_some hq
    refine ⟨a,b,ha,hb,fun μ X Y hX hY=>?_⟩
    rw [asInt_some ha2] at hX
    rw [asInt_some hb2] at hY
    rw [conc_int hX,conc_int hY]
    obtain ⟨c,hc,-⟩:=intBin_run (P:=P) hr t default
    refine ⟨c,hc μ,fun w xo yo=>?_⟩
    obtain ⟨c',hc',hrun⟩:=intBin_run (P:=P) hr t w
    have:c'=c:=by have:=(hc' μ).symm.trans (hc μ);injection this
    subst this
    have hg:(eqGuard op t xo yo (.int p.1 p.2) (.int q.1 q.2)).run P w=.ok () w:=by cases op<;>simp [eqGuard]
    simp [hg,hrun]
  | none =>
    rw [hx] at h
    have h:opBin2 P op t x y=some v:=h
    clear hx
    unfold opBin2 at h
    split at h
    · rename_i a b _
      refine ⟨_,_,rfl,rfl,fun μ X Y hX hY=>?_⟩
      rw [conc_str hX,conc_str hY]
      obtain ⟨c,hc,-⟩:=strBin_run (P:=P) h t default
      refine ⟨c,hc μ,fun w xo yo=>?_⟩
      obtain ⟨c',hc',hrun⟩:=strBin_run (P:=P) h t w
      have:c'=c:=by have:=(hc' μ).symm.trans (hc μ);injection this
      subst this
      have hg:(eqGuard op t xo yo (.string (bytesV a)) (.string (bytesV b))).run P w=.ok () w:=by cases op<;>simp [eqGuard]
      simp [hg,hrun]
    · rename_i a b _
      refine ⟨_,_,rfl,rfl,fun μ X Y hX hY=>?_⟩
      unfold binOther at h
      split at h
      · split at h
        · rename_i e he
          injection h with h;subst h
          exact ⟨_,rfl,fun w xo yo=>(eqA_run he hX hY w xo yo).1⟩
        · cases h
      · split at h
        · rename_i e he
          injection h with h;subst h
          exact ⟨_,rfl,fun w xo yo=>(eqA_run he hX hY w xo yo).2⟩
        · cases h
      · cases h
    · cases h
end Go.Proofs.YtoegffiapnnkiaaGreat.Abs
namespace Go.Proofs.YtoegffiapnnkiaaGreat.Abs
open Go
variable {P:Program} {B:Nat} {μ:K→Option Loc} {H:Hp} {w:World}
theorem opField_run {t:TypeId} {x:Option AV} {f:Nat} {v:AV} (h:opField P t x f=some v):∃u,x=some u∧∀μ c,conc μ u=some c→∃d,conc μ v=some d∧∀w,(Instr.field t c f).run P w=.ok d w:=by
  unfold opField at h
  split at h
  · rename_i fs l hu
    refine ⟨_,rfl,fun μ c hc=>?_⟩
    obtain ⟨vs,hvs,rfl⟩:=conc_agg hc
    split at h
    · rename_i d hd
      rw [getL_eq,Array.getElem?_toList] at hd
      obtain ⟨x,hx,-⟩:=part_run h hvs default
      refine ⟨x,hx,fun w=>?_⟩
      obtain ⟨x',hx',hr⟩:=part_run h hvs w
      have:x'=x:=by rw [hx] at hx';injection hx' with hx';exact hx'.symm
      subst this
      simp [Instr.field,run_underlying hu,hd,Go.asAgg,hr]
    · cases h
  · cases h
theorem opFieldAddr_run {t:TypeId} {x:Option AV} {f:Nat} {v:AV} (h:opFieldAddr P t x f=some v):∃u,x=some u∧∀μ c,conc μ u=some c→∃d,conc μ v=some d∧∀w,(Instr.fieldAt t c f).run P w=.ok d w:=by
  obtain ⟨p,hp,h⟩:=optK_some h
  obtain ⟨u,hu,hp⟩:=optK_some hp
  obtain ⟨o,ho,h⟩:=optK_some h
  injection h with h;subst h
  have hp:=asPtr_some hp
  subst hp
  refine ⟨_,hu,fun μ c hc=>?_⟩
  obtain ⟨l,hl,rfl⟩:=conc_ptr (i:=p.1) (o:=p.2) hc
  unfold offOf at ho
  split at ho
  · rename_i fs hun
    split at ho
    · rename_i d hd
      split at ho
      · rename_i n hn
        injection ho with ho;subst ho
        rw [Array.getElem?_toList] at hd
        refine ⟨.pointer (some (ptrV l (p.2+d.offset))),?_,fun w=>?_⟩
        · show (μ p.1).map (fun l=>Value.pointer (some (ptrV l (p.2+d.offset))))=_
          rw [hl];rfl
        · have hs:=tsize_run (P:=P) hn w
          simp [Instr.fieldAt,run_underlying hun,hd,Instr.sureAddr,fieldPlace,hs,ptrV_add]
      · cases ho
    · cases ho
  · cases ho
theorem opIndex_run {t:TypeId} {x ix:Option AV} {v:AV} (h:opIndex P t x ix=some v):∃u i,x=some u∧ix=some i∧∀μ c d,conc μ u=some c→conc μ i=some d→∃r,conc μ v=some r∧∀w,(Instr.index t c d).run P w=.ok r w:=by
  unfold opIndex at h
  split at h
  · rename_i s k i hu
    refine ⟨_,_,rfl,rfl,fun μ c d hc hd=>?_⟩
    rw [conc_str hc,conc_int hd]
    split at h
    · rename_i b hb
      injection h with h;subst h
      rw [getL_eq] at hb
      refine ⟨_,rfl,fun w=>?_⟩
      have hlt:i<(bytesV s).size:=by rw [bytesV_size];exact (List.getElem?_eq_some_iff.1 hb).1
      have hg:(bytesV s)[i]?=some (UInt8.ofNat b):=by
        show (bytesV s).data[i]?=_
        simp [bytesV,hb]
      have h0:(0:Int)≤Int.ofNat i:=Int.natCast_nonneg i
      simp [Instr.index,asIntOf,run_underlying hu,hg]
      rfl
    · cases h
  · rename_i len e l k i hu
    refine ⟨_,_,rfl,rfl,fun μ c d hc hd=>?_⟩
    obtain ⟨vs,hvs,rfl⟩:=conc_agg hc
    rw [conc_int hd]
    split at h
    · rename_i n hb hn
      have hlt:i<len:=by simpa [Nat.blt_eq] using hb
      obtain ⟨x,hx,-⟩:=part_run h hvs default
      refine ⟨x,hx,fun w=>?_⟩
      obtain ⟨x',hx',hr⟩:=part_run h hvs w
      have:x'=x:=by rw [hx] at hx';injection hx' with hx';exact hx'.symm
      subst this
      have hs:=tsize_run (P:=P) hn w
      have hr:(part e vs.toArray (i * n)).run P w=.ok x' w:=hr
      simp [Instr.index,asIntOf,run_underlying hu,hlt,hs,hr]
    · cases h
  · cases h
theorem opIndexAddr_run {t:TypeId} {x ix:Option AV} {v:AV} (h:opIndexAddr P t x ix=some v):∃u i,x=some u∧ix=some i∧∀μ c d,conc μ u=some c→conc μ i=some d→∃r,conc μ v=some r∧∀w,(Instr.indexAt t c d).run P w=.ok r w:=by
  unfold opIndexAddr at h
  split at h
  · rename_i e j o len k kk i hu
    refine ⟨_,_,rfl,rfl,fun μ c d hc hd=>?_⟩
    obtain ⟨l,hl,-,rfl⟩:=conc_slice hc
    rw [conc_int hd]
    split at h
    · rename_i n hb hn
      have hlt:i<len:=by simpa [Nat.blt_eq] using hb
      injection h with h;subst h
      refine ⟨.pointer (some (ptrV l (o+i * n))),?_,fun w=>?_⟩
      · show (μ j).map (fun l=>Value.pointer (some (ptrV l (o+i * n))))=_
        rw [hl];rfl
      · have hs:=tsize_run (P:=P) hn w
        simp [Instr.indexAt,asIntOf,run_underlying hu,hlt,hs,ptrV_add]
    · cases h
  · rename_i len e j o kk i hu
    refine ⟨_,_,rfl,rfl,fun μ c d hc hd=>?_⟩
    obtain ⟨l,hl,rfl⟩:=conc_ptr hc
    rw [conc_int hd]
    split at h
    · rename_i n hb hn
      have hlt:i<len:=by simpa [Nat.blt_eq] using hb
      injection h with h;subst h
      refine ⟨.pointer (some (ptrV l (o+i * n))),?_,fun w=>?_⟩
      · show (μ j).map (fun l=>Value.pointer (some (ptrV l (o+i * n))))=_
        rw [hl];rfl
      · have hs:=tsize_run (P:=P) hn w
        simp [Instr.indexAt,asIntOf,run_underlying hu,Instr.sureAddr,hlt,hs,ptrV_add]
    · cases h
  · cases h
theorem opExtract_run {x:Option AV} {i:Nat} {v:AV} (h:opExtract x i=some v):∃u,x=some u∧∀μ c,conc μ u=some c→∃d,conc μ v=some d∧∀w,(Instr.extract c i).run P w=.ok d w:=by
  unfold opExtract at h
  split at h
  · rename_i l
    refine ⟨_,rfl,fun μ c hc=>?_⟩
    obtain ⟨vs,hvs,rfl⟩:=conc_tup hc
    rw [getL_eq] at h
    obtain ⟨x,h1,h2⟩:=concL_get _ _ _ _ hvs h
    exact ⟨x,h2,fun w=>by simp [Instr.extract,h1]⟩
  · cases h
theorem opPick_run {c a b:Option AV} {v:AV} (h:opPick c a b=some v):∃g,c=some (.bool g)∧(if g then a else b)=some v:=by
  obtain ⟨g,hg,h⟩:=optK_some h
  obtain ⟨u,hu,hg⟩:=optK_some hg
  rw [asBool_some hg] at hu
  refine ⟨g,hu,?_⟩
  cases g
  · exact h
  · exact h
theorem opMkIface_run {t:TypeId} {x:Option AV} {v:AV} (h:opMkIface P t x=some v):∃u,x=some u∧∀μ c,conc μ u=some c→∃d,conc μ v=some d∧∀w,(Instr.makeInterface t c).run P w=.ok d w:=by
  unfold opMkIface at h
  split at h
  · cases h
  · rename_i d u hn hu
    injection h with h;subst h
    refine ⟨_,rfl,fun μ c hc=>⟨.iface t c,?_,fun w=>?_⟩⟩
    · simp only [conc,hc,Option.map_some]
    · cases d<;>first
        | exact absurd rfl (hn _)
        | (simp [Instr.makeInterface,run_underlying hu];done)
  · cases h
theorem opNil_run {x:Option AV} {v:AV} (h:opNil x=some v):x=some v∧∀μ c,conc μ v=some c→(∃a,c=.pointer (some a))∨(∃t y,c=.iface t y)∨∃f a b,c=.func (.func f) a b:=by
  unfold opNil at h
  split at h
  · rename_i p
    injection h with h;subst h
    refine ⟨rfl,fun μ c hc=>.inl ?_⟩
    obtain ⟨l,-,rfl⟩:=conc_ptr (i:=p.1) (o:=p.2) hc
    exact ⟨_,rfl⟩
  · injection h with h;subst h
    refine ⟨rfl,fun μ c hc=>.inr (.inl ?_)⟩
    obtain ⟨y,-,rfl⟩:=conc_iface hc
    exact ⟨_,_,rfl⟩
  · injection h with h;subst h
    refine ⟨rfl,fun μ c hc=>.inr (.inr ?_)⟩
    obtain ⟨a,b,-,-,rfl⟩:=conc_func hc
    exact ⟨_,_,_,rfl⟩
  · cases h
theorem foldMM_run {least:Bool}:∀(xs:List AV) (x v:AV),foldMM least x xs=some v→∀μ c cs,conc μ x=some c→concL μ xs=some cs →
    ∃d,conc μ v=some d∧∀w,(cs.foldlM (if least then Builtin.min2 else Builtin.max2) c).run P w=.ok d w
  | [],x,v,h,μ,c,cs,hc,hcs=>by
    injection (show some []=some cs from hcs) with hcs;subst hcs
    cases x<;>simp only [foldMM] at h<;>first|(cases h;done)|(injection h with h;subst h;exact ⟨c,hc,fun w=>by simp⟩)
  | y::ys,x,v,h,μ,c,cs,hc,hcs=>by
    simp only [concL,Option.bind_eq_some_iff,Option.map_eq_some_iff] at hcs
    obtain ⟨d,hd,ds,hds,rfl⟩:=hcs
    cases x<;>cases y<;>simp only [foldMM] at h<;>first|(cases h;done)|skip
    rename_i k a k' b
    rw [conc_int hc,conc_int hd]
    obtain ⟨r,hr,hrun⟩:=foldMM_run ys _ v h μ _ ds rfl hds
    refine ⟨r,hr,fun w=>?_⟩
    have:=hrun w
    cases least
    · simpa [List.foldlM_cons,Builtin.max2] using this
    · simpa [List.foldlM_cons,Builtin.min2] using this
theorem bound_run {most dflt r:Nat} {x:AV} (h:bound1 most dflt (some x)=some r):r≤most∧∀μ c,conc μ x=some c→∀(most':Nat),most≤most'→∀code w,(Instr.sliceBound c most' code).run P w=.ok r w:=by
  unfold bound1 at h
  split at h
  · cases ‹_=none›
  · rename_i k i hx
    injection hx with hx;subst hx
    split at h
    · rename_i hi
      injection h with h;subst h
      refine ⟨by omega,fun μ c hc most' hm code w=>?_⟩
      rw [conc_int hc]
      have:i≤(most':Int):=by omega
      simp [Instr.sliceBound,asIntOf,hi.1,this]
    · cases h
  · cases h
theorem bound0 {most dflt r:Nat} (h:bound1 most dflt none=some r):r=dflt:=by injection (show some dflt=some r from h) with h;exact h.symm
def ConcO (μ:K→Option Loc) (x:Option AV) (c:Option Value):Prop:=match x with
  | none=>c=none
  | some v=>∃y,c=some y∧conc μ v=some y
theorem bounds2_run {isS:Bool} {len cap most h l:Nat} {hi lo:Option AV} (hm:most≤cap) (h1:bound1 most len hi=some h) (h2:bound1 h 0 lo=some l) (hlen:hi=none→len≤len) {chi clo:Option Value} (e1:ConcO μ hi chi) (e2:ConcO μ lo clo) (w:World) :
    (Instr.sliceBounds isS len cap clo chi none).run P w=.ok (l,h,cap) w:=by
  have _:=hlen
  cases hi with
  | none =>
    have e1:chi=none:=e1
    subst e1
    have:=bound0 h1
    subst this
    cases lo with
    | none =>
      have e2:clo=none:=e2
      subst e2
      have:=bound0 h2
      subst this
      simp [Instr.sliceBounds]
    | some x =>
      obtain ⟨c,rfl,hc⟩:=e2
      obtain ⟨-,hr⟩:=bound_run (P:=P) h2
      have:=hr μ c hc h (Nat.le_refl _) .sliceB w
      simp [Instr.sliceBounds,this]
  | some y =>
    obtain ⟨d,rfl,hd⟩:=e1
    obtain ⟨-,hr1⟩:=bound_run (P:=P) h1
    have q1:=hr1 μ d hd cap hm
    cases lo with
    | none =>
      have e2:clo=none:=e2
      subst e2
      have:=bound0 h2
      subst this
      simp [Instr.sliceBounds,q1]
    | some x =>
      obtain ⟨c,rfl,hc⟩:=e2
      obtain ⟨-,hr⟩:=bound_run (P:=P) h2
      have q2:=hr μ c hc h (Nat.le_refl _) .sliceB w
      simp [Instr.sliceBounds,q1,q2]
theorem bounds3_run {len cap most m h l:Nat} {mx hi:AV} {lo:Option AV} (hmost:most≤cap) (h0:bound1 most 0 (some mx)=some m) (h1:bound1 m 0 (some hi)=some h) (h2:bound1 h 0 lo=some l) {cmx chi:Value} {clo:Option Value} (e0:conc μ mx=some cmx) (e1:conc μ hi=some chi) (e2:ConcO μ lo clo) (w:World) :
    (Instr.sliceBounds true len cap clo (some chi) (some cmx)).run P w=.ok (l,h,m) w:=by
  obtain ⟨-,r0⟩:=bound_run (P:=P) h0
  have q0:=r0 μ cmx e0 cap hmost
  obtain ⟨-,r1⟩:=bound_run (P:=P) h1
  have q1:=r1 μ chi e1 m (Nat.le_refl _)
  cases lo with
  | none =>
    have e2:clo=none:=e2
    subst e2
    have:=bound0 h2
    subst this
    simp [Instr.sliceBounds,q0,q1]
  | some x =>
    obtain ⟨c,rfl,hc⟩:=e2
    obtain ⟨-,hr⟩:=bound_run (P:=P) h2
    have q2:=hr μ c hc h (Nat.le_refl _) .slice3C w
    simp [Instr.sliceBounds,q0,q1,q2]
theorem bound1_le {most dflt r:Nat} {x:Option AV} (hd:dflt≤most) (h:bound1 most dflt x=some r):r≤most:=by
  cases x with
  | none=>rw [bound0 h];exact hd
  | some v=>exact (bound_run (P:=default) h).1
end Go.Proofs.YtoegffiapnnkiaaGreat.Abs
namespace Go.Proofs.YtoegffiapnnkiaaGreat.Abs
open Go
variable {P:Program} {B:Nat} {μ:K→Option Loc} {H:Hp} {w:World}
theorem bytesV_extract (s:List Nat) (l h:Nat):(bytesV s).extract l h=bytesV ((s.drop l).take (h-l)):=by
  apply ByteArray.ext
  rw [ByteArray.data_extract]
  show (s.map UInt8.ofNat).toArray.extract l h=(((s.drop l).take (h-l)).map UInt8.ofNat).toArray
  rw [List.extract_toArray]
  simp [List.map_drop,List.map_take]
theorem ptrV_add0 (l:Loc) (o:Nat):(ptrV l o).add 0=ptrV l o:=by rw [ptrV_add];rfl
theorem capM_le {l:Loc} {c:Cp} {n:Nat} (h:n≤capV l c):capM c n≤capV l c:=by
  cases c with
  | ex k=>exact Nat.le_refl k
  | own s=>exact h
theorem cutCap_eq (l:Loc) (c:Cp) (k:Nat):capV l (cutCap c k)=capV l c-k:=by
  cases c with
  | ex n=>rfl
  | own s=>show l.cap-(s+k)=l.cap-s-k;omega
theorem opSlice_run {t:TypeId} {x:Option AV} {lo hi mx:Option (Option AV)} {v:AV} (h:opSlice P t x lo hi mx=some v) :
    ∃u lo' hi' mx',x=some u∧lo=some lo'∧hi=some hi'∧mx=some mx'∧∀μ c clo chi cmx,conc μ u=some c→ConcO μ lo' clo→ConcO μ hi' chi→ConcO μ mx' cmx →
      ∃d,conc μ v=some d∧∀w,(Instr.sliceAt t c clo chi cmx).run P w=.ok d w:=by
  unfold opSlice at h
  split at h
  · rename_i s lo hi hu
    refine ⟨_,_,_,_,rfl,rfl,rfl,rfl,fun μ c clo chi cmx hc e1 e2 e3=>?_⟩
    have e3:cmx=none:=e3
    subst e3
    rw [conc_str hc]
    split at h
    · rename_i hh h1
      split at h
      · rename_i l h2
        split at h
        · rename_i r hr
          injection h with h;subst h
          obtain ⟨q1,q2,-⟩:=subL_eq hr
          refine ⟨_,rfl,fun w=>?_⟩
          have hb:=bounds2_run (P:=P) (isS:=false) (len:=(bytesV s).size) (cap:=(bytesV s).size) (most:=s.length) (by rw [bytesV_size];exact Nat.le_refl _) (by rw [bytesV_size];exact h1) h2 (fun _=>Nat.le_refl _) e2 e1 w
          simp only [Instr.sliceAt,Sem.run_bind,run_underlying hu,Result.andThen_ok,Instr.slice,Option.isSome_none,Bool.false_eq_true,if_false,hb,bytesV_extract,←q1]
          rfl
        · cases h
      · cases h
    · cases h
  · rename_i e a len cp lo hi hu
    refine ⟨_,_,_,_,rfl,rfl,rfl,rfl,fun μ c clo chi cmx hc e1 e2 e3=>?_⟩
    have e3:cmx=none:=e3
    subst e3
    split at h
    · rename_i n hn
      have hs:=fun w=>tsize_run (P:=P) hn w
      split at h
      · rename_i hh h1
        split at h
        · rename_i l h2
          have hle:l≤hh:=bound1_le (Nat.zero_le _) h2
          split at h
          · split at h
            case h_2=>cases h
            rename_i m
            split at h
            · rename_i h0
              injection h with h;subst h
              subst h0
              have hc:=conc_slice0 hc;subst hc
              refine ⟨.slice none hh m,rfl,fun w=>?_⟩
              have hb:=bounds2_run (P:=P) (isS:=true) (len:=len) (cap:=m) (most:=m) (Nat.le_refl _) h1 h2 (fun _=>Nat.le_refl _) e2 e1 w
              simp [Instr.sliceAt,run_underlying hu,Instr.slice,hb,hs]
            · cases h
          · rename_i i o
            obtain ⟨L,hL,hcap,rfl⟩:=conc_slice hc
            have hmost:=capM_le hcap
            have hhle:hh≤capM cp len:=bound1_le (by cases cp<;>first|exact hcap|exact Nat.le_refl _) h1
            have hb:=fun w=>bounds2_run (P:=P) (isS:=true) (len:=len) (cap:=capV L cp) (most:=capM cp len) hmost h1 h2 (fun _=>Nat.le_refl _) e2 e1 w
            split at h
            · rename_i h0
              injection h with h;subst h
              subst h0
              refine ⟨_,conc_slice_mk hL (Nat.le_trans hhle hmost),fun w=>?_⟩
              simp [Instr.sliceAt,run_underlying hu,Instr.slice,hb w,hs,ptrV_add0]
            · rename_i h0
              split at h
              · rename_i hlt
                injection h with h;subst h
                have hlt:l<capM cp len:=hlt
                have hne:¬capV L cp=l:=by omega
                refine ⟨_,conc_slice_mk hL (by rw [cutCap_eq];omega),fun w=>?_⟩
                simp [Instr.sliceAt,run_underlying hu,Instr.slice,hb w,hs,hne,ptrV_add,cutCap_eq]
              · split at h
                · rename_i k hnl
                  split at h
                  · rename_i hk
                    injection h with h;subst h
                    subst hk
                    have hhle:hh≤k:=hhle
                    have:hh-k=0:=by omega
                    refine ⟨_,conc_slice_mk hL (by rw [this];exact Nat.zero_le _),fun w=>?_⟩
                    have hcv:capV L (.ex k)=k:=rfl
                    have hcv0:capV L (.ex 0)=0:=rfl
                    have hb':=hb w
                    rw [hcv] at hb'
                    simp [Instr.sliceAt,run_underlying hu,Instr.slice,hb',hs,hcv,hcv0]
                  · cases h
                · cases h
        · cases h
      · cases h
    · cases h
  · rename_i e a len cp lo hi mx hu
    refine ⟨_,_,_,_,rfl,rfl,rfl,rfl,fun μ c clo chi cmx hc e1 e2 e3=>?_⟩
    obtain ⟨cm,rfl,e3⟩:=e3
    obtain ⟨ch,rfl,e2⟩:=e2
    split at h
    · rename_i n hn
      have hs:=fun w=>tsize_run (P:=P) hn w
      split at h
      · rename_i m h0
        split at h
        · rename_i hh h1
          split at h
          · rename_i l h2
            have hle:l≤hh:=bound1_le (Nat.zero_le _) h2
            have hle2:hh≤m:=bound1_le (Nat.zero_le _) h1
            split at h
            · split at h
              case h_2=>cases h
              rename_i k
              split at h
              · rename_i h0'
                injection h with h;subst h
                subst h0'
                have hc:=conc_slice0 hc;subst hc
                have hb:=fun w=>bounds3_run (P:=P) (len:=len) (cap:=k) (most:=k) (Nat.le_refl _) h0 h1 h2 e3 e2 e1 w
                refine ⟨_,rfl,fun w=>?_⟩
                simp [Instr.sliceAt,run_underlying hu,Instr.slice,hb w,hs]
              · cases h
            · rename_i i o
              obtain ⟨L,hL,hcap,rfl⟩:=conc_slice hc
              have hmost:=capM_le hcap
              have hb:=fun w=>bounds3_run (P:=P) (len:=len) (cap:=capV L cp) (most:=capM cp len) hmost h0 h1 h2 e3 e2 e1 w
              split at h
              · rename_i h0'
                injection h with h;subst h
                subst h0'
                refine ⟨_,conc_slice_mk hL (show hh≤m from hle2),fun w=>?_⟩
                have hcv:capV L (.ex m)=m:=rfl
                simp [Instr.sliceAt,run_underlying hu,Instr.slice,hb w,hs,ptrV_add0,hcv]
              · split at h
                · rename_i hml
                  injection h with h;subst h
                  subst hml
                  have:hh-m=0:=by omega
                  refine ⟨_,conc_slice_mk hL (by rw [this];exact Nat.zero_le _),fun w=>?_⟩
                  have hcv0:capV L (.ex 0)=0:=rfl
                  simp [Instr.sliceAt,run_underlying hu,Instr.slice,hb w,hs,hcv0]
                · rename_i hml
                  injection h with h;subst h
                  refine ⟨_,conc_slice_mk hL (show hh-l≤m-l by omega),fun w=>?_⟩
                  have hcv:capV L (.ex (m-l))=m-l:=rfl
                  simp [Instr.sliceAt,run_underlying hu,Instr.slice,hb w,hs,hml,ptrV_add,hcv]
          · cases h
        · cases h
      · cases h
    · cases h
  · rename_i len e i o lo hi hu
    refine ⟨_,_,_,_,rfl,rfl,rfl,rfl,fun μ c clo chi cmx hc e1 e2 e3=>?_⟩
    have e3:cmx=none:=e3
    subst e3
    obtain ⟨L,hL,rfl⟩:=conc_ptr hc
    split at h
    · rename_i n hn
      have hs:=fun w=>tsize_run (P:=P) hn w
      split at h
      · rename_i hh h1
        split at h
        · rename_i l h2
          have hle:l≤hh:=bound1_le (Nat.zero_le _) h2
          have hle2:hh≤len:=bound1_le (Nat.le_refl _) h1
          have hb:=fun w=>bounds2_run (P:=P) (isS:=false) (len:=len) (cap:=len) (most:=len) (Nat.le_refl _) h1 h2 (fun _=>Nat.le_refl _) e2 e1 w
          split at h
          · rename_i h0
            injection h with h;subst h
            subst h0
            refine ⟨_,conc_slice_mk hL (show hh≤len from hle2),fun w=>?_⟩
            have hcv:capV L (.ex len)=len:=rfl
            simp [Instr.sliceAt,run_underlying hu,Instr.sureAddr,hb w,hs,ptrV_add0,hcv]
          · split at h
            · rename_i hml
              injection h with h;subst h
              subst hml
              have:hh-len=0:=by omega
              refine ⟨_,conc_slice_mk hL (by rw [this];exact Nat.zero_le _),fun w=>?_⟩
              have hcv0:capV L (.ex 0)=0:=rfl
              simp [Instr.sliceAt,run_underlying hu,Instr.sureAddr,hb w,hs,hcv0]
            · rename_i hml
              injection h with h;subst h
              refine ⟨_,conc_slice_mk hL (show hh-l≤len-l by omega),fun w=>?_⟩
              have hcv:capV L (.ex (len-l))=len-l:=rfl
              simp [Instr.sliceAt,run_underlying hu,Instr.sureAddr,hb w,hs,hml,ptrV_add,hcv]
        · cases h
      · cases h
    · cases h
  · cases h
theorem foldl_set:∀(vals:List Value) (k off:Nat) (cs:Array Value),off+k+vals.length≤cs.size →
    (vals.zipIdx k).foldl (fun cs (p:Value×Nat)=>cs.setIfInBounds (off+p.2) p.1) cs=(cs.toList.take (off+k)++vals++cs.toList.drop (off+k+vals.length)).toArray
  | [],k,off,cs,_=>by simp
  | v::vs,k,off,cs,h=>by
    simp only [List.zipIdx_cons,List.foldl_cons]
    simp only [List.length_cons] at h
    rw [foldl_set vs (k+1) off _ (by rw [Array.size_setIfInBounds];omega)]
    have hlt:off+k<cs.toList.length:=by rw [Array.length_toList];omega
    congr 1
    simp only [Array.toList_setIfInBounds,List.length_cons]
    have e1:(cs.toList.set (off+k) v).take (off+(k+1))=cs.toList.take (off+k)++[v]:=by
      rw [←Nat.add_assoc,List.take_succ_eq_append_getElem (by simpa using hlt),List.take_set_of_le (Nat.le_refl _)]
      simp
    have e2:(cs.toList.set (off+k) v).drop (off+(k+1)+vs.length)=cs.toList.drop (off+k+(vs.length+1)):=by
      rw [List.drop_set_of_lt (by omega)]
      congr 1;omega
    rw [e1,e2]
    simp
def PartsR (μ:K→Option Loc):List (Nat×AV)→List (Nat×Value)→Prop
  | [],[]=>True
  | (i,v)::ps,(j,c)::qs=>i=j∧conc μ v=some c∧PartsR μ ps qs
  | _,_=>False
theorem fillA_fill {place:Nat→Option (Nat×Nat)}:∀(ps:List (Nat×AV)) (cs rs:List AV) (vs:List Value) (qs:List (Nat×Value)),fillA place cs ps=some rs→concL μ cs=some vs→PartsR μ ps qs →
    ∃us:List Value,concL μ rs=some us∧Instr.fill place vs.toArray qs=some us.toArray
  | [],cs,rs,vs,[],h,hc,_=>by
    injection (show some cs=some rs from h) with h;subst h
    exact ⟨vs,hc,rfl⟩
  | [],_,_,_,_::_,_,_,hq=>hq.elim
  | _::_,_,_,_,[],_,_,hq=>hq.elim
  | (i,v)::ps,cs,rs,vs,(j,c)::qs,h,hc,hq=>by
    obtain ⟨rfl,hv,hq⟩:=hq
    simp only [fillA] at h
    split at h
    · rename_i o n hp
      split at h
      · rename_i cs' hn hs
        have hn:lenL v.parts=n:=Nat.beq_eq.mp hn
        obtain ⟨s1,s2⟩:=setLs_eq _ _ _ _ hs
        have hpc:=parts_conc hv
        have hpl:=concL_length _ _ hpc
        have hcl:=concL_length _ _ hc
        have hsz:c.cells.size=n:=by rw [←hn,lenL_eq,←hpl,Array.length_toList]
        have hle:o+c.cells.toList.length≤vs.length:=by rw [hpl,hcl];exact s2
        have hc':concL μ cs'=some (vs.take o++c.cells.toList++vs.drop (o+c.cells.toList.length)):=by
          rw [s1,hpl]
          exact concL_append _ _ _ _ (concL_append _ _ _ _ (concL_take _ _ _ hc) hpc) (concL_drop _ _ _ hc)
        obtain ⟨us,hu1,hu2⟩:=fillA_fill ps cs' rs _ qs h hc' hq
        refine ⟨us,hu1,?_⟩
        simp only [Instr.fill,hp]
        have hcond:(decide (c.cells.size≠n)||decide (o+c.cells.size>vs.toArray.size))=false:=by
          rw [Array.length_toList] at hle
          simp [hsz]
          rw [←hsz]
          simpa using hle
        rw [if_neg (by rw [hcond];simp)]
        rw [←Array.foldl_toList,Array.toList_zipIdx]
        have:=foldl_set c.cells.toList 0 o vs.toArray (by simpa using hle)
        simp only [Nat.add_zero] at this
        rw [this]
        exact hu2
      · cases h
    · cases h
theorem zeroA_conc {t:TypeId} {z:AV} (h:zeroA P t=some z):∃i c,P.info? t=some i∧i.zero=some c∧∀μ,conc μ z=some c:=by
  unfold zeroA at h
  split at h
  · rename_i i hi
    split at h
    · rename_i c hc
      exact ⟨i,c,hi,hc,fun μ=>conc_ofV μ c z h⟩
    · cases h
  · cases h
theorem opBuild_run {t:TypeId} {parts:Option (List (Nat×AV))} {v:AV} (h:opBuild P t parts=some v):∃ps,parts=some ps∧∀μ (qs:Array (Nat×Value)),PartsR μ ps qs.toList→∃d,conc μ v=some d∧∀w,(Instr.build t qs).run P w=.ok d w:=by
  unfold opBuild at h
  split at h
  · rename_i ps z fs hz hu
    refine ⟨ps,rfl,fun μ qs hq=>?_⟩
    obtain ⟨it,zc,hi,hzc,hconc⟩:=zeroA_conc hz
    split at h
    · rename_i pl hpl
      split at h
      · rename_i cs hf
        injection h with h;subst h
        have hf':fillA (pl.toArray[·]?) z.parts ps=some cs:=by
          have:getL pl=(pl.toArray[·]?):=by funext n;rw [getL_eq];simp
          rw [←this];exact hf
        obtain ⟨us,h1,h2⟩:=fillA_fill ps z.parts cs _ qs.toList hf' (parts_conc (hconc μ)) hq
        refine ⟨_,conc_agg_mk h1,fun w=>run_build w t qs us.toArray ?_⟩
        have hpl:fs.toList.mapM (fun f=>(P.info? f.type).map fun i=>(f.offset,i.size))=some pl:=hpl
        simp only [Program.built,hi,hu,hzc,hpl]
        simpa using h2
      · cases h
    · cases h
  · rename_i ps z n e hz hu
    refine ⟨ps,rfl,fun μ qs hq=>?_⟩
    obtain ⟨it,zc,hi,hzc,hconc⟩:=zeroA_conc hz
    split at h
    · rename_i k hk
      split at h
      · rename_i cs hf
        injection h with h;subst h
        obtain ⟨us,h1,h2⟩:=fillA_fill ps z.parts cs _ qs.toList hf (parts_conc (hconc μ)) hq
        refine ⟨_,conc_agg_mk h1,fun w=>run_build w t qs us.toArray ?_⟩
        unfold tsize at hk
        split at hk
        · rename_i ie hie
          injection hk with hk;subst hk
          simp only [Program.built,hi,hu,hzc,hie]
          simpa using h2
        · cases hk
      · cases h
    · cases h
  · cases h
end Go.Proofs.YtoegffiapnnkiaaGreat.Abs
namespace Go.Proofs.YtoegffiapnnkiaaGreat.Abs
open Go
variable {P:Program} {B:Nat} {μ:K→Option Loc} {H:Hp} {w w1:World} {nx:K}
def upd (μ:K→Option Loc) (k:K) (l:Loc):K→Option Loc:=fun i=>if i=k then some l else μ i
def updH (H:Hp) (k:K) (b:Bk):Hp:=fun i=>if i=k then some b else H i
theorem get_set' (h:T Bk) (k:K) (b:Bk):T.get (T.set h k b)=updH (T.get h) k b:=funext fun i=>T.get_set h k b i
theorem upd_same (μ:K→Option Loc) (k:K) (l:Loc):upd μ k l k=some l:=if_pos rfl
theorem MLe.upd (h:μ nx=none) (l:Loc):MLe μ (upd μ nx l):=fun i m e=>by
  unfold Abs.upd
  split
  · rename_i e';rw [e',h] at e;cases e
  · exact e
theorem Rel.lt (hR:Rel B μ H w) {i:K} {b:Bk} {l:Loc} (hb:H i=some b) (hl:μ i=some l):l.blk<w.heap.size:=by
  obtain ⟨l',hl',hbr⟩:=hR.at_ i b hb
  rw [hl] at hl';injection hl' with hl';subst hl'
  cases b with
  | cells cs e z f=>obtain ⟨-,arr,vs,spare,⟨fr,h1,-⟩,-⟩:=hbr;exact (Array.getElem?_eq_some_iff.1 h1).1
  | view cs =>
    rcases hR.view i cs l hb hl with h|h
    · exact Nat.lt_of_lt_of_le h hR.size
    · exact h.1
  | mp es c=>obtain ⟨arr,h1,-⟩:=hbr;exact (Array.getElem?_eq_some_iff.1 h1).1
  | kept cs e z n=>obtain ⟨-,-,arr,vs,spare,⟨fr,h1,-⟩,-⟩:=hbr;exact (Array.getElem?_eq_some_iff.1 h1).1
theorem push_old {o:Obj} (hh:w1.heap=w.heap.push o) {k:Nat} (hk:k<w.heap.size):w1.heap[k]?=w.heap[k]?:=by
  rw [hh,Array.getElem?_push,if_neg (by omega)]
theorem push_new {o:Obj} (hh:w1.heap=w.heap.push o):w1.heap[w.heap.size]?=some o:=by
  rw [hh,Array.getElem?_push,if_pos rfl]
theorem keep_new {b:Bk} {l:Loc} {k n:Nat} (hl:l.blk=w.heap.size) (hk:k<w.heap.size) (h:KeepAt μ H k n):KeepAt (upd μ nx l) (updH H nx b) k n:=fun i c m hc ho hm he=>by
  unfold updH at hc;unfold upd at hm
  split at hc
  · rename_i e;rw [if_pos e] at hm;injection hm with hm;subst hm;omega
  · rename_i e;rw [if_neg e] at hm;exact h i c m hc ho hm he
theorem Step.new_ (hR:Rel B μ H w) (hμ:μ nx=none) {b:Bk} (hb:OwnB b) {l:Loc} (hl:l.blk=w.heap.size) {o:Obj} (hh:w1.heap=w.heap.push o) (h1:w1.os=w.os) (h2:w1.tape=w.tape) (h3:w1.output=w.output)
    (hbr:BR (upd μ nx l) b l w1):Step B μ H nx w (upd μ nx l) (updH H nx b) (K.succ nx) w1 where
  ext:=MLe.upd hμ l
  new i m e:=by
    unfold upd at e
    split at e
    · rename_i e';subst e'
      exact .inr ⟨Nat.le_refl _,by rw [K.val_succ];omega⟩
    · exact .inl e
  rel:=by
    have hsz:w1.heap.size=w.heap.size+1:=by rw [hh,Array.size_push]
    refine ⟨fun i c hc=>?_,fun i c m hc ho hm=>?_,fun i cs m hc hm=>?_,fun i j c d m n hc hd oc od hm hn e=>?_,?_⟩
    · unfold updH at hc
      split at hc
      · rename_i e;subst e
        injection hc with hc;subst hc
        exact ⟨l,upd_same μ i l,hbr⟩
      · obtain ⟨m,hm,hbr'⟩:=hR.at_ i c hc
        exact ⟨m,MLe.upd hμ l i m hm,(hbr'.mono (MLe.upd hμ l)).same (push_old hh (hR.lt hc hm))⟩
    · unfold updH at hc;unfold upd at hm
      split at hc
      · rename_i e;rw [if_pos e] at hm;injection hm with hm;subst hm;rw [hl];exact hR.size
      · rename_i e;rw [if_neg e] at hm;exact hR.own i c m hc ho hm
    · unfold updH at hc;unfold upd at hm
      split at hc
      · injection hc with hc;subst hc;exact hb.elim
      · rename_i e;rw [if_neg e] at hm
        rcases hR.view i cs m hc hm with h|⟨h,h0,h2⟩
        · exact .inl h
        · exact .inr ⟨by omega,h0,keep_new hl h h2⟩
    · unfold updH at hc hd;unfold upd at hm hn
      split at hc
      · rename_i ei
        rw [if_pos ei] at hm;injection hm with hm;subst hm
        split at hd
        · rename_i ej;rw [ei,ej]
        · rename_i ej;rw [if_neg ej] at hn
          have:=hR.lt hd hn
          omega
      · rename_i ei
        rw [if_neg ei] at hm
        split at hd
        · rename_i ej
          rw [if_pos ej] at hn;injection hn with hn;subst hn
          have:=hR.lt hc hm
          omega
        · rename_i ej;rw [if_neg ej] at hn
          exact hR.inj i j c d m n hc hd oc od hm hn e
    · rw [hsz];exact Nat.le_succ_of_le hR.size
  owned k:=by
    rintro ⟨i,c,m,hc,ho,hm,rfl⟩
    unfold updH at hc;unfold upd at hm
    split at hc
    · rename_i e;rw [if_pos e] at hm;injection hm with hm;subst hm;exact .inr (by omega)
    · rename_i e;rw [if_neg e] at hm;exact .inl ⟨i,c,m,hc,ho,hm,rfl⟩
  frame k hk _:=push_old hh hk
  size:=by rw [hh,Array.size_push];omega
  os:=h1
  tape:=h2
  output:=h3
  nxle:=by rw [K.val_succ];omega
  keep k n hk h:=⟨keep_new hl hk h,SameTo.row (push_old hh hk) n⟩
  views i cs m hc hm:=by
    unfold updH at hc;unfold upd at hm
    split at hc
    · injection hc with hc;subst hc;exact hb.elim
    · rename_i e;rw [if_neg e] at hm
      exact .inl ⟨cs,hc,hm,Nat.le_refl _⟩
theorem keep_set {i:K} {b b':Bk} {l:Loc} {k n:Nat} (hi:H i=some b) (hb:OwnB b) (hk:∀cs e z n,b≠.kept cs e z n) (hl:μ i=some l) (h:KeepAt μ H k n):KeepAt μ (updH H i b') k n:=fun j c m hc ho hm he=>by
  unfold updH at hc
  split at hc
  · rename_i e;subst e
    rw [hl] at hm;injection hm with hm;subst hm
    obtain ⟨cs',e,z,n,h,-⟩:=h j b l hi hb hl he
    exact absurd h (hk _ _ _ _)
  · exact h j c m hc ho hm he
theorem Step.set_ (hR:Rel B μ H w) {i:K} {b b':Bk} {l:Loc} (hi:H i=some b) (hb:OwnB b) (hk:∀cs e z n,b≠.kept cs e z n) (hb':OwnB b') (hl:μ i=some l) (hsz:w1.heap.size=w.heap.size) (hh:∀k,k≠l.blk→w1.heap[k]?=w.heap[k]?) (h1:w1.os=w.os) (h2:w1.tape=w.tape) (h3:w1.output=w.output)
    (hbr:BR μ b' l w1):Step B μ H nx w μ (updH H i b') nx w1 where
  ext:=MLe.refl μ
  new _ _ e:=.inl e
  rel:=by
    refine ⟨fun j c hc=>?_,fun j c m hc ho hm=>?_,fun j cs m hc hm=>?_,fun j j' c d m n hc hd oc od hm hn e=>?_,by rw [hsz];exact hR.size⟩
    · unfold updH at hc
      split at hc
      · rename_i e;subst e
        injection hc with hc;subst hc
        exact ⟨l,hl,hbr⟩
      · rename_i e
        obtain ⟨m,hm,hbr'⟩:=hR.at_ j c hc
        refine ⟨m,hm,hbr'.same (hh _ fun e'=>?_)⟩
        by_cases oc:OwnB c
        · exact e (hR.inj j i c b m l hc hi oc hb hm hl e')
        · cases c with
          | view cs =>
            have:=hR.own i b l hi hb hl
            rcases hR.view j cs m hc hm with h|⟨-,-,h⟩
            · omega
            · obtain ⟨cs',e,z,n,h,-⟩:=h i b l hi hb hl e'.symm
              exact hk _ _ _ _ h
          | cells _ _ _ _=>exact oc trivial
          | mp _ _=>exact oc trivial
          | kept _ _ _ _=>exact oc trivial
    · unfold updH at hc
      split at hc
      · rename_i e;subst e;rw [hl] at hm;injection hm with hm;subst hm;exact hR.own j b l hi hb hl
      · exact hR.own j c m hc ho hm
    · unfold updH at hc
      split at hc
      · injection hc with hc;subst hc;exact hb'.elim
      · rcases hR.view j cs m hc hm with h|⟨h,h0,h2⟩
        · exact .inl h
        · exact .inr ⟨by omega,h0,keep_set hi hb hk hl h2⟩
    · have q:∀j c m,updH H i b' j=some c→OwnB c→μ j=some m→∃c',H j=some c'∧OwnB c':=by
        intro j c m hc oc hm
        unfold updH at hc
        split at hc
        · rename_i e;subst e;exact ⟨b,hi,hb⟩
        · exact ⟨c,hc,oc⟩
      obtain ⟨c',hc',oc'⟩:=q j c m hc oc hm
      obtain ⟨d',hd',od'⟩:=q j' d n hd od hn
      exact hR.inj j j' c' d' m n hc' hd' oc' od' hm hn e
  owned k:=by
    rintro ⟨j,c,m,hc,ho,hm,rfl⟩
    unfold updH at hc
    split at hc
    · rename_i e;subst e;exact .inl ⟨j,b,m,hi,hb,hm,rfl⟩
    · exact .inl ⟨j,c,m,hc,ho,hm,rfl⟩
  frame k _ hn:=hh k fun e=>hn ⟨i,b,l,hi,hb,hl,e.symm⟩
  size:=Nat.le_of_eq hsz.symm
  os:=h1
  tape:=h2
  output:=h3
  nxle:=Nat.le_refl _
  keep k n hk' h:=⟨keep_set hi hb hk hl h,SameTo.row (hh k fun e=>by
    obtain ⟨cs',e',z,n',h',-⟩:=h i b l hi hb hl e.symm
    exact hk _ _ _ _ h') n⟩
  views j cs m hc hm:=by
    unfold updH at hc
    split at hc
    · injection hc with hc;subst hc;exact hb'.elim
    · exact .inl ⟨cs,hc,hm,Nat.le_refl _⟩
def Goes (P:Program) (B:Nat) (μ:K→Option Loc) (s:St) (w:World) (m:Sem Value) (v:AV) (s':St):Prop :=
  ∃μ' c w',m.run P w=.ok c w'∧conc μ' v=some c∧Step B μ (T.get s.hp) s.nx w μ' (T.get s'.hp) s'.nx w'
theorem newRow_goes {s:St} (hR:Rel B μ (T.get s.hp) w) (hf:μ s.nx=none) {l:List AV} {vs:List Value} (hl:concL μ l=some vs) (e z cap:Nat) (f:Bool) (hz:vs.length=cap * z) :
    ∃μ' w',(newRow e vs.toArray).run P w=.ok ⟨w.heap.size,0,none⟩ w'∧μ' s.nx=some ⟨w.heap.size,0,cap⟩∧Step B μ (T.get s.hp) s.nx w μ' (T.get (newB s (.cells l e z f)).hp) (newB s (.cells l e z f)).nx w':=by
  refine ⟨upd μ s.nx ⟨w.heap.size,0,cap⟩,{ w with heap:=w.heap.push (.cells vs.toArray e) },by simp [newRow],upd_same _ _ _,?_⟩
  rw [show (newB s (.cells l e z f)).hp=T.set s.hp s.nx (.cells l e z f) from rfl,get_set']
  refine Step.new_ hR hf (b:=.cells l e z f) trivial rfl (o:=.cells vs.toArray e) rfl rfl rfl rfl ⟨rfl,vs.toArray,vs,[],⟨_,push_new rfl,FrOk.zero _⟩,concL_mono (MLe.upd hf _) _ _ hl,by simp,fun _=>rfl,by simpa using hz⟩
theorem ptr_new {μ':K→Option Loc} {i:K} {k c:Nat} (h:μ' i=some ⟨k,0,c⟩):conc μ' (.ptr (some (i,0)))=some (.pointer (some ⟨k,0,none⟩)):=by
  show (μ' i).map (fun l=>Value.pointer (some (ptrV l 0)))=_
  rw [h];rfl
theorem opAlloc_goes {s s':St} (hR:Rel B μ (T.get s.hp) w) (hf:K.succ s.nx=s'.nx→μ s.nx=none) {t:TypeId} {v:AV} (h:opAlloc P t s=some (v,s')):Goes P B μ s w (Instr.alloc t true (.tuple #[])) v s':=by
  unfold opAlloc at h
  split at h
  · rename_i z hz
    injection h with h;injection h with h1 h2;subst h1;subst h2
    obtain ⟨i,c,hi,hc,hconc⟩:=zeroA_conc hz
    have hp:=parts_conc (hconc μ)
    have hlen:=concL_length _ _ hp
    obtain ⟨μ',w',hrun,hμ',hst⟩:=newRow_goes (P:=P) hR (hf rfl) hp t (lenL z.parts) 1 true (by rw [lenL_eq,hlen];omega)
    refine ⟨μ',_,w',?_,ptr_new hμ',hst⟩
    have hrun:(newRow t c.cells).run P w=.ok ⟨w.heap.size,0,none⟩ w':=by simpa using hrun
    simp [Instr.alloc,zeroValue,typeInfo,hi,hc,newVar,hrun]
  · cases h
theorem opBox_goes {s s':St} (hR:Rel B μ (T.get s.hp) w) (hf:K.succ s.nx=s'.nx→μ s.nx=none) {t:TypeId} {x:Option AV} {v:AV} (h:opBox t x s=some (v,s')):∃u,x=some u∧∀c,conc μ u=some c→Goes P B μ s w (Instr.box t c) v s':=by
  unfold opBox at h
  split at h
  · rename_i u
    injection h with h;injection h with h1 h2;subst h1;subst h2
    refine ⟨u,rfl,fun c hc=>?_⟩
    have hp:=parts_conc hc
    have hlen:=concL_length _ _ hp
    obtain ⟨μ',w',hrun,hμ',hst⟩:=newRow_goes (P:=P) hR (hf rfl) hp t (lenL u.parts) 1 true (by rw [lenL_eq,hlen];omega)
    refine ⟨μ',_,w',?_,ptr_new hμ',hst⟩
    have hrun:(newRow t c.cells).run P w=.ok ⟨w.heap.size,0,none⟩ w':=by simpa using hrun
    simp [Instr.box,newVar,hrun]
  · cases h
theorem repL_length {α:Type} (l:List α):∀n,(repL n l).length=n * l.length
  | 0=>by simp [repL]
  | n+1=>by simp [repL,repL_length l n,Nat.succ_mul,Nat.add_comm]
theorem repL_get {α:Type} (l:List α):∀(n j:Nat),j<n * l.length→(repL n l)[j]?=l[j%l.length]?
  | 0,j,h=>by simp at h
  | n+1,j,h=>by
    simp only [repL]
    by_cases hj:j<l.length
    · rw [List.getElem?_append_left hj,Nat.mod_eq_of_lt hj]
    · rw [List.getElem?_append_right (by omega),repL_get l n (j-l.length) (by rw [Nat.succ_mul] at h;omega)]
      congr 1
      rw [Nat.mod_eq_sub_mod (by omega:l.length≤j)]
theorem range_rep (z:Array Value) (n:Nat) (hz:0<z.size):((Array.range (n * z.size)).map (fun i=>z[i%z.size]!)).toList=repL n z.toList:=by
  apply List.ext_getElem?
  intro j
  by_cases hj:j<n * z.size
  · rw [repL_get _ _ _ (by simpa using hj)]
    have hm:=Nat.mod_lt j hz
    simp [hj,hm]
  · rw [List.getElem?_eq_none (by simp;omega),List.getElem?_eq_none (by rw [repL_length];simp;omega)]
theorem concL_rep {l:List AV} {vs:List Value} (h:concL μ l=some vs):∀n,concL μ (repL n l)=some (repL n vs)
  | 0=>rfl
  | n+1=>concL_append _ _ _ _ h (concL_rep h n)
theorem opBuildSlice_goes {s s':St} (hR:Rel B μ (T.get s.hp) w) (hf:K.succ s.nx=s'.nx→μ s.nx=none) {t:TypeId} {len:Nat} {parts:Option (List (Nat×AV))} {v:AV} (h:opBuildSlice P t len parts s=some (v,s')) :
    ∃ps,parts=some ps∧∀qs:Array (Nat×Value),PartsR μ ps qs.toList→Goes P B μ s w (Instr.buildSlice t len qs) v s':=by
  unfold opBuildSlice at h
  split at h
  · rename_i ps e hu
    refine ⟨ps,rfl,fun qs hq=>?_⟩
    split at h
    · rename_i n z hn hz
      split at h
      · rename_i hc
        split at h
        · rename_i cs hfill
          injection h with h;injection h with h1 h2;subst h1;subst h2
          obtain ⟨i,c,hi,hzc,hconc⟩:=zeroA_conc hz
          have hp:=parts_conc (hconc μ)
          have hpl:=concL_length _ _ hp
          have hzs:c.cells.size=n:=by rw [←Array.length_toList,hpl];exact hc.2.1
          obtain ⟨us,hu1,hu2⟩:=fillA_fill ps _ cs _ qs.toList hfill (concL_rep hp len) hq
          have hul:us.length=len * n:=by
            have e1:=concL_length _ _ hu1
            have:∀(ps:List (Nat×AV)) (a r:List AV),fillA (fun i=>some (i * n,n)) a ps=some r→r.length=a.length:=by
              intro ps
              induction ps with
              | nil=>intro a r h;injection (show some a=some r from h) with h;rw [h]
              | cons p ps ih =>
                intro a r h
                obtain ⟨i,v⟩:=p
                simp only [fillA] at h
                split at h
                · rename_i a' _ hs
                  rw [ih _ _ h]
                  obtain ⟨s1,s2⟩:=setLs_eq _ _ _ _ hs
                  rw [s1];simp;omega
                · cases h
            rw [e1,this _ _ _ hfill,repL_length,hc.2.1]
          obtain ⟨μ',w',hrun,hμ',hst⟩:=newRow_goes (P:=P) hR (hf rfl) hu1 e n len true hul
          refine ⟨μ',.slice (some ⟨w.heap.size,0,none⟩) len len,w',?_,?_,hst⟩
          · have hs:=tsize_run (P:=P) hn w
            have hle:¬len * n>2^24:=by have:=hc.1;omega
            have hzr:((Array.range (len * n)).map (fun i=>c.cells[i%c.cells.size]!))=(repL len c.cells.toList).toArray:=by
              have:=range_rep c.cells len (by rw [hzs];exact hc.2.2)
              rw [hzs] at this
              rw [hzs,←this]
            by_cases h0:len * n=0
            · have hlen0:len=0:=by
                rcases Nat.mul_eq_zero.1 h0 with h|h
                · exact h
                · have:=hc.2.2;omega
              subst hlen0
              have hul0:us=[]:=by simpa using hul
              subst hul0
              simp [repL] at hu2
              simp [Instr.buildSlice,run_underlying hu,hs,show Array.range 0=#[] from rfl,hu2,hrun]
            · simp [Instr.buildSlice,run_underlying hu,hs,h0,zeroValue,typeInfo,hi,hzc]
              rw [if_neg (by omega)]
              simp only [hzr,hu2]
              simp [hrun]
          · exact conc_slice_mk (l:=⟨w.heap.size,0,len⟩) hμ' (Nat.le_refl _)
        · cases h
      · cases h
    · cases h
  · cases h
theorem opMakeSlice_goes {s s':St} (hR:Rel B μ (T.get s.hp) w) (hf:K.succ s.nx=s'.nx→μ s.nx=none) {t:TypeId} {len cap:Option AV} {v:AV} (h:opMakeSlice P t len cap s=some (v,s')) :
    ∃u i,len=some u∧cap=some i∧∀c d,conc μ u=some c→conc μ i=some d→Goes P B μ s w (Instr.makeSlice t c d) v s':=by
  unfold opMakeSlice at h
  split at h
  · rename_i e kl l kc c hu
    refine ⟨_,_,rfl,rfl,fun x y hx hy=>?_⟩
    rw [conc_int hx,conc_int hy]
    split at h
    · rename_i inf z hinf hz
      split at h
      · rename_i hc
        injection h with h;injection h with h1 h2;subst h1;subst h2
        obtain ⟨c0,c1,c2,c3,c4,c5⟩:=hc
        obtain ⟨i,zc,hi,hzc,hconc⟩:=zeroA_conc hz
        rw [hinf] at hi;injection hi with hi;subst hi
        have hp:=parts_conc (hconc μ)
        have hpl:=concL_length _ _ hp
        have hzs:zc.cells.size=inf.size:=by rw [←Array.length_toList,hpl];exact c4
        obtain ⟨μ',w',hrun,hμ',hst⟩:=newRow_goes (P:=P) hR (hf rfl) (concL_rep hp c.toNat) e inf.size c.toNat true (by rw [repL_length,Array.length_toList,hzs])
        refine ⟨μ',.slice (some ⟨w.heap.size,0,none⟩) l.toNat c.toNat,w',?_,conc_slice_mk (l:=⟨w.heap.size,0,c.toNat⟩) hμ' (show l.toNat≤c.toNat by omega),hst⟩
        have wl:IntKind.i64.wrap l=l:=wrap_in .i64 l (by simp [isSig,lim];omega) (by simp [lim];omega)
        have wc:IntKind.i64.wrap c=c:=wrap_in .i64 c (by simp [isSig,lim];omega) (by simp [lim];omega)
        have g1:¬c<0:=by omega
        have g2:¬(inf.bytes:Int) * c>2^48:=by omega
        have g3:¬l<0:=by omega
        have g4:¬l>c:=by omega
        have hzr:((Array.range (c.toNat * inf.size)).map (fun i=>zc.cells[i%zc.cells.size]!))=(repL c.toNat zc.cells.toList).toArray:=by
          have:=range_rep zc.cells c.toNat (by rw [hzs];exact c5)
          rw [hzs] at this
          rw [hzs,←this]
        have hrun:(newRow e (repL c.toNat zc.cells.toList).toArray).run P w=.ok ⟨w.heap.size,0,none⟩ w':=hrun
        have hs:(sizeOf e).run P w=.ok inf.size w:=by simp [sizeOf,typeInfo,hinf]
        have hsz0:inf.size≠0:=by omega
        by_cases hn0:c.toNat=0
        · have hrun0:(newRow e #[]).run P w=.ok ⟨w.heap.size,0,none⟩ w':=by rw [hn0] at hrun;exact hrun
          have g5:(decide (c<0)||decide ((inf.bytes:Int) * c>2^48)||decide (l<0)||decide (l>c))=false:=by simp;omega
          simp only [Instr.makeSlice,Sem.run_bind,run_underlying hu,Result.andThen_ok,Go.asInt,Go.asIntOf,Sem.run_pure,typeInfo,run_program,hinf,wl,wc,g5,Bool.false_eq_true,if_false,run_askRoom,hs,hn0,Nat.zero_mul,if_true]
          simp [show Array.range 0=#[] from rfl,hrun0]
        · have g5:(decide (c<0)||decide ((inf.bytes:Int) * c>2^48)||decide (l<0)||decide (l>c))=false:=by simp;omega
          have hnz:¬c.toNat * inf.size=0:=by intro e;rcases Nat.mul_eq_zero.1 e with h|h<;>omega
          simp only [Instr.makeSlice,Sem.run_bind,run_underlying hu,Result.andThen_ok,Go.asInt,Go.asIntOf,Sem.run_pure,typeInfo,run_program,hinf,wl,wc,g5,Bool.false_eq_true,if_false,run_askRoom,hs,hnz,zeroValue,hzc,hzr]
          simp [hrun]
      · cases h
    · cases h
  · cases h
theorem opMkMap_goes {r:Option Operand} {s s':St} (hR:Rel B μ (T.get s.hp) w) (hf:K.succ s.nx=s'.nx→μ s.nx=none) {t:TypeId} {v:AV} (h:opMkMap r s=.ret v s'):r=none∧Goes P B μ s w (Instr.makeMap t none) v s':=by
  unfold opMkMap at h
  split at h
  · injection h with h1 h2;subst h1;subst h2
    refine ⟨rfl,upd μ s.nx ⟨w.heap.size,0,0⟩,.map (some w.heap.size),{ w with heap:=w.heap.push (.map #[] 0) },by simp [Instr.makeMap],?_,?_⟩
    · show (upd μ s.nx ⟨w.heap.size,0,0⟩ s.nx).map (fun l=>Value.map (some l.blk))=_
      rw [upd_same];rfl
    · rw [show (newB s (.mp [] 0)).hp=T.set s.hp s.nx (.mp [] 0) from rfl,get_set']
      exact Step.new_ hR (hf rfl) (b:=.mp [] 0) trivial rfl (o:=.map #[] 0) rfl rfl rfl rfl ⟨#[],push_new rfl,rfl⟩
  · cases h
theorem setCells_heap (b:Nat) {fr:Nat×Nat}:∀(vs:List Value) (o:Nat) (w:World) (arr:Array Value) (e:TypeId),w.heap[b]?=some (.cells arr e fr)→o+vs.length≤arr.size →
    (w.setCells b o vs).heap[b]?=some (.cells (arr.toList.take o++vs++arr.toList.drop (o+vs.length)).toArray e fr)
  | [],o,w,arr,e,h,_=>by simpa [World.setCells] using h
  | v::vs,o,w,arr,e,h,hl=>by
    simp only [List.length_cons] at hl
    have h1:(w.setCell ⟨b,o,none⟩ v).heap[b]?=some (.cells (arr.setIfInBounds o v) e fr):=by
      simp only [World.setCell,Array.getElem?_modify,if_true,h,Option.map_some,Option.isSome_none,Bool.false_eq_true,if_false]
    have:=setCells_heap b vs (o+1) (w.setCell ⟨b,o,none⟩ v) (arr.setIfInBounds o v) e h1 (by rw [Array.size_setIfInBounds];omega)
    simp only [World.setCells]
    rw [this]
    congr 2
    have hlt:o<arr.toList.length:=by rw [Array.length_toList];omega
    have e1:(arr.toList.set o v).take (o+1)=arr.toList.take o++[v]:=by
      rw [List.take_succ_eq_append_getElem (by simpa using hlt),List.take_set_of_le (Nat.le_refl _)]
      simp
    have e2:(arr.toList.set o v).drop (o+1+vs.length)=arr.toList.drop (o+(vs.length+1)):=by
      rw [List.drop_set_of_lt (by omega)]
      congr 1;omega
    simp only [Array.toList_setIfInBounds,List.length_cons,e1,e2]
    simp
theorem setCells_other (b:Nat):∀(vs:List Value) (o:Nat) (w:World) (k:Nat),k≠b→(w.setCells b o vs).heap[k]?=w.heap[k]?
  | [],_,_,_,_=>rfl
  | v::vs,o,w,k,h=>by
    simp only [World.setCells]
    rw [setCells_other b vs (o+1) _ k h]
    exact Go.RowKit.Below.heap_setCell w ⟨b,o,none⟩ v k h
theorem setCells_rest (b:Nat):∀(vs:List Value) (o:Nat) (w:World),(w.setCells b o vs).heap.size=w.heap.size∧(w.setCells b o vs).os=w.os∧(w.setCells b o vs).tape=w.tape∧(w.setCells b o vs).output=w.output
  | [],_,_=>⟨rfl,rfl,rfl,rfl⟩
  | v::vs,o,w=>by
    obtain ⟨h1,h2,h3,h4⟩:=setCells_rest b vs (o+1) (w.setCell ⟨b,o,none⟩ v)
    simp only [World.setCells]
    exact ⟨h1.trans (by simp [World.setCell]),h2,h3,h4⟩
theorem cells_set {s:St} (hR:Rel B μ (T.get s.hp) w) {i:K} {cs:List AV} {e z:Nat} {f:Bool} (hb:T.get s.hp i=some (.cells cs e z f)) {l:Loc} (hl:μ i=some l) {o:Nat} {ns cs':List AV} (hs:setLs cs o ns=some cs') {vs:List Value} (hv:concL μ ns=some vs)
    (h1:∀v∈vs,v.oneCell'=true):(storeCells (ptrV l o) vs).run P w=.ok () (w.setCells l.blk o vs)∧Step B μ (T.get s.hp) s.nx w μ (T.get (setB s i (.cells cs' e z f)).hp) (setB s i (.cells cs' e z f)).nx (w.setCells l.blk o vs):=by
  obtain ⟨l',hl',hbr⟩:=hR.at_ i _ hb
  rw [hl] at hl';injection hl' with hl';subst hl'
  obtain ⟨h0,arr,us,spare,⟨fr,g1,hfr⟩,g2,g3,g4,g5⟩:=hbr
  obtain ⟨q1,q2⟩:=setLs_eq _ _ _ _ hs
  have hvl:=concL_length _ _ hv
  have hul:=concL_length _ _ g2
  have hsz:arr.size=us.length+spare.length:=by rw [←Array.length_toList,g3,List.length_append]
  have hle:o+vs.length≤us.length:=by omega
  constructor
  · have e0:ptrV l o=⟨l.blk,o,none⟩:=by rw [ptrV_eq,h0,Nat.zero_add]
    rw [e0]
    have:=run_storeCells_cells (P:=P) l.blk o vs 0 w (fun j hj=>by
        rw [heap_cell (a:=⟨l.blk,o+0+j,none⟩) g1 rfl]
        rw [Array.getElem?_eq_getElem (by show o+0+j<arr.size;omega)];rfl) (fun j _=>hfr.frozen g1 (by omega)) h1
    simpa using this
  · obtain ⟨r1,r2,r3,r4⟩:=setCells_rest l.blk vs o w
    rw [show (setB s i (.cells cs' e z f)).hp=T.set s.hp i (.cells cs' e z f) from rfl,get_set']
    refine Step.set_ hR hb trivial (fun _ _ _ _ h=>by cases h) (b':=.cells cs' e z f) trivial hl r1 (fun k hk=>setCells_other _ _ _ _ _ hk) r2 r3 r4 ⟨h0,_,us.take o++vs++us.drop (o+vs.length),spare,⟨fr,setCells_heap l.blk vs o w arr e g1 (by omega),?_⟩,?_,?_,g4,?_⟩
    · have:(arr.toList.take o++vs++arr.toList.drop (o+vs.length)).toArray.size=arr.size:=by
        simp only [List.size_toArray,List.length_append,List.length_take,List.length_drop,Array.length_toList]
        omega
      rw [this];exact hfr
    · rw [q1,←hvl]
      exact concL_append _ _ _ _ (concL_append _ _ _ _ (concL_take _ _ _ g2) hv) (concL_drop _ _ _ g2)
    · simp only [g3]
      rw [List.take_append_of_le_length (by omega),List.drop_append_of_le_length (by omega)]
      simp
    · rw [←g5]
      simp only [List.size_toArray,List.length_append,List.length_take,List.length_drop,Array.length_toList]
      omega
theorem opStore_goes {s s':St} (hR:Rel B μ (T.get s.hp) w) {t:TypeId} {a x:Option AV} (h:opStore P t a x s=some s') :
    ∃p u,a=some p∧x=some u∧∀c d,conc μ p=some c→conc μ u=some d→∃w',(Instr.storeAt t c d).run P w=.ok () w'∧Step B μ (T.get s.hp) s.nx w μ (T.get s'.hp) s'.nx w':=by
  unfold opStore at h
  split at h
  · rename_i i o u
    refine ⟨_,_,rfl,rfl,fun c d hc hd=>?_⟩
    obtain ⟨l,hl,rfl⟩:=conc_ptr hc
    split at h
    · rename_i cs e z f hb
      split at h
      · rename_i n hn
        split at h
        · rename_i hlen hleaf
          split at h
          · rename_i cs' hs
            injection h with h;subst h
            have hp:=parts_conc hd
            have hpl:=concL_length _ _ hp
            obtain ⟨g1,g2⟩:=cells_set (P:=P) hR hb hl hs hp (allLeaf_conc _ _ hleaf hp)
            refine ⟨_,?_,g2⟩
            have hsz:d.cells.size=n:=by rw [←Array.length_toList,hpl,←lenL_eq];exact Nat.beq_eq.mp hlen
            have hrs:=tsize_run (P:=P) hn w
            simp [Instr.storeAt,Instr.sureAddr,storeVar,hrs,hsz,g1]
          · cases h
        · cases h
      · cases h
    · cases h
  · cases h
end Go.Proofs.YtoegffiapnnkiaaGreat.Abs
namespace Go.Proofs.YtoegffiapnnkiaaGreat.Abs
open Go
variable {P:Program} {B:Nat} {μ μ':K→Option Loc} {H H':Hp} {w w1:World} {nx nx':K}
theorem Rel.sub (hR:Rel B μ H w) (h:∀i b,H' i=some b→H i=some b):Rel B μ H' w :=
  ⟨fun i b e=>hR.at_ i b (h i b e),fun i b l e=>hR.own i b l (h i b e),fun i cs l e k=>(hR.view i cs l (h i _ e) k).imp id fun ⟨a,a0,a2⟩=>⟨a,a0,a2.sub h⟩,fun i j b c l m e e'=>hR.inj i j b c l m (h i b e) (h j c e'),hR.size⟩
theorem Step.sub {H'':Hp} (hs:Step B μ H nx w μ' H' nx' w1) (h:∀i b,H'' i=some b→H' i=some b):Step B μ H nx w μ' H'' nx' w1 where
  ext:=hs.ext
  new:=hs.new
  rel:=hs.rel.sub h
  owned k:=by
    rintro ⟨i,b,l,hb,ho,hl,e⟩
    exact hs.owned k ⟨i,b,l,h i b hb,ho,hl,e⟩
  frame:=hs.frame
  size:=hs.size
  os:=hs.os
  tape:=hs.tape
  output:=hs.output
  nxle:=hs.nxle
  keep k n hk hh:=⟨(hs.keep k n hk hh).1.sub h,(hs.keep k n hk hh).2⟩
  views i cs l h1 h2:=hs.views i cs l (h i _ h1) h2
def delH (H:Hp) (i:K):Hp:=fun j=>if j=i then none else H j
theorem keep_move {i:K} {b b':Bk} {l l':Loc} {k n:Nat} (hi:H i=some b) (hb:OwnB b) (hk:∀cs e z n,b≠.kept cs e z n) (hl:μ i=some l) (hl':l'.blk=l.blk) (h:KeepAt μ H k n):KeepAt (upd μ nx l') (updH (delH H i) nx b') k n:=fun j c m hc ho hm he=>by
  unfold updH at hc;unfold upd at hm
  split at hc
  · rename_i e;rw [if_pos e] at hm;injection hm with hm;subst hm
    obtain ⟨cs',e,z,n,h,-⟩:=h i b l hi hb hl (by rw [←hl'];exact he)
    exact absurd h (hk _ _ _ _)
  · rename_i e;rw [if_neg e] at hm
    unfold delH at hc
    split at hc
    · cases hc
    · exact h j c m hc ho hm he
theorem Step.move_ (hR:Rel B μ H w) (hμ:μ nx=none) {i:K} {b b':Bk} {l l':Loc} (hi:H i=some b) (hb:OwnB b) (hk:∀cs e z n,b≠.kept cs e z n) (hb':OwnB b') (hl:μ i=some l) (hl':l'.blk=l.blk) (hsz:w1.heap.size=w.heap.size) (hh:∀k,k≠l.blk→w1.heap[k]?=w.heap[k]?) (h1:w1.os=w.os) (h2:w1.tape=w.tape) (h3:w1.output=w.output)
    (hbr:BR (upd μ nx l') b' l' w1):Step B μ H nx w (upd μ nx l') (updH (delH H i) nx b') (K.succ nx) w1:=by
  have hix:i≠nx:=by intro e;rw [e,hμ] at hl;cases hl
  have q:∀j c m,updH (delH H i) nx b' j=some c→OwnB c→upd μ nx l' j=some m→(j=nx∧m=l'∧c=b')∨(j≠nx∧j≠i∧H j=some c∧μ j=some m):=by
    intro j c m hc _ hm
    unfold updH at hc;unfold upd at hm
    by_cases e:j=nx
    · rw [if_pos e] at hc hm
      injection hc with hc;injection hm with hm
      exact .inl ⟨e,hm.symm,hc.symm⟩
    · rw [if_neg e] at hc hm
      unfold delH at hc
      by_cases e':j=i
      · rw [if_pos e'] at hc;cases hc
      · rw [if_neg e'] at hc
        exact .inr ⟨e,e',hc,hm⟩
  refine ⟨MLe.upd hμ l',fun j m e=>?_,⟨fun j c hc=>?_,fun j c m hc ho hm=>?_,fun j cs m hc hm=>?_,fun j j' c d m n hc hd oc od hm hn e=>?_,by rw [hsz];exact hR.size⟩,fun k=>?_,fun k _ hn=>?_,Nat.le_of_eq hsz.symm,h1,h2,h3,by rw [K.val_succ];omega,fun k n _ h=>⟨keep_move hi hb hk hl hl' h,SameTo.row (hh k fun e=>by
    obtain ⟨cs',e',z,n',h',-⟩:=h i b l hi hb hl e.symm
    exact hk _ _ _ _ h') n⟩,fun j cs m hc hm=>?_⟩
  · unfold upd at e
    split at e
    · rename_i e';subst e'
      exact .inr ⟨Nat.le_refl _,by rw [K.val_succ];omega⟩
    · exact .inl e
  · unfold updH at hc
    split at hc
    · rename_i e;subst e
      injection hc with hc;subst hc
      exact ⟨l',upd_same μ j l',hbr⟩
    · unfold delH at hc
      split at hc
      · cases hc
      · rename_i e e'
        obtain ⟨m,hm,hbr'⟩:=hR.at_ j c hc
        refine ⟨m,MLe.upd hμ l' j m hm,(hbr'.mono (MLe.upd hμ l')).same (hh _ fun e''=>?_)⟩
        by_cases oc:OwnB c
        · exact e' (hR.inj j i c b m l hc hi oc hb hm hl e'')
        · cases c with
          | view cs =>
            have:=hR.own i b l hi hb hl
            rcases hR.view j cs m hc hm with h|⟨-,-,h⟩
            · omega
            · obtain ⟨cs',e,z,n,h,-⟩:=h i b l hi hb hl e''.symm
              exact hk _ _ _ _ h
          | cells _ _ _ _=>exact oc trivial
          | mp _ _=>exact oc trivial
          | kept _ _ _ _=>exact oc trivial
  · rcases q j c m hc ho hm with ⟨-,rfl,-⟩|⟨-,-,hc',hm'⟩
    · rw [hl'];exact hR.own i b l hi hb hl
    · exact hR.own j c m hc' ho hm'
  · unfold updH at hc;unfold upd at hm
    split at hc
    · injection hc with hc;subst hc;exact hb'.elim
    · rename_i e
      rw [if_neg e] at hm
      unfold delH at hc
      split at hc
      · cases hc
      · rcases hR.view j cs m hc hm with h|⟨h,h0,h2⟩
        · exact .inl h
        · exact .inr ⟨by omega,h0,keep_move hi hb hk hl hl' h2⟩
  · rcases q j c m hc oc hm with ⟨r1,rfl,-⟩|⟨-,r2,hc',hm'⟩
    · rcases q j' d n hd od hn with ⟨s1,rfl,-⟩|⟨-,s2,hd',hn'⟩
      · rw [r1,s1]
      · exact absurd (hR.inj j' i d b n l hd' hi od hb hn' hl (by rw [←e,hl'])) s2
    · rcases q j' d n hd od hn with ⟨s1,rfl,-⟩|⟨-,-,hd',hn'⟩
      · exact absurd (hR.inj j i c b m l hc' hi oc hb hm' hl (by rw [e,hl'])) r2
      · exact hR.inj j j' c d m n hc' hd' oc od hm' hn' e
  · rintro ⟨j,c,m,hc,ho,hm,rfl⟩
    rcases q j c m hc ho hm with ⟨-,rfl,-⟩|⟨-,-,hc',hm'⟩
    · exact .inl ⟨i,b,l,hi,hb,hl,hl'.symm⟩
    · exact .inl ⟨j,c,m,hc',ho,hm',rfl⟩
  · exact hh k fun e=>hn ⟨i,b,l,hi,hb,hl,e.symm⟩
  · unfold updH at hc;unfold upd at hm
    split at hc
    · injection hc with hc;subst hc;exact hb'.elim
    · rename_i e
      rw [if_neg e] at hm
      unfold delH at hc
      split at hc
      · cases hc
      · exact .inl ⟨cs,hc,hm,Nat.le_refl _⟩
theorem keep_keepA (hR:Rel B μ H w) {i:K} {b:Bk} {l l':Loc} (hi:H i=some b) (hb:OwnB b) (hl:μ i=some l) {n:Nat} (hn:∀cs e z n0,b=.kept cs e z n0→n0≤n)
    (hl':l'.blk=l.blk∨l'.blk=w.heap.size) {old cs:List AV} {e:TypeId} {z:Nat} {k q:Nat} (hk:k<w.heap.size) (h:KeepAt μ H k q):KeepAt (upd μ nx l') (updH (updH H i (.view old)) nx (.kept cs e z n)) k q:=fun j c m hc ho hm he=>by
  unfold updH at hc;unfold upd at hm
  split at hc
  · rename_i e;rw [if_pos e] at hm;injection hm with hm;subst hm
    injection hc with hc;subst hc
    rcases hl' with hl'|hl'
    · obtain ⟨cs',e',z',n',h',hq⟩:=h i b l hi hb hl (by rw [←hl'];exact he)
      exact ⟨_,_,_,_,rfl,Nat.le_trans hq (hn _ _ _ _ h')⟩
    · omega
  · rename_i e;rw [if_neg e] at hm
    split at hc
    · injection hc with hc;subst hc;exact ho.elim
    · exact h j c m hc ho hm he
theorem Step.keepA (hR:Rel B μ H w) (hμ:μ nx=none) {i:K} {b:Bk} {l l':Loc} (hi:H i=some b) (hb:OwnB b) (hl:μ i=some l) (h0:l.base=0) {n:Nat} (hn:∀cs e z n0,b=.kept cs e z n0→n0≤n)
    (hl':l'.blk=l.blk∨l'.blk=w.heap.size) (hsz:w.heap.size≤w1.heap.size) (hh:∀k,k<w.heap.size→k≠l.blk→w1.heap[k]?=w.heap[k]?) (hs:SameTo w w1 l.blk n) (h1:w1.os=w.os) (h2:w1.tape=w.tape) (h3:w1.output=w.output)
    {old cs:List AV} {e:TypeId} {z:Nat} (ho:old.length≤n) (hv:BR μ (.view old) l w1) (hbr:BR (upd μ nx l') (.kept cs e z n) l' w1) :
    Step B μ H nx w (upd μ nx l') (updH (updH H i (.view old)) nx (.kept cs e z n)) (K.succ nx) w1:=by
  have hix:i≠nx:=by intro e;rw [e,hμ] at hl;cases hl
  have hlt:=hR.lt hi hl
  have hown:=hR.own i b l hi hb hl
  have q:∀j c m,updH (updH H i (.view old)) nx (.kept cs e z n) j=some c→upd μ nx l' j=some m→(j=nx∧m=l'∧c=.kept cs e z n)∨(j≠nx∧j=i∧c=.view old∧m=l)∨(j≠nx∧j≠i∧H j=some c∧μ j=some m):=by
    intro j c m hc hm
    unfold updH at hc;unfold upd at hm
    by_cases e:j=nx
    · rw [if_pos e] at hc hm
      injection hc with hc;injection hm with hm
      exact .inl ⟨e,hm.symm,hc.symm⟩
    · rw [if_neg e] at hc hm
      by_cases e':j=i
      · rw [if_pos e'] at hc
        injection hc with hc
        subst e'
        rw [hl] at hm;injection hm with hm
        exact .inr (.inl ⟨e,rfl,hc.symm,hm.symm⟩)
      · rw [if_neg e'] at hc
        exact .inr (.inr ⟨e,e',hc,hm⟩)
  refine ⟨MLe.upd hμ l',fun j m e=>?_,⟨fun j c hc=>?_,fun j c m hc ho hm=>?_,fun j cs m hc hm=>?_,fun j j' c d m n hc hd oc od hm hn e=>?_,Nat.le_trans hR.size hsz⟩,fun k=>?_,fun k hk hn=>?_,hsz,h1,h2,h3,by rw [K.val_succ];omega,fun k q hk h=>⟨keep_keepA hR hi hb hl hn hl' hk h,?_⟩,fun j cs m hc hm=>?_⟩
  · unfold upd at e
    split at e
    · rename_i e';subst e'
      exact .inr ⟨Nat.le_refl _,by rw [K.val_succ];omega⟩
    · exact .inl e
  · by_cases ex:j=nx
    · subst ex
      have:c=.kept cs e z n:=by
        unfold updH at hc;rw [if_pos rfl] at hc;injection hc with hc;exact hc.symm
      subst this
      exact ⟨l',upd_same μ j l',hbr⟩
    · by_cases ei:j=i
      · subst ei
        have:c=.view old:=by
          unfold updH at hc;rw [if_neg ex,if_pos rfl] at hc;injection hc with hc;exact hc.symm
        subst this
        exact ⟨l,MLe.upd hμ l' _ _ hl,hv.mono (MLe.upd hμ l')⟩
      · have hc':H j=some c:=by
          unfold updH at hc;rw [if_neg ex,if_neg ei] at hc;exact hc
        obtain ⟨m,hm,hbr'⟩:=hR.at_ j c hc'
        refine ⟨m,MLe.upd hμ l' j m hm,BR.mono (MLe.upd hμ l') ?_⟩
        by_cases em:m.blk=l.blk
        · by_cases oc:OwnB c
          · exact absurd (hR.inj j i c b m l hc' hi oc hb hm hl em) ei
          · cases c with
            | view cs' =>
              rcases hR.view j cs' m hc' hm with h|⟨-,hb0,h⟩
              · omega
              · obtain ⟨cs2,e2,z2,n2,h2,hq⟩:=h i b l hi hb hl em.symm
                have hnn:=hn _ _ _ _ h2
                obtain ⟨vs,hvs,hcell⟩:=hbr'
                refine ⟨vs,hvs,fun jj v hj=>?_⟩
                have hlen:=concL_length _ _ hvs
                have hjl:=(List.getElem?_eq_some_iff.1 hj).1
                have:=hcell jj v hj
                rw [hb0,Nat.zero_add,em] at this ⊢
                exact (hs jj (by omega)).trans this
            | cells _ _ _ _=>exact absurd trivial oc
            | mp _ _=>exact absurd trivial oc
            | kept _ _ _ _=>exact absurd trivial oc
        · exact hbr'.same (hh _ (hR.lt hc' hm) em)
  · rcases q j c m hc hm with ⟨-,rfl,-⟩|⟨-,-,rfl,-⟩|⟨-,-,hc',hm'⟩
    · rcases hl' with e|e
      · rw [e];exact hown
      · rw [e];exact hR.size
    · exact ho.elim
    · exact hR.own j c m hc' ho hm'
  · rcases q j _ m hc hm with ⟨-,-,e⟩|⟨-,-,e,rfl⟩|⟨-,-,hc',hm'⟩
    · cases e
    · injection e with e;subst e
      refine .inr ⟨Nat.lt_of_lt_of_le hlt hsz,h0,fun j' c' m' hc' oc' hm' he'=>?_⟩
      rcases q j' c' m' hc' hm' with ⟨-,-,rfl⟩|⟨-,-,rfl,-⟩|⟨-,e2,hc2,hm2⟩
      · exact ⟨_,_,_,_,rfl,ho⟩
      · exact oc'.elim
      · exact absurd (hR.inj j' i c' b m' _ hc2 hi oc' hb hm2 hl he') e2
    · rcases hR.view j cs m hc' hm' with h|⟨h,hb0,h2⟩
      · exact .inl h
      · exact .inr ⟨Nat.lt_of_lt_of_le h hsz,hb0,keep_keepA hR hi hb hl hn hl' h h2⟩
  · rcases q j c m hc hm with ⟨r1,rfl,-⟩|⟨-,-,rfl,-⟩|⟨-,r2,hc',hm'⟩
    · rcases q j' d n hd hn with ⟨s1,rfl,-⟩|⟨-,-,rfl,-⟩|⟨-,s2,hd',hn'⟩
      · rw [r1,s1]
      · exact od.elim
      · rcases hl' with hl'|hl'
        · exact absurd (hR.inj j' i d b n l hd' hi od hb hn' hl (by rw [←e,hl'])) s2
        · have:=hR.lt hd' hn';omega
    · exact oc.elim
    · rcases q j' d n hd hn with ⟨s1,rfl,-⟩|⟨-,-,rfl,-⟩|⟨-,-,hd',hn'⟩
      · rcases hl' with hl'|hl'
        · exact absurd (hR.inj j i c b m l hc' hi oc hb hm' hl (by rw [e,hl'])) r2
        · have:=hR.lt hc' hm';omega
      · exact od.elim
      · exact hR.inj j j' c d m n hc' hd' oc od hm' hn' e
  · rintro ⟨j,c,m,hc,ho,hm,rfl⟩
    rcases q j c m hc hm with ⟨-,rfl,-⟩|⟨-,-,rfl,-⟩|⟨-,-,hc',hm'⟩
    · rcases hl' with e|e
      · exact .inl ⟨i,b,l,hi,hb,hl,e.symm⟩
      · exact .inr (by omega)
    · exact ho.elim
    · exact .inl ⟨j,c,m,hc',ho,hm',rfl⟩
  · exact hh k hk fun e=>hn ⟨i,b,l,hi,hb,hl,e.symm⟩
  · by_cases ek:k=l.blk
    · subst ek
      obtain ⟨cs2,e2,z2,n2,h2,hq⟩:=h i b l hi hb hl rfl
      have hnn:=hn _ _ _ _ h2
      exact fun j hj=>hs j (by omega)
    · exact SameTo.row (hh k hk ek) q
  · rcases q j _ m hc hm with ⟨-,-,e⟩|⟨-,-,-,rfl⟩|⟨-,-,hc',hm'⟩
    · cases e
    · exact .inr (.inl ⟨i,b,_,hi,hb,hl,rfl⟩)
    · exact .inl ⟨cs,hc',hm',Nat.le_refl _⟩
theorem firstCells_some {n m:Nat} {a:Addr} {k c:Nat} {vs:List Value} (hl:vs.length=m * n) (h:∀j v,vs[j]?=some v→w.cell? (a.add j)=some v):(Builtin.firstCells n m (.slice (some a) k c)).run P w=.ok vs.toArray w:=by
  have:=run_loadCells_list (P:=P) (w:=w) a vs h
  rw [hl] at this
  simpa [Builtin.firstCells] using this
theorem src_run {s:St} (hR:Rel B μ (T.get s.hp) w) {x:AV} {X:Value} (hx:conc μ x=some X) {n m:Nat} {news:List AV} (h:srcCells n m x s.hp=some news) :
    ∃vs,concL μ news=some vs∧vs.length=m * n∧∀w':World,w'.heap=w.heap→(Builtin.firstCells n m X).run P w'=.ok vs.toArray w':=by
  unfold srcCells at h
  split at h
  · rename_i k c
    split at h
    · rename_i hm
      injection h with h;subst h
      obtain ⟨A,q,rfl,-⟩:=conc_sliceN hx
      refine ⟨[],rfl,by simp [hm],fun w' _=>?_⟩
      cases A<;>simp [Builtin.firstCells,hm,loadCells,loadCellsFrom]
    · cases h
  · rename_i i o k c
    split at h
    · rename_i hm
      injection h with h;subst h
      obtain ⟨L,hL,-,rfl⟩:=conc_slice hx
      exact ⟨[],rfl,by simp [hm],fun w' _=>by simp [Builtin.firstCells,hm,loadCells,loadCellsFrom]⟩
    rename_i hm
    split at h
    · rename_i l hl
      obtain ⟨b,hb,hbl⟩:=optK_some hl
      obtain ⟨L,hL,-,rfl⟩:=conc_slice hx
      obtain ⟨L',vs,hL',hvs,hcell⟩:=hR.cells hb hbl
      rw [hL] at hL';injection hL' with hL';subst hL'
      obtain ⟨q1,q2,q3⟩:=subL_eq h
      have hlen:=concL_length _ _ hvs
      have hlen2:((vs.drop o).take (m * n)).length=m * n:=by simp;omega
      refine ⟨(vs.drop o).take (m * n),by rw [q1];exact concL_take _ _ _ (concL_drop _ _ _ hvs),hlen2,fun w' hw=>firstCells_some hlen2 fun j v hj=>?_⟩
      rw [ptrV_add,ptrV_eq]
      have:=hcell (o+j) v (take_drop_get hj)
      unfold World.cell? at this ⊢
      rw [hw]
      exact this
    · cases h
  · rename_i t
    split at h
    · rename_i hn
      split at h
      · rename_i r hr
        injection h with h;subst h;subst hn
        rw [conc_str hx]
        obtain ⟨q1,q2⟩:=takeL_eq _ _ _ hr
        refine ⟨r.map fun b=>.int .u8 (Int.ofNat (b%256)),?_,by rw [List.length_map,q1,List.length_take];omega,fun w' _=>?_⟩
        · clear q1 q2 hr
          induction r with
          | nil=>rfl
          | cons b r ih=>simp only [List.map_cons,concL,conc,Option.bind_some,ih,Option.map_some];rfl
        · have e:(bytesV t).extract 0 m=bytesV r:=by rw [bytesV_extract,q1];simp
          simp only [Builtin.firstCells,e]
          show Result.ok ((bytesV r).data.map fun b=>Value.int .u8 b.toNat) w'=_
          congr 1
          simp [bytesV]
      · cases h
    · cases h
  · cases h
theorem lenA_run {x:AV} {X:Value} (hx:conc μ x=some X) {m:Nat} (h:lenA x=some m) (w:World):(Builtin.lenOf X).run P w=.ok m w:=by
  unfold lenA at h
  split at h
  · rename_i a n c
    injection h with h;subst h
    cases a with
    | none=>obtain ⟨_,k,rfl,-⟩:=conc_sliceN hx;rfl
    | some p=>obtain ⟨l,-,-,rfl⟩:=conc_slice (i:=p.1) (o:=p.2) hx;rfl
  · injection h with h;subst h
    rw [conc_str hx]
    simp [Builtin.lenOf,bytesV_size]
  · cases h
theorem append_fit {t u e ty:TypeId} {inf:TypeInfo} (ht:P.underlying t=some (.slice e)) (hu:notInt (P.underlying u)=true) (hi:P.info? e=some inf) {base:Option Addr} {len cap m:Nat} {X:Value} (hm:(Builtin.lenOf X).run P w=.ok m w)
    {vs:List Value} (hv:(Builtin.firstCells inf.size m X).run P w=.ok vs.toArray w) (hfit:len+m≤cap) (hst:match base with|none=>w1=w|some a=>(storeCells (a.add (len * inf.size)) vs).run P w=.ok () w1) :
    (Builtin.append_ #[t,u] ty #[.slice base len cap,X]).run P w=.ok (.slice base (len+m) cap) w1:=by
  cases hd:P.underlying u with
  | none=>rw [hd] at hu;cases hu
  | some d =>
    rw [hd] at hu
    have hni:∀k,d≠.int k:=by intro k e;subst e;cases hu
    have hs:(sizeOf e).run P w=.ok inf.size w:=by simp [sizeOf,typeInfo,hi]
    cases base with
    | none =>
      have hst:w1=w:=hst
      subst hst
      simp [Builtin.append_,run_underlying ht,run_underlying hd,hs,hm,hfit,hv]
    | some a =>
      have hst:(storeCells (a.add (len * inf.size)) vs).run P w=.ok () w1:=hst
      simp [Builtin.append_,run_underlying ht,run_underlying hd,hs,hm,hfit,hv,hst]
theorem append_grow {t u e ty:TypeId} {inf:TypeInfo} {z:Value} (ht:P.underlying t=some (.slice e)) (hu:notInt (P.underlying u)=true) (hi:P.info? e=some inf) (hz:inf.zero=some z) {base:Option Addr} {len cap m:Nat} {X:Value} (hm:(Builtin.lenOf X).run P w=.ok m w)
    {vs os:List Value} (hv:∀w':World,w'.heap=w.heap→(Builtin.firstCells inf.size m X).run P w'=.ok vs.toArray w') (ho:∀w':World,w'.heap=w.heap→(Builtin.firstCells inf.size len (.slice base len cap)).run P w'=.ok os.toArray w') (hfit:cap<len+m) (h63:len+m≤9223372036854775807) (hby:0<inf.bytes) (hbytes:(len+m) * inf.bytes≤140737488355328) :
    (Builtin.append_ #[t,u] ty #[.slice base len cap,X]).run P w=.ok (.slice (some ⟨w.heap.size,0,none⟩) (len+m) (grownCap w (len+m) cap e))
      { w with drawn:=w.drawn+1,heap:=w.heap.push (.cells (os.toArray++vs.toArray++Builtin.zeroCells z.cells (grownCap w (len+m) cap e-(len+m))) e) }:=by
  cases hd:P.underlying u with
  | none=>rw [hd] at hu;cases hu
  | some d =>
    rw [hd] at hu
    have hni:∀k,d≠.int k:=by intro k e;subst e;cases hu
    have hs:∀w,(sizeOf e).run P w=.ok inf.size w:=fun w=>by simp [sizeOf,typeInfo,hi]
    have hti:∀w,(typeInfo e).run P w=.ok inf w:=fun w=>by simp [typeInfo,hi]
    have hzv:∀w,(zeroValue e).run P w=.ok z w:=fun w=>by simp [zeroValue,typeInfo,hi,hz]
    have hfit':¬len+m≤cap:=by omega
    have hmax:¬((len+m:Nat):Int)>IntKind.i64.max:=by
      show ¬((len+m:Nat):Int)>9223372036854775807
      omega
    have hgf:=growslice_fits hfit hbytes
    have hgf':¬Builtin.nextslicecap (len+m) cap * inf.bytes>2^48:=by omega
    have hb0:inf.bytes≠0:=by omega
    have hch:(choose (.appendCap (len+m) cap e)).run P w=.ok (grownCap w (len+m) cap e) { w with drawn:=w.drawn+1 }:=by
      simp [Question.forced,grownCap]
    have hv':=hv { w with drawn:=w.drawn+1 } rfl
    have ho':=ho { w with drawn:=w.drawn+1 } rfl
    simp only [Builtin.append_,Sem.run_bind,List.getElem?_toArray,List.getElem?_cons_zero,List.getElem?_cons_succ,run_underlying ht,run_underlying hd,Result.andThen_ok,hs,hm,Sem.run_pure,Bool.false_eq_true,if_false,hfit',hti,hgf',Sem.run_ite,hch,run_askRoom,ho',hv',hzv]
    simp [hb0,newRow]
    rw [show os.toArray++(vs.toArray++Builtin.zeroCells z.cells (grownCap w (len+m) cap e-(len+m)))=(os++vs).toArray++Builtin.zeroCells z.cells (grownCap w (len+m) cap e-(len+m)) from by rw [←List.append_toArray,Array.append_assoc]]
    rfl
theorem grow_step {s:St} (hR:Rel B μ (T.get s.hp) w) (hf:μ s.nx=none) {t u e ty:TypeId} {inf:TypeInfo} {z:Value} (ht:P.underlying t=some (.slice e)) (hu:notInt (P.underlying u)=true) (hi:P.info? e=some inf) (hz:inf.zero=some z) (hzs:z.cells.size=inf.size) {base:Option Addr} {len cap m:Nat} {X:Value} (hm:(Builtin.lenOf X).run P w=.ok m w)
    {old news:List AV} {vs os:List Value} (hcv:concL μ news=some vs) (hco:concL μ old=some os) (hvl:vs.length=m * inf.size) (hol:os.length=len * inf.size) (hv:∀w':World,w'.heap=w.heap→(Builtin.firstCells inf.size m X).run P w'=.ok vs.toArray w') (ho:∀w':World,w'.heap=w.heap→(Builtin.firstCells inf.size len (.slice base len cap)).run P w'=.ok os.toArray w') (hfit:cap<len+m) (h63:len+m≤9223372036854775807) (hby:0<inf.bytes) (hbytes:(len+m) * inf.bytes≤140737488355328) :
    Goes P B μ s w (Builtin.append_ #[t,u] ty #[.slice base len cap,X]) (.slice (some (s.nx,0)) (len+m) (.own 0)) (newB s (.cells (old++news) e inf.size false)):=by
  have hr:=append_grow (P:=P) (ty:=ty) ht hu hi hz hm hv ho hfit h63 hby hbytes
  have hge:=grownCap_ge w (len+m) cap e
  refine ⟨upd μ s.nx ⟨w.heap.size,0,grownCap w (len+m) cap e⟩,_,_,hr,conc_slice_mk (l:=⟨w.heap.size,0,grownCap w (len+m) cap e⟩) (upd_same _ _ _) (show len+m≤grownCap w (len+m) cap e-0 by omega),?_⟩
  rw [show (newB s (.cells (old++news) e inf.size false)).hp=T.set s.hp s.nx (.cells (old++news) e inf.size false) from rfl,get_set']
  refine Step.new_ hR hf (b:=.cells (old++news) e inf.size false) trivial rfl rfl rfl rfl rfl ⟨rfl,_,os++vs,(Builtin.zeroCells z.cells (grownCap w (len+m) cap e-(len+m))).toList,⟨_,push_new rfl,FrOk.zero _⟩,concL_append _ _ _ _ (concL_mono (MLe.upd hf _) _ _ hco) (concL_mono (MLe.upd hf _) _ _ hcv),by simp,(fun h=>by cases h),?_⟩
  have e1:(Builtin.zeroCells z.cells (grownCap w (len+m) cap e-(len+m))).size=(grownCap w (len+m) cap e-(len+m)) * inf.size:=by rw [size_zeroCells,hzs]
  simp only [Array.size_append,List.size_toArray,e1,hvl,hol,←Nat.add_mul]
  congr 1
  omega
theorem get_move (h:T Bk) (i k:K) (b:Bk):T.get (T.set (T.del h i) k b)=updH (delH (T.get h) i) k b:=by
  funext j
  rw [T.get_set]
  unfold updH delH
  rw [T.get_del]
theorem opAppend_goes {s s':St} (hR:Rel B μ (T.get s.hp) w) (hf:K.succ s.nx=s'.nx→μ s.nx=none) {ts:List TypeId} {ty:TypeId} {a x v:AV} (h:opAppend P ts a x s=some (v,s')) {A X:Value} (hA:conc μ a=some A) (hX:conc μ x=some X) :
    Goes P B μ s w (Builtin.append_ ts.toArray ty #[A,X]) v s':=by
  unfold opAppend at h
  split at h
  case h_2=>cases h
  rename_i t u ad len c
  split at h
  case h_2=>cases h
  rename_i e m hu hni hm
  split at h
  case h_2=>cases h
  rename_i inf z hinf hz
  split at h
  case isFalse=>cases h
  rename_i hc
  obtain ⟨c1,c2,c3,c4,c5⟩:=hc
  split at h
  case h_2=>cases h
  rename_i news hnews
  split at h
  case h_2=>cases h
  rename_i hleaf
  obtain ⟨it,zc,hi,hzc,hconc⟩:=zeroA_conc hz
  rw [hinf] at hi;injection hi with hi;subst hi
  have hzs:zc.cells.size=inf.size:=by
    have:=concL_length _ _ (parts_conc (hconc μ))
    rw [←Array.length_toList,this];exact c1
  obtain ⟨vs,hvs,hvl,hv⟩:=src_run (P:=P) hR hX hnews
  have hml:=fun w=>lenA_run (P:=P) hX hm w
  have h1:=allLeaf_conc _ _ hleaf hvs
  split at h
  case isTrue h0 =>
    subst h0
    have hvs0:vs=[]:=by simpa using hvl
    subst hvs0
    split at h
    · split at h
      · rename_i hl0
        injection h with h;injection h with h1 h2;subst h1;subst h2;subst hl0
        obtain ⟨A,k,rfl,-⟩:=conc_sliceN hA
        refine ⟨μ,_,w,append_fit (w1:=w) hu hni hinf (hml w) (hv w rfl) (by omega) ?_,hA,Step.refl hR _⟩
        cases A<;>simp [storeCells]
      · cases h
    · rename_i p
      injection h with h;injection h with h1 h2;subst h1;subst h2
      obtain ⟨l,hl,hcap,rfl⟩:=conc_slice (i:=p.1) (o:=p.2) hA
      exact ⟨μ,_,w,append_fit (w1:=w) hu hni hinf (hml w) (hv w rfl) (by omega) (by simp [storeCells]),hA,Step.refl hR _⟩
  case isFalse h0 =>
  split at h
  · split at h
    · rename_i hl0
      injection h with h;injection h with h2 h3;subst h2;subst h3;subst hl0
      have hA:=conc_slice0 hA;subst hA
      have:=grow_step (P:=P) (ty:=ty) (s:=s) hR (hf rfl) hu hni hinf hzc hzs (base:=none) (len:=0) (cap:=0) (hml w) (old:=[]) (os:=[]) hvs rfl hvl (by simp) hv (fun w' _=>by simp [Builtin.firstCells]) (by omega) (by omega) c3 (by simpa using c5)
      simpa using this
    · cases h
  · rename_i i
    split at h
    case h_2=>cases h
    rename_i l e' z' hb
    split at h
    case isFalse=>cases h
    rename_i hez
    obtain ⟨rfl,rfl⟩:=hez
    split at h
    case h_2=>cases h
    rename_i old hold
    injection h with h;injection h with h2 h3;subst h2;subst h3
    obtain ⟨L,hL,hcap,rfl⟩:=conc_slice hA
    obtain ⟨L',hL',hbr⟩:=hR.at_ i _ hb
    rw [hL] at hL';injection hL' with hL';subst hL'
    obtain ⟨g0,arr,us,spare,⟨fr,g1,hfr⟩,g2,g3,g4,g5⟩:=hbr
    obtain ⟨q1,q2⟩:=takeL_eq _ _ _ hold
    have hul:=concL_length _ _ g2
    have hco:concL μ old=some (us.take (len * inf.size)):=by rw [q1];exact concL_take _ _ _ g2
    have hol:(us.take (len * inf.size)).length=len * inf.size:=by rw [List.length_take];omega
    have hcapV:capV L (.own 0)=L.cap:=rfl
    have hasz:arr.size=us.length+spare.length:=by rw [←Array.length_toList,g3,List.length_append]
    by_cases hfit:len+m≤L.cap
    · have hend:(len+m) * inf.size≤arr.size:=by rw [g5];exact Nat.mul_le_mul_right _ hfit
      rw [Nat.add_mul] at hend
      have e0:(ptrV L 0).add (len * inf.size)=⟨L.blk,len * inf.size,none⟩:=by rw [ptrV_add,ptrV_eq,g0];simp
      have hst:=run_storeCells_cells (P:=P) L.blk (len * inf.size) vs 0 w (fun j hj=>by
        rw [heap_cell (a:=⟨L.blk,len * inf.size+0+j,none⟩) g1 rfl]
        rw [Array.getElem?_eq_getElem (by show len * inf.size+0+j<arr.size;omega)];rfl) (fun j _=>hfr.frozen g1 (by omega)) h1
      obtain ⟨r1,r2,r3,r4⟩:=setCells_rest L.blk vs (len * inf.size) w
      refine ⟨upd μ s.nx ⟨L.blk,0,L.cap⟩,.slice (some (ptrV L 0)) (len+m) (capV L (.own 0)),w.setCells L.blk (len * inf.size) vs,append_fit hu hni hinf (hml w) (hv w rfl) (by rw [hcapV];exact hfit) (by show (storeCells ((ptrV L 0).add (len * inf.size)) vs).run P w=_;rw [e0];simpa using hst),?_,?_⟩
      · have:=conc_slice_mk (μ:=upd μ s.nx ⟨L.blk,0,L.cap⟩) (o:=0) (k:=.own 0) (upd_same μ s.nx ⟨L.blk,0,L.cap⟩) (show len+m≤L.cap-0 by omega)
        rw [this,ptrV_eq,ptrV_eq,g0]
        rfl
      · show Step B μ (T.get s.hp) s.nx w _ (T.get (T.set (T.del s.hp i) s.nx _)) (K.succ s.nx) _
        rw [get_move]
        refine Step.move_ hR (hf rfl) hb trivial (fun _ _ _ _ h=>by cases h) (b':=.cells (old++news) e' inf.size false) trivial hL rfl r1 (fun k hk=>setCells_other _ _ _ _ _ hk) r2 r3 r4 ⟨rfl,_,us.take (len * inf.size)++vs,arr.toList.drop (len * inf.size+vs.length),⟨fr,setCells_heap L.blk vs (len * inf.size) w arr e' g1 (by omega),by
          have:(arr.toList.take (len * inf.size)++vs++arr.toList.drop (len * inf.size+vs.length)).toArray.size=arr.size:=by
            simp only [List.size_toArray,List.length_append,List.length_take,List.length_drop,Array.length_toList]
            omega
          rw [this];exact hfr⟩,concL_append _ _ _ _ (concL_mono (MLe.upd (hf rfl) _) _ _ hco) (concL_mono (MLe.upd (hf rfl) _) _ _ hvs),?_,(fun h=>by cases h),?_⟩
        · simp only [g3]
          rw [List.take_append_of_le_length (by omega)]
        · rw [←g5]
          simp only [List.size_toArray,List.length_append,List.length_take,List.length_drop,Array.length_toList]
          omega
    · have hcells:∀w':World,w'.heap=w.heap→(Builtin.firstCells inf.size len (.slice (some (ptrV L 0)) len (capV L (.own 0)))).run P w'=.ok (us.take (len * inf.size)).toArray w':=fun w' hw=>firstCells_some hol fun j v hj=>by
        rw [ptrV_add,ptrV_eq,g0]
        have hj':us[j]?=some v:=by
          have:=take_drop_get (o:=0) (l:=us) (by simpa using hj)
          simpa using this
        have hjl:=(List.getElem?_eq_some_iff.1 hj').1
        rw [heap_cell (a:=⟨L.blk,0+(0+j),none⟩) (by rw [hw];exact g1) rfl,←Array.getElem?_toList,g3]
        show (us++spare)[0+(0+j)]?=some v
        rw [Nat.zero_add,Nat.zero_add,List.getElem?_append_left hjl]
        exact hj'
      obtain ⟨μ',c',w',k1,k2,k3⟩:=grow_step (P:=P) (ty:=ty) (s:=s) hR (hf rfl) hu hni hinf hzc hzs (base:=some (ptrV L 0)) (len:=len) (cap:=capV L (.own 0)) (hml w) (old:=old) hvs hco hvl hol hv hcells (by rw [hcapV];omega) c4 c3 c5
      refine ⟨μ',c',w',k1,k2,?_⟩
      show Step B μ (T.get s.hp) s.nx w _ (T.get (T.set (T.del s.hp i) s.nx _)) (K.succ s.nx) _
      rw [get_move]
      refine k3.sub fun j b hj=>?_
      show T.get (T.set s.hp s.nx _) j=some b
      rw [get_set']
      unfold updH delH at hj
      unfold updH
      split at hj
      · rename_i e;rw [if_pos e];exact hj
      · rename_i e;rw [if_neg e]
        split at hj
        · cases hj
        · exact hj
  · rename_i _ i o k
    obtain ⟨L,hL,hcap,rfl⟩:=conc_slice hA
    have hcapV:capV L (.ex k)=k:=rfl
    split at h
    · rename_i hfit
      split at h
      case h_2=>cases h
      rename_i l e' z' f hb
      split at h
      case h_2=>cases h
      rename_i l' hs
      injection h with h;injection h with h2 h3;subst h2;subst h3
      obtain ⟨r1,r2⟩:=cells_set (P:=P) hR hb hL hs hvs h1
      refine ⟨μ,.slice (some (ptrV L o)) (len+m) (capV L (.ex k)),_,append_fit hu hni hinf (hml w) (hv w rfl) (by rw [hcapV];exact hfit) (by show (storeCells ((ptrV L o).add (len * inf.size)) vs).run P w=_;rw [ptrV_add];exact r1),conc_slice_mk hL (by rw [hcapV];exact hfit),r2⟩
    · rename_i hfit
      split at h
      case isFalse=>cases h
      split at h
      case h_2=>cases h
      rename_i l hcl
      split at h
      case h_2=>cases h
      rename_i old hold
      injection h with h;injection h with h2 h3;subst h2;subst h3
      obtain ⟨b,hb,hbl⟩:=optK_some hcl
      obtain ⟨L',us,hL',hus,hcell⟩:=hR.cells hb hbl
      rw [hL] at hL';injection hL' with hL';subst hL'
      obtain ⟨q1,q2,q3⟩:=subL_eq hold
      have hul:=concL_length _ _ hus
      have hco:concL μ old=some ((us.drop o).take (len * inf.size)):=by rw [q1];exact concL_take _ _ _ (concL_drop _ _ _ hus)
      have hol:((us.drop o).take (len * inf.size)).length=len * inf.size:=by rw [List.length_take,List.length_drop];omega
      have hcells:∀w':World,w'.heap=w.heap→(Builtin.firstCells inf.size len (.slice (some (ptrV L o)) len (capV L (.ex k)))).run P w'=.ok ((us.drop o).take (len * inf.size)).toArray w':=fun w' hw=>firstCells_some hol fun j v hj=>by
        rw [ptrV_add,ptrV_eq]
        have:=hcell (o+j) v (take_drop_get hj)
        unfold World.cell? at this ⊢
        rw [hw]
        exact this
      exact grow_step (P:=P) (ty:=ty) (s:=s) hR (hf rfl) hu hni hinf hzc hzs (base:=some (ptrV L o)) (len:=len) (cap:=capV L (.ex k)) (hml w) (old:=old) hvs hco hvl hol hv hcells (by rw [hcapV];omega) c4 c3 c5
  · cases h
theorem grownK_some (hR:Rel B μ H w) {h:T Bk} (hH:T.get h=H) {i:K} {l:List AV} {e z n0:Nat} (hr:grownK h i=some (l,e,z,n0)) :
    ∃b L,H i=some b∧OwnB b∧μ i=some L∧L.base=0∧(∀cs e z q,b=.kept cs e z q→q≤n0)∧∃(arr:Array Value) (vs spare:List Value),(∃fr,w.heap[L.blk]?=some (.cells arr e fr)∧FrOk arr.size fr)∧concL μ l=some vs∧arr.toList=vs++spare∧arr.size=L.cap * z:=by
  unfold grownK at hr
  split at hr
  · rename_i l' e' z' hb
    injection hr with hr;injection hr with h1 hr;injection hr with h2 hr;injection hr with h3 h4;subst h1;subst h2;subst h3;subst h4
    rw [hH] at hb
    obtain ⟨L,hL,g0,arr,vs,spare,g1,g2,g3,-,g5⟩:=hR.at_ i _ hb
    exact ⟨_,L,hb,trivial,hL,g0,(fun _ _ _ _ h=>by cases h),arr,vs,spare,g1,g2,g3,g5⟩
  · rename_i l' e' z' n' hb
    injection hr with hr;injection hr with h1 hr;injection hr with h2 hr;injection hr with h3 h4;subst h1;subst h2;subst h3;subst h4
    rw [hH] at hb
    obtain ⟨L,hL,-,g0,arr,vs,spare,g1,g2,g3,g5⟩:=hR.at_ i _ hb
    exact ⟨_,L,hb,trivial,hL,g0,(fun _ _ _ _ h=>by injection h with _ _ _ h;exact Nat.le_of_eq h.symm),arr,vs,spare,g1,g2,g3,g5⟩
  · cases hr
theorem get_keepA (h:T Bk) (i k:K) (b c:Bk):T.get (T.set (T.set h i b) k c)=updH (updH (T.get h) i b) k c:=by
  rw [get_set',get_set']
theorem opAppendK_goes {s s':St} (hR:Rel B μ (T.get s.hp) w) (hf:K.succ s.nx=s'.nx→μ s.nx=none) {ts:List TypeId} {ty:TypeId} {a x v:AV} (h:opAppendK P ts a x s=some (v,s')) {A X:Value} (hA:conc μ a=some A) (hX:conc μ x=some X) :
    Goes P B μ s w (Builtin.append_ ts.toArray ty #[A,X]) v s':=by
  unfold opAppendK at h
  split at h
  case h_2=>exact opAppend_goes hR hf h hA hX
  rename_i t u i len
  split at h
  case h_2=>cases h
  rename_i e m hu hni hm
  split at h
  case h_2=>cases h
  rename_i inf z hinf hz
  split at h
  case isFalse=>cases h
  rename_i hc
  obtain ⟨c1,c2,c3,c4,c5⟩:=hc
  split at h
  case h_2=>cases h
  rename_i news hnews
  split at h
  case h_2=>cases h
  rename_i hleaf
  obtain ⟨it,zc,hi,hzc,hconc⟩:=zeroA_conc hz
  rw [hinf] at hi;injection hi with hi;subst hi
  have hzs:zc.cells.size=inf.size:=by
    have:=concL_length _ _ (parts_conc (hconc μ))
    rw [←Array.length_toList,this];exact c1
  obtain ⟨vs,hvs,hvl,hv⟩:=src_run (P:=P) hR hX hnews
  have hml:=fun w=>lenA_run (P:=P) hX hm w
  have h1:=allLeaf_conc _ _ hleaf hvs
  split at h
  case isTrue h0 =>
    subst h0
    have hvs0:vs=[]:=by simpa using hvl
    subst hvs0
    injection h with h;injection h with h1 h2;subst h1;subst h2
    obtain ⟨l,hl,hcap,rfl⟩:=conc_slice hA
    exact ⟨μ,_,w,append_fit (w1:=w) hu hni hinf (hml w) (hv w rfl) (by omega) (by simp [storeCells]),hA,Step.refl hR _⟩
  case isFalse h0 =>
  split at h
  case h_2=>cases h
  rename_i l e' z' n0 hrow
  split at h
  case isFalse=>cases h
  rename_i hez
  obtain ⟨rfl,rfl,hn0⟩:=hez
  split at h
  case h_2=>cases h
  rename_i old hold
  injection h with h;injection h with h2 h3;subst h2;subst h3
  obtain ⟨L,hL,hcap,rfl⟩:=conc_slice hA
  obtain ⟨b,L',hb,hob,hL',g0,hkq,arr,us,spare,⟨fr,g1,hfr⟩,g2,g3,g5⟩:=grownK_some hR rfl hrow
  rw [hL] at hL';injection hL' with hL';subst hL'
  have hkn:∀cs e z q,b=.kept cs e z q→q≤len * inf.size:=fun cs e z q h=>Nat.le_trans (hkq cs e z q h) hn0
  obtain ⟨q1,q2⟩:=takeL_eq _ _ _ hold
  have hul:=concL_length _ _ g2
  have hco:concL μ old=some (us.take (len * inf.size)):=by rw [q1];exact concL_take _ _ _ g2
  have hol:(us.take (len * inf.size)).length=len * inf.size:=by rw [List.length_take];omega
  have hon:old.length≤len * inf.size:=by rw [q1,List.length_take];omega
  have hcapV:capV L (.own 0)=L.cap:=rfl
  have hasz:arr.size=us.length+spare.length:=by rw [←Array.length_toList,g3,List.length_append]
  have hcell:∀(w':World) (arr':Array Value) fr',w'.heap[L.blk]?=some (.cells arr' e' fr')→(∀j,j<len * inf.size→arr'[j]?=arr[j]?)→BR μ (.view old) L w':=fun w' arr' fr' hw' ha=>by
    refine ⟨_,hco,fun j v hj=>?_⟩
    have hjl:=(List.getElem?_eq_some_iff.1 hj).1
    have hj':us[j]?=some v:=by
      have:=take_drop_get (o:=0) (l:=us) (by simpa using hj)
      simpa using this
    rw [heap_cell (a:=⟨L.blk,L.base+j,none⟩) hw' rfl,g0]
    show arr'[0+j]?=some v
    rw [Nat.zero_add,ha j (by omega),←Array.getElem?_toList,g3,List.getElem?_append_left (List.getElem?_eq_some_iff.1 hj').1]
    exact hj'
  by_cases hfit:len+m≤L.cap
  · have hend:(len+m) * inf.size≤arr.size:=by rw [g5];exact Nat.mul_le_mul_right _ hfit
    rw [Nat.add_mul] at hend
    have e0:(ptrV L 0).add (len * inf.size)=⟨L.blk,len * inf.size,none⟩:=by rw [ptrV_add,ptrV_eq,g0];simp
    have hst:=run_storeCells_cells (P:=P) L.blk (len * inf.size) vs 0 w (fun j hj=>by
      rw [heap_cell (a:=⟨L.blk,len * inf.size+0+j,none⟩) g1 rfl]
      rw [Array.getElem?_eq_getElem (by show len * inf.size+0+j<arr.size;omega)];rfl) (fun j _=>hfr.frozen g1 (by omega)) h1
    obtain ⟨r1,r2,r3,r4⟩:=setCells_rest L.blk vs (len * inf.size) w
    have hnew:=setCells_heap L.blk vs (len * inf.size) w arr e' g1 (by omega)
    have hpre:∀j,j<len * inf.size→(arr.toList.take (len * inf.size)++vs++arr.toList.drop (len * inf.size+vs.length)).toArray[j]?=arr[j]?:=fun j hj=>by
      rw [List.getElem?_toArray,List.append_assoc,List.getElem?_append_left (by rw [List.length_take,Array.length_toList];omega),List.getElem?_take_of_lt hj,Array.getElem?_toList]
    refine ⟨upd μ s.nx ⟨L.blk,0,L.cap⟩,.slice (some (ptrV L 0)) (len+m) (capV L (.own 0)),w.setCells L.blk (len * inf.size) vs,append_fit hu hni hinf (hml w) (hv w rfl) (by rw [hcapV];exact hfit) (by show (storeCells ((ptrV L 0).add (len * inf.size)) vs).run P w=_;rw [e0];simpa using hst),?_,?_⟩
    · have:=conc_slice_mk (μ:=upd μ s.nx ⟨L.blk,0,L.cap⟩) (o:=0) (k:=.own 0) (upd_same μ s.nx ⟨L.blk,0,L.cap⟩) (show len+m≤L.cap-0 by omega)
      rw [this,ptrV_eq,ptrV_eq,g0]
      rfl
    · show Step B μ (T.get s.hp) s.nx w _ (T.get (T.set (T.set s.hp i _) s.nx _)) (K.succ s.nx) _
      rw [get_keepA]
      refine Step.keepA (l':=⟨L.blk,0,L.cap⟩) hR (hf rfl) hb hob hL g0 hkn (.inl rfl) (Nat.le_of_eq r1.symm) (fun k _ hk=>setCells_other _ _ _ _ _ hk) (fun j hj=>?_) r2 r3 r4 hon (hcell _ _ _ hnew hpre) ⟨by rw [List.length_append,q1,List.length_take];omega,rfl,_,us.take (len * inf.size)++vs,arr.toList.drop (len * inf.size+vs.length),⟨fr,hnew,?_⟩,concL_append _ _ _ _ (concL_mono (MLe.upd (hf rfl) _) _ _ hco) (concL_mono (MLe.upd (hf rfl) _) _ _ hvs),?_,?_⟩
      · rw [heap_cell (a:=⟨L.blk,j,none⟩) hnew rfl,heap_cell (a:=⟨L.blk,j,none⟩) g1 rfl]
        exact hpre j hj
      · have:(arr.toList.take (len * inf.size)++vs++arr.toList.drop (len * inf.size+vs.length)).toArray.size=arr.size:=by
          simp only [List.size_toArray,List.length_append,List.length_take,List.length_drop,Array.length_toList]
          omega
        rw [this];exact hfr
      · simp only [g3]
        rw [List.take_append_of_le_length (by omega)]
      · rw [←g5]
        simp only [List.size_toArray,List.length_append,List.length_take,List.length_drop,Array.length_toList]
        omega
  · have hcells:∀w':World,w'.heap=w.heap→(Builtin.firstCells inf.size len (.slice (some (ptrV L 0)) len (capV L (.own 0)))).run P w'=.ok (us.take (len * inf.size)).toArray w':=fun w' hw=>firstCells_some hol fun j v hj=>by
      rw [ptrV_add,ptrV_eq,g0]
      have hj':us[j]?=some v:=by
        have:=take_drop_get (o:=0) (l:=us) (by simpa using hj)
        simpa using this
      have hjl:=(List.getElem?_eq_some_iff.1 hj').1
      rw [heap_cell (a:=⟨L.blk,0+(0+j),none⟩) (by rw [hw];exact g1) rfl,←Array.getElem?_toList,g3]
      show (us++spare)[0+(0+j)]?=some v
      rw [Nat.zero_add,Nat.zero_add,List.getElem?_append_left hjl]
      exact hj'
    have hr:=append_grow (P:=P) (ty:=ty) hu hni hinf hzc (base:=some (ptrV L 0)) (len:=len) (cap:=capV L (.own 0)) (hml w) hv hcells (by rw [hcapV];omega) c4 c3 c5
    have hge:=grownCap_ge w (len+m) (capV L (.own 0)) e'
    refine ⟨upd μ s.nx ⟨w.heap.size,0,grownCap w (len+m) (capV L (.own 0)) e'⟩,_,_,hr,conc_slice_mk (l:=⟨w.heap.size,0,grownCap w (len+m) (capV L (.own 0)) e'⟩) (upd_same _ _ _) (show len+m≤grownCap w (len+m) (capV L (.own 0)) e'-0 by omega),?_⟩
    show Step B μ (T.get s.hp) s.nx w _ (T.get (T.set (T.set s.hp i _) s.nx _)) (K.succ s.nx) _
    rw [get_keepA]
    have hlt:=hR.lt hb hL
    refine Step.keepA (w1:={ w with drawn:=w.drawn+1,heap:=w.heap.push (.cells ((us.take (len * inf.size)).toArray++vs.toArray++Builtin.zeroCells zc.cells (grownCap w (len+m) (capV L (.own 0)) e'-(len+m))) e') }) (l':=⟨w.heap.size,0,grownCap w (len+m) (capV L (.own 0)) e'⟩) hR (hf rfl) hb hob hL g0 hkn (.inr rfl) (by simp) (fun k hk _=>push_old rfl hk) (SameTo.row (push_old rfl hlt) _) rfl rfl rfl hon (hcell _ _ _ ((push_old rfl hlt).trans g1) fun _ _=>rfl) ⟨by rw [List.length_append,q1,List.length_take];omega,rfl,(us.take (len * inf.size)).toArray++vs.toArray++Builtin.zeroCells zc.cells (grownCap w (len+m) (capV L (.own 0)) e'-(len+m)),us.take (len * inf.size)++vs,(Builtin.zeroCells zc.cells (grownCap w (len+m) (capV L (.own 0)) e'-(len+m))).toList,⟨(0,0),push_new rfl,FrOk.zero _⟩,concL_append _ _ _ _ (concL_mono (MLe.upd (hf rfl) _) _ _ hco) (concL_mono (MLe.upd (hf rfl) _) _ _ hvs),(by simp),?_⟩
    have e1:(Builtin.zeroCells zc.cells (grownCap w (len+m) (capV L (.own 0)) e'-(len+m))).size=(grownCap w (len+m) (capV L (.own 0)) e'-(len+m)) * inf.size:=by rw [size_zeroCells,hzs]
    simp only [Array.size_append,List.size_toArray,e1,hvl,hol,←Nat.add_mul]
    congr 1
    omega
theorem opCopy_goes {s s':St} (hR:Rel B μ (T.get s.hp) w) {ts:List TypeId} {ty:TypeId} {a x v:AV} (h:opCopy P ts a x s=some (v,s')) {A X:Value} (hA:conc μ a=some A) (hX:conc μ x=some X) :
    Goes P B μ s w (Builtin.copy_ ts.toArray ty #[A,X]) v s':=by
  unfold opCopy at h
  split at h
  case h_2=>cases h
  rename_i t ts i o len c
  split at h
  case h_2=>cases h
  rename_i e m hu hm
  split at h
  case h_2=>cases h
  rename_i n hn
  split at h
  case h_2=>cases h
  rename_i news hnews
  split at h
  case h_2=>cases h
  rename_i l e' z' f hleaf hb
  split at h
  case h_2=>cases h
  rename_i l' hs
  injection h with h;injection h with h2 h3;subst h2;subst h3
  obtain ⟨L,hL,hcap,rfl⟩:=conc_slice hA
  obtain ⟨vs,hvs,hvl,hv⟩:=src_run (P:=P) hR hX hnews
  have hml:=lenA_run (P:=P) hX hm w
  obtain ⟨r1,r2⟩:=cells_set (P:=P) hR hb hL hs hvs (allLeaf_conc _ _ hleaf hvs)
  have hsz:=tsize_run (P:=P) hn w
  have hv':=hv w rfl
  refine ⟨μ,.int .i64 (Nat.min m len:Nat),_,?_,rfl,r2⟩
  simp [Builtin.copy_,run_underlying hu,hml,hsz,hv',r1,goInt]
theorem bytesA_conc (s:List Nat):concL μ (bytesA s)=some (s.map fun b=>Value.int .u8 (b%256:Nat)):=by
  induction s with
  | nil=>rfl
  | cons b s ih =>
    show (conc μ (.int .u8 (b%256:Nat))).bind _=_
    simp only [conc,Option.bind_some]
    rw [show concL μ (List.map (fun b=>AV.int .u8 (b%256:Nat)) s)=_ from ih]
    rfl
theorem modify_push (h:Array Obj) (o:Obj) (f:Obj→Obj):(h.push o).modify h.size f=h.push (f o):=by
  apply Array.ext_getElem?
  intro i
  rw [Array.getElem?_modify,Array.getElem?_push,Array.getElem?_push]
  by_cases e:i=h.size
  · subst e;simp
  · rw [if_neg (fun e'=>e e'.symm),if_neg e,if_neg e]
def rowB (w:World) (e:TypeId) (s:List Nat):Array Value:=(s.map fun b=>Value.int .u8 (b%256:Nat)).toArray++Array.replicate (grownCap w s.length 0 e-s.length) (.int .u8 0)
theorem mark_run {b:Nat} {arr:Array Value} {e:TypeId} (h:w.heap[b]?=some (.cells arr e (0,0))):(markStringish ⟨b,0,none⟩).run P w=.ok () (w.freeze ⟨b,arr.size,none⟩ 1):=by
  simp [markStringish,shape,freeze,Sem.run,World.shape?,h]
theorem bytes_run {e:TypeId} (s:List Nat) (w:World):(Conv.stringToBytes e (bytesV s)).run P w=.ok (.slice (some ⟨w.heap.size,0,none⟩) s.length (grownCap w s.length 0 e))
    { w with drawn:=w.drawn+1,heap:=w.heap.push (.cells (rowB w e s) e ((rowB w e s).size,(rowB w e s).size+1)) }:=by
  have hch:(choose (.appendCap s.length 0 e)).run P w=.ok (grownCap w s.length 0 e) { w with drawn:=w.drawn+1 }:=by
    simp [Question.forced,grownCap]
  have hsz:(bytesV s).size=s.length:=bytesV_size s
  have hd:((bytesV s).data.map fun b=>Value.int .u8 b.toNat)=(s.map fun b=>Value.int .u8 (b%256:Nat)).toArray:=by
    apply Array.toList_inj.mp
    simp [bytesV]
  have hnr:(newRow e (rowB w e s)).run P { w with drawn:=w.drawn+1 }=.ok ⟨w.heap.size,0,none⟩ { w with drawn:=w.drawn+1,heap:=w.heap.push (.cells (rowB w e s) e) }:=by
    simp [newRow]
    exact ⟨rfl,rfl,rfl⟩
  have hmk:=mark_run (P:=P) (w:={ w with drawn:=w.drawn+1,heap:=w.heap.push (.cells (rowB w e s) e) }) (b:=w.heap.size) (arr:=rowB w e s) (e:=e) (by simp)
  unfold Conv.stringToBytes
  simp only [Sem.run_bind,hsz,hch,Result.andThen_ok,hd]
  rw [show (s.map fun b=>Value.int .u8 (b%256:Nat)).toArray++Array.replicate (grownCap w s.length 0 e-s.length) (.int .u8 0)=rowB w e s from rfl,hnr]
  simp only [Result.andThen_ok,hmk,Sem.run_pure]
  congr 1
  simp only [World.freeze,Nat.one_ne_zero,if_false,modify_push]
  rfl
theorem opBytes_goes {s s':St} (hR:Rel B μ (T.get s.hp) w) (hf:K.succ s.nx=s'.nx→μ s.nx=none) {a b e:TypeId} {x:Option AV} {v:AV} (ha:P.underlying a=some .string) (hb:P.underlying b=some (.slice e)) (h:opBytes P e x s=some (v,s')):∃u,x=some u∧∀c,conc μ u=some c→Goes P B μ s w (convert a b c) v s':=by
  unfold opBytes at h
  split at h
  · rename_i t he
    injection h with h;injection h with h1 h2;subst h1;subst h2
    refine ⟨_,rfl,fun c hc=>?_⟩
    rw [conc_str hc]
    have hcv:∀w,(convert a b (.string (bytesV t))).run P w=(Conv.stringToBytes e (bytesV t)).run P w:=fun w=>by simp [convert,run_underlying ha,run_underlying hb,run_underlying he]
    have hge:=grownCap_ge w t.length 0 e
    refine ⟨upd μ s.nx ⟨w.heap.size,0,grownCap w t.length 0 e⟩,_,_,(hcv w).trans (bytes_run t w),?_,?_⟩
    · have:=conc_slice_mk (μ:=upd μ s.nx ⟨w.heap.size,0,grownCap w t.length 0 e⟩) (o:=0) (k:=.own 0) (upd_same μ s.nx ⟨w.heap.size,0,grownCap w t.length 0 e⟩) (show lenL t≤grownCap w t.length 0 e-0 by rw [lenL_eq];omega)
      rw [this,lenL_eq]
      rfl
    · rw [show (newB s (.cells (bytesA t) e 1 false)).hp=T.set s.hp s.nx (.cells (bytesA t) e 1 false) from rfl,get_set']
      refine Step.new_ hR (hf rfl) (b:=.cells (bytesA t) e 1 false) trivial rfl rfl rfl rfl rfl ⟨rfl,_,_,List.replicate (grownCap w t.length 0 e-t.length) (.int .u8 0),⟨_,push_new rfl,FrOk.behind _ _⟩,bytesA_conc t,by simp [rowB],(fun h=>by cases h),?_⟩
      simp only [rowB,Array.size_append,List.size_toArray,List.length_map,Array.size_replicate,Nat.mul_one]
      omega
  · cases h
theorem textA_conc:∀(cs:List AV) (r:List Nat),textA cs=some r→∃ns:List Int,concL μ cs=some (ns.map (Value.int .u8))∧r=ns.map Int.toNat
  | [],r,h=>by injection (show some []=some r from h) with h;subst h;exact ⟨[],rfl,rfl⟩
  | v::cs,r,h=>by
    unfold textA at h
    split at h
    · rename_i e;cases e
    · rename_i n l e
      injection e with e1 e2;subst e1;subst e2
      split at h
      · rename_i r' hr
        injection h with h;subst h
        obtain ⟨ns,h1,h2⟩:=textA_conc _ _ hr
        exact ⟨n::ns,by simp only [concL,conc,h1,Option.bind_some,Option.map_some,List.map_cons],by rw [h2];rfl⟩
      · cases h
    · cases h
theorem foldl_bytes:∀(ns:List Int) (b:ByteArray),ns.foldl (fun r n=>r.push (UInt8.ofNat n.toNat)) b=⟨b.data++((ns.map Int.toNat).map UInt8.ofNat).toArray⟩
  | [],b=>by simp
  | n::ns,b=>by
    rw [List.foldl_cons,foldl_bytes ns]
    simp [ByteArray.push]
theorem opText_run {s:St} (hR:Rel B μ (T.get s.hp) w) {a b e:TypeId} {x:Option AV} {v:AV} (ha:P.underlying a=some (.slice e)) (hb:P.underlying b=some .string) (h:opText P e x s=some v):∃u,x=some u∧∀c,conc μ u=some c→∃d,conc μ v=some d∧(convert a b c).run P w=.ok d w:=by
  unfold opText at h
  split at h
  · rename_i n m he
    injection h with h;subst h
    refine ⟨_,rfl,fun c hc=>⟨_,rfl,?_⟩⟩
    have hc:=conc_slice0 hc;subst hc
    rw [run_convert_bytes_string w a b e none n m ha he hb]
    simp [Conv.bytesToString]
    rfl
  · rename_i i o n k he
    split at h
    case h_2=>cases h
    rename_i l hl
    split at h
    case h_2=>cases h
    rename_i cs hcs
    split at h
    case h_2=>cases h
    rename_i r hr
    injection h with h;subst h
    refine ⟨_,rfl,fun c hc=>⟨_,rfl,?_⟩⟩
    obtain ⟨L,hL,-,rfl⟩:=conc_slice hc
    obtain ⟨b',hb',hbl⟩:=optK_some hl
    obtain ⟨L',vs,hL',hvs,hcell⟩:=hR.cells hb' hbl
    rw [hL] at hL';injection hL' with hL';subst hL'
    obtain ⟨q1,q2,q3⟩:=subL_eq hcs
    obtain ⟨ns,h1,h2⟩:=textA_conc (μ:=μ) _ _ hr
    have hvs':(vs.drop o).take n=ns.map (Value.int .u8):=by
      have:=concL_take _ _ n (concL_drop _ _ o hvs)
      rw [←q1,h1] at this
      injection this with this;exact this.symm
    have hlen:((vs.drop o).take n).length=n:=by
      have:=concL_length _ _ hvs
      simp;omega
    have hload:=run_loadCells_list (P:=P) (w:=w) (ptrV L o) ((vs.drop o).take n) (fun j v hj=>by
      rw [ptrV_add,ptrV_eq]
      exact hcell (o+j) v (take_drop_get hj))
    rw [hlen,hvs'] at hload
    rw [run_convert_bytes_string w a b e _ n _ ha he hb,run_bytesToString w _ n _ ns hload,foldl_bytes,h2]
    simp [bytesV,ByteArray.empty,ByteArray.emptyWithCapacity]
    rfl
  · cases h
end Go.Proofs.YtoegffiapnnkiaaGreat.Abs
