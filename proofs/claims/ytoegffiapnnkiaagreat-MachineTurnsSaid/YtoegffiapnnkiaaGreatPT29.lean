/- Parts of one proof. No condition but those that each theorem names. -/
import Derived.Test.YtoegffiapnnkiaaGreatPT28
namespace Go.Proofs.YtoegffiapnnkiaaGreat.Abs
open Go
set_option linter.unusedVariables false
set_option linter.unusedSimpArgs false
set_option maxRecDepth 100000
set_option maxHeartbeats 4000000
theorem slv_same' {α:Type} (i:K) (l:List α):sameA (gS i l).v (gS i l).v=true:=by
  cases l<;>simp [gS,Sl.v,sameA,K.beq_refl]
theorem iC_map (l:List Int):l.flatMap iC=l.map (AV.int .i64):=by
  induction l with
  | nil=>rfl
  | cons x l ih=>rw [List.flatMap_cons,List.map_cons,←ih];rfl
theorem gD_pos {α:Type} {enc:α→List AV} {el sz:Nat} {i:K} {l:List α} (h:0<l.length):gD enc el sz i l=[(i,.cells (l.flatMap enc) el sz false)]:=by
  cases l with
  | nil=>simp at h
  | cons x l=>rfl
theorem gS_pos {α:Type} {i:K} {l:List α} (h:0<l.length):(gS i l).a=some (i,0):=by
  cases l with
  | nil=>simp at h
  | cons x l=>rfl
theorem gS_set (i:K) (l:List Int) (n:Nat) (v:Int):(gS i (l.set n v)).v=(gS i l).v:=by
  cases l with
  | nil=>rfl
  | cons x l=>cases n with
    | zero=>rfl
    | succ n=>show AV.slice (some (i,0)) (x::l.set n v).length (.own 0)=.slice (some (i,0)) (x::l).length (.own 0);simp
theorem set_iC {l:List Int} {n:Nat} (h:n<l.length) (v:Int):setLs (l.flatMap iC) n [.int .i64 v]=some ((l.set n v).flatMap iC):=by
  rw [iC_map,iC_map,setLs_one _ _ _ (by simpa using h),List.map_set]
theorem lenT_le {t:Table} (hck:checkS t=none) {x:Span} (h:x.t=0∨SpanRuns t x):lenT x≤4096:=by
  unfold lenT
  split
  · omega
  · have h:=h.resolve_left ‹_›
    have:=h.1;have:=h.2.2.1;have:=(check_code hck).1
    omega
attribute [local irreducible] W Cl Bd
variable {g:Cg} {V:K→Option (List AV)}
def bodD (k kt:K) (w:Snap) (jr ja:K) (b:Bod):Dm:=bodB k kt w jr ja b::(gD iC 2 1 jr b.regs++gD Act.cs 127 6 ja b.acts)
theorem partL_c (B:BodG g) {t:Table} (ht:t.Ok V) (hck:checkS t=none) {kt:K} (hkt:V kt=some [.str t.name,t.regs.v,.int .i64 t.slots,t.consts.v,t.code.v,t.states.v]) {w:Snap} (hw:w.Ok) (k jr ja:K) (b:Bod)
    (hb:BodOk t b) (hst:0≤b.steps∧b.steps≤1000000000) (x:Span) (hx:x.t=0∨SpanRuns t x) (R:Dm) (hR:∀z∈gD iC 2 1 jr b.regs,z∈R) (hva:∀i∈names R,V i=none) (hnd:(names R).Nodup) :
    Cl Tryz.prog g (withV V R) 160 [.ptr (some (k,0)),x.v] [bodB k kt w jr ja b] fun o Δ=>o=.ret (.int .i64 (partF t w b x).1)∧Δ=[bodB k kt w jr ja (partF t w b x).2] :=
  part_c B (Table.okM (withV_le hva) ht) hck (rest:=[]) (withV_le hva _ _ hkt) hw k jr ja b ((gS_in (enc:=iC) (el:=2) (sz:=1) (i:=jr) (l:=b.regs) hR).in (V:=V) (one:=AV.int .i64) (ag:=false) hnd (fun _=>rfl) (fun _=>rfl)) hb.in_ hb.len hst x hx
theorem row5_c (B:BodG g) {t:Table} {kt:K} {w:Snap} (k jr ja:K) (b:Bod) {r:Row} (hk:r.k=5) :
    Cl Tryz.prog g V 124 [.ptr (some (k,0)),r.v] (bodD k kt w jr ja b) fun o Δ=>o=.ret (.tup [])∧∃ja',Δ=bodD k kt w jr ja' (rowF t w b r):=by
  refine Cl.enter B.row Tryz.func124 rfl ?_
  unfold rowF
  rw [if_neg (by omega),if_neg (by omega),if_pos hk]
  obtain ⟨rk,ro,ri,rs,rq,rp,rv⟩:=r
  simp only at hk;subst hk
  unfold bodD bodB
  simp only
  generalize hX:(gD iC 2 1 jr b.regs++gD Act.cs 127 6 ja b.acts)=X
  repeat first|(with_reducible first|refine za ?_|refine zb ?_|refine zc ?_)|refine ym zr ?_|refine yn 0 zr ?_|refine yn 1 zr ?_|(refine yo zr ?_;intro _)|(refine yp zr ?_;intro _)|refine yq zr ?_|refine yu zr ?_|(with_reducible first|refine ze ?_|refine zj ?_|refine zk ?_|refine zl ?_)|refine W.condT zr ?_|refine W.condF zr ?_
  refine W.dropE (_::X) (by first|exact .cons_cons _ (.cons _ (.cons _ (List.Sublist.refl _)))|exact .cons _ (.cons _ (.cons_cons _ (List.Sublist.refl _)))) ?_
  repeat' first|refine W.done zr ?_
  exact ⟨rfl,ja,by rw [←hX]⟩
theorem row4_c (B:BodG g) {t:Table} (ht:t.Ok V) (hck:checkS t=none) {kt:K} (hkt:V kt=some [.str t.name,t.regs.v,.int .i64 t.slots,t.consts.v,t.code.v,t.states.v]) {w:Snap} (hw:w.Ok) (k jr ja:K) (b:Bod)
    (hb:BodOk t b) (hst:0≤b.steps∧b.steps≤999000000) {r:Row} (hr:RowOk t r) (hk:r.k=4) :
    Cl Tryz.prog g V 124 [.ptr (some (k,0)),r.v] (bodD k kt w jr ja b) fun o Δ=>o=.ret (.tup [])∧∃ja',Δ=bodD k kt w jr ja' (rowF t w b r):=by
  refine Cl.enter B.row Tryz.func124 rfl ?_
  have hv:=partL_c B ht hck hkt hw k jr ja b hb ⟨hst.1,by omega⟩ r.value (hr.span (.inr (.inr (.inr rfl))))
  unfold rowF
  rw [if_neg (by omega),if_pos hk]
  have hidx:=hr.index
  unfold Index at hidx
  rw [if_neg (by omega),if_neg (by omega),if_pos hk] at hidx
  have hidx:=of_decide_eq_true hidx
  obtain ⟨hp1,hp2,hp3,hp4⟩:=partF_same t w b r.value
  generalize partF t w b r.value=q at hv hp1 hp2 hp3 hp4 ⊢
  obtain ⟨rk,ro,ri,rs,rq,rp,rv⟩:=r
  simp only at hk hidx hv;subst hk
  unfold bodD
  have hX:∀z∈gD iC 2 1 jr b.regs,z∈(gD iC 2 1 jr b.regs++gD Act.cs 127 6 ja b.acts):=fun z hz=>List.mem_append_left _ hz
  generalize hXe:(gD iC 2 1 jr b.regs++gD Act.cs 127 6 ja b.acts)=X at hX
  repeat first|(with_reducible first|refine za ?_|refine zb ?_|refine zc ?_)|refine ym zr ?_|refine yn 0 zr ?_|refine yn 1 zr ?_|(refine yo zr ?_;intro _)|(refine yp zr ?_;intro _)|refine yq zr ?_|with_reducible refine ze ?_|refine W.condT zr ?_|refine W.condF zr ?_
  refine W.fr2 ?_
  refine W.know fun hva hnd=>?_
  have hv:=hv (_::_::X) (fun z hz=>.tail _ (.tail _ (hX z hz))) (fun i hi=>hva i (List.mem_cons_of_mem _ hi)) (List.nodup_cons.1 hnd).2
  clear hva hnd
  refine W.callHe (Δ:=[_]) (R:=_::_::X) rfl rfl rfl rfl hv (by rintro v Δ' ⟨h,-⟩;cases h) ?_
  rintro v_ Δ_ ⟨h1_,rfl⟩
  injection h1_ with h1_;subst h1_
  clear hv
  obtain ⟨v,b'⟩:=q
  simp only at hp1 hp2 hp3 hp4 ⊢
  obtain ⟨s',regs',acts',st',steps',err'⟩:=b'
  simp only at hp1 hp2 hp3 hp4 ⊢
  subst hp1;subst hp2;subst hp3;subst hp4
  by_cases he:err'=0
  · subst he
    rw [if_pos rfl]
    have hbl:=hb.len
    have hidx:0≤ri∧ri<t.regs.l.length:=of_decide_eq_true hidx
    have hi0:(0:Int)≤ri:=hidx.1
    have hi1:ri<((gS jr b.regs).l.length:Int):=by rw [gS_l,hbl];exact hidx.2
    have hpos:0<b.regs.length:=by omega
    have hset:=set_iC (l:=b.regs) (n:=0+ri.toNat * 1) (by omega) v
    rw [gD_pos hpos] at hXe
    subst hXe
    repeat first|refine W.ia tblOk rfl rfl rfl rfl rfl rfl (gS_pos hpos) hi0 hi1 ?_|(refine W.fr3 ?_;refine W.stF tblOk rfl rfl rfl rfl rfl rfl rfl hset ?_)|(with_reducible first|refine za ?_|refine zb ?_|refine zc ?_)|refine ym zr ?_|refine yn 0 zr ?_|refine yn 2 zr ?_|(with_reducible first|refine zj ?_|refine zk ?_|refine zl ?_)|refine zw (by decide +kernel) ?_|refine W.condT zr ?_
    refine W.dropE (_::_::gD Act.cs 127 6 ja b.acts) (.cons_cons _ (.cons_cons _ (.cons _ (.cons _ (List.Sublist.refl _))))) ?_
    refine W.fr1 ?_
    repeat' first|refine W.done zr ?_
    refine ⟨rfl,ja,?_⟩
    rw [show 0+ri.toNat * 1=ri.toNat by omega,gD_pos (l:=b.regs.set ri.toNat v) (by rw [List.length_set];exact hpos)]
    unfold bodB
    simp only [gS_set]
    rfl
  · rw [if_neg he]
    repeat first|(with_reducible first|refine za ?_|refine zb ?_|refine zc ?_)|refine ym zr ?_|refine yn 0 zr ?_
    refine W.condP rfl (fun h=>absurd h he) (fun _=>?_)
    repeat first|(with_reducible first|refine zd ?_|refine zj ?_|refine zk ?_|refine zl ?_)
    refine W.dropE (_::X) (by first|exact .cons_cons _ (.cons _ (.cons _ (List.Sublist.refl _)))|exact .cons _ (.cons _ (.cons_cons _ (List.Sublist.refl _)))) ?_
    repeat' first|refine W.done zr ?_
    exact ⟨rfl,ja,by rw [←hXe]⟩
theorem row6_c (B:BodG g) {t:Table} {kt:K} {w:Snap} (k jr ja:K) (b:Bod) {r:Row} (hk:r.k=6) :
    Cl Tryz.prog g V 124 [.ptr (some (k,0)),r.v] (bodD k kt w jr ja b) fun o Δ=>o=.ret (.tup [])∧∃ja',Δ=bodD k kt w jr ja' (rowF t w b r):=by
  refine Cl.enter B.row Tryz.func124 rfl ?_
  unfold rowF
  rw [if_neg (by omega),if_neg (by omega),if_neg (by omega)]
  obtain ⟨rk,ro,ri,rs,rq,rp,rv⟩:=r
  simp only at hk;subst hk
  unfold bodD bodB
  simp only
  generalize hX:(gD iC 2 1 jr b.regs++gD Act.cs 127 6 ja b.acts)=X
  repeat first|(with_reducible first|refine za ?_|refine zb ?_|refine zc ?_)|refine ym zr ?_|refine yn 0 zr ?_|refine yn 1 zr ?_|(refine yo zr ?_;intro _)|(refine yp zr ?_;intro _)|refine yq zr ?_|refine yu zr ?_|(with_reducible first|refine ze ?_|refine zj ?_|refine zk ?_|refine zl ?_)|refine W.condF zr ?_
  refine W.dropE (_::X) (by first|exact .cons_cons _ (.cons _ (.cons _ (List.Sublist.refl _)))|exact .cons _ (.cons _ (.cons_cons _ (List.Sublist.refl _)))) ?_
  repeat' first|refine W.done zr ?_
  exact ⟨rfl,ja,by rw [←hX]⟩
theorem row2_c (B:BodG g) {t:Table} (ht:t.Ok V) (hck:checkS t=none) {kt:K} (hkt:V kt=some [.str t.name,t.regs.v,.int .i64 t.slots,t.consts.v,t.code.v,t.states.v]) {w:Snap} (hw:w.Ok) (k jr ja:K) (b:Bod)
    (hb:BodOk t b) (hst:0≤b.steps∧b.steps≤999000000) (hal:b.acts.length≤1000000) {r:Row} (hr:RowOk t r) (hk:r.k=2) :
    Cl Tryz.prog g V 124 [.ptr (some (k,0)),r.v] (bodD k kt w jr ja b) fun o Δ=>o=.ret (.tup [])∧∃ja',Δ=bodD k kt w jr ja' (rowF t w b r):=by
  refine Cl.enter B.row Tryz.func124 rfl ?_
  have hq:=partL_c B ht hck hkt hw k jr ja b hb ⟨hst.1,by omega⟩ r.qty (hr.span (.inr (.inl rfl)))
  have ss1:=part_steps hck w b (hr.span (.inr (.inl rfl)))
  have sl1:=lenT_le hck (hr.span (.inr (.inl rfl)))
  have hp:=partL_c B ht hck hkt hw k jr ja (partF t w b r.qty).2 (part_ok hb r.qty) ⟨by omega,by omega⟩ r.price (hr.span (.inr (.inr (.inl rfl))))
  obtain ⟨a1,a2,a3,a4⟩:=partF_same t w b r.qty
  obtain ⟨b1,b2,b3,b4⟩:=partF_same t w (partF t w b r.qty).2 r.price
  clear ss1 sl1
  unfold rowF
  rw [if_pos (by omega)]
  unfold sideF
  rw [if_neg (by omega)]
  unfold layF
  simp only
  rw [if_neg (by omega),if_neg (by omega)]
  generalize partF t w (partF t w b r.qty).2 r.price=q2 at hp b1 b2 b3 b4 ⊢
  generalize partF t w b r.qty=q1 at hq hp a1 a2 a3 a4 b1 b2 b3 b4 ⊢
  obtain ⟨v1,s1,regs1,acts1,st1,steps1,err1⟩:=q1
  obtain ⟨v2,s2,regs2,acts2,st2,steps2,err2⟩:=q2
  simp only at hq hp a1 a2 a3 a4 b1 b2 b3 b4 ⊢
  subst a1;subst a2;subst a3;subst a4;subst b1;subst b2;subst b3;subst b4
  clear hr
  obtain ⟨rk,ro,ri,rs,rq,rp,rv⟩:=r
  simp only at hk hq hp ⊢;subst hk
  unfold bodD
  have hX:∀z∈gD iC 2 1 jr b.regs,z∈(gD iC 2 1 jr b.regs++gD Act.cs 127 6 ja b.acts):=fun z hz=>List.mem_append_left _ hz
  generalize hXe:(gD iC 2 1 jr b.regs++gD Act.cs 127 6 ja b.acts)=X at hX
  repeat first|(with_reducible first|refine za ?_|refine zb ?_|refine zc ?_)|refine ym zr ?_|refine yn 0 zr ?_|refine yn 1 zr ?_|(refine yo zr ?_;intro _)|(refine yp zr ?_;intro _)|refine yq zr ?_|(with_reducible first|refine ze ?_|refine zf ?_)|refine W.condT zr ?_|refine W.condF zr ?_
  refine W.fr2 ?_
  refine W.know fun hva hnd=>?_
  have hq:=hq (_::_::X) (fun z hz=>.tail _ (.tail _ (hX z hz))) (fun i hi=>hva i (List.mem_cons_of_mem _ hi)) (List.nodup_cons.1 hnd).2
  clear hva hnd
  refine W.callHe (Δ:=[_]) (R:=_::_::X) rfl rfl rfl rfl hq (by rintro v Δ' ⟨h,-⟩;cases h) ?_
  rintro v_ Δ_ ⟨h1_,rfl⟩
  injection h1_ with h1_;subst h1_
  clear hq
  repeat first|(with_reducible first|refine za ?_|refine zb ?_|refine zc ?_)|refine ym zr ?_|refine yn 2 zr ?_|refine ys zr ?_
  refine W.fr1 ?_
  refine W.know fun hva hnd=>?_
  have hp:=hp (_::_::X) (fun z hz=>.tail _ (.tail _ (hX z hz))) (fun i hi=>hva i (List.mem_cons_of_mem _ hi)) (List.nodup_cons.1 hnd).2
  clear hva hnd
  refine W.callHe (Δ:=[_]) (R:=_::_::X) rfl rfl rfl rfl hp (by rintro v Δ' ⟨h,-⟩;cases h) ?_
  rintro v_ Δ_ ⟨h1_,rfl⟩
  injection h1_ with h1_;subst h1_
  clear hp
  repeat first|with_reducible refine zc ?_|refine ym zr ?_|refine ys zr ?_
  refine W.drawL _ (i0:=k) (q:=9) (v:=(gS ja b.acts).v) 4 6 7 (by decide +kernel) tbl tblOk rfl rfl (slv_same' _ _) ?_ ?_ ?_
  · show W _ _ _ _ _ [.o false _ [_,_,_,_]] _ _ _ _
    repeat' first|with_reducible refine zc ?_|refine ym zr ?_|refine W.doneN zr ?_
    exact ⟨rfl,_,_,.tail _ (.head _),rfl,rfl⟩
  · intro j hj1 hj2
    obtain rfl|rfl:j=6∨j=7:=by omega
    · show W _ _ _ _ _ [.o false _ [_,_,_,_,_,_]] _ _ _ _
      repeat' first|with_reducible refine zc ?_|refine ym zr ?_|refine yn 0 zr ?_|refine yn 1 zr ?_|refine W.doneN zr ?_
      exact ⟨_,_,.tail _ (.head _),rfl,rfl⟩
    · show W _ _ _ _ _ [.o false _ [_,_,_,_,_,_,_]] _ _ _ _
      repeat' first|(refine W.bsl tblOk rfl rfl rfl rfl (by decide) rfl rfl rfl ?_;intro is)|with_reducible refine zc ?_|refine ym zr ?_|refine yn 0 zr ?_|refine yn 1 zr ?_|refine W.doneN zr ?_
      exact ⟨_,_,.tail _ (.tail _ (.head _)),rfl,rfl⟩
  repeat first|(refine W.bsl tblOk rfl rfl rfl rfl (by decide) rfl rfl rfl ?_;intro is)|refine ym zr ?_|refine yn 0 zr ?_|refine yn 1 zr ?_
  subst hXe
  refine W.perm ((_::_::_::_::gD iC 2 1 jr b.regs)++(gD Act.cs 127 6 ja b.acts++[])) (by rw [List.append_nil];exact List.Perm.refl _) ?_
  refine W.appG (i:=ja) (l:=b.acts) (m:=[(⟨2,0,0,v2,v1,ri⟩:Act)]) (enc:=Act.cs) (_::_::_::_::gD iC 2 1 jr b.regs) tblOk rfl rfl rfl rfl rfl rfl rfl (by decide) (by simp only [List.length_singleton];omega) (fun _=>rfl) (src_own (p:=0) rfl rfl rfl) (fun h=>by cases h) rfl rfl rfl fun ja'=>?_
  repeat first|with_reducible refine zc ?_|refine ym zr ?_|refine yu zr ?_
  refine W.dropE (_::(gD iC 2 1 jr b.regs++(gD Act.cs 127 6 ja' (b.acts++[(⟨2,0,0,v2,v1,ri⟩:Act)])++[]))) (.cons_cons _ (.cons _ (.cons _ (.cons _ (List.Sublist.refl _))))) ?_
  repeat' first|refine W.doneN zr ?_
  exact ⟨rfl,ja',by rw [List.append_nil];rfl⟩
theorem row3_c (B:BodG g) {t:Table} (ht:t.Ok V) (hck:checkS t=none) {kt:K} (hkt:V kt=some [.str t.name,t.regs.v,.int .i64 t.slots,t.consts.v,t.code.v,t.states.v]) {w:Snap} (hw:w.Ok) (k jr ja:K) (b:Bod)
    (hb:BodOk t b) (hst:0≤b.steps∧b.steps≤999000000) (hal:b.acts.length≤1000000) {r:Row} (hr:RowOk t r) (hk:r.k=3) :
    Cl Tryz.prog g V 124 [.ptr (some (k,0)),r.v] (bodD k kt w jr ja b) fun o Δ=>o=.ret (.tup [])∧∃ja',Δ=bodD k kt w jr ja' (rowF t w b r):=by
  refine Cl.enter B.row Tryz.func124 rfl ?_
  have hq:=partL_c B ht hck hkt hw k jr ja b hb ⟨hst.1,by omega⟩ r.qty (hr.span (.inr (.inl rfl)))
  have ss1:=part_steps hck w b (hr.span (.inr (.inl rfl)))
  have sl1:=lenT_le hck (hr.span (.inr (.inl rfl)))
  have hp:=partL_c B ht hck hkt hw k jr ja (partF t w b r.qty).2 (part_ok hb r.qty) ⟨by omega,by omega⟩ r.price (hr.span (.inr (.inr (.inl rfl))))
  obtain ⟨a1,a2,a3,a4⟩:=partF_same t w b r.qty
  obtain ⟨b1,b2,b3,b4⟩:=partF_same t w (partF t w b r.qty).2 r.price
  clear ss1 sl1
  unfold rowF
  rw [if_pos (by omega)]
  unfold sideF
  rw [if_neg (by omega)]
  unfold layF
  simp only
  rw [if_neg (by omega),if_neg (by omega)]
  generalize partF t w (partF t w b r.qty).2 r.price=q2 at hp b1 b2 b3 b4 ⊢
  generalize partF t w b r.qty=q1 at hq hp a1 a2 a3 a4 b1 b2 b3 b4 ⊢
  obtain ⟨v1,s1,regs1,acts1,st1,steps1,err1⟩:=q1
  obtain ⟨v2,s2,regs2,acts2,st2,steps2,err2⟩:=q2
  simp only at hq hp a1 a2 a3 a4 b1 b2 b3 b4 ⊢
  subst a1;subst a2;subst a3;subst a4;subst b1;subst b2;subst b3;subst b4
  clear hr
  obtain ⟨rk,ro,ri,rs,rq,rp,rv⟩:=r
  simp only at hk hq hp ⊢;subst hk
  unfold bodD
  have hX:∀z∈gD iC 2 1 jr b.regs,z∈(gD iC 2 1 jr b.regs++gD Act.cs 127 6 ja b.acts):=fun z hz=>List.mem_append_left _ hz
  generalize hXe:(gD iC 2 1 jr b.regs++gD Act.cs 127 6 ja b.acts)=X at hX
  repeat first|(with_reducible first|refine za ?_|refine zb ?_|refine zc ?_)|refine ym zr ?_|refine yn 0 zr ?_|refine yn 1 zr ?_|(refine yo zr ?_;intro _)|(refine yp zr ?_;intro _)|refine yq zr ?_|(with_reducible first|refine ze ?_|refine zf ?_)|refine W.condT zr ?_|refine W.condF zr ?_
  refine W.fr2 ?_
  refine W.know fun hva hnd=>?_
  have hq:=hq (_::_::X) (fun z hz=>.tail _ (.tail _ (hX z hz))) (fun i hi=>hva i (List.mem_cons_of_mem _ hi)) (List.nodup_cons.1 hnd).2
  clear hva hnd
  refine W.callHe (Δ:=[_]) (R:=_::_::X) rfl rfl rfl rfl hq (by rintro v Δ' ⟨h,-⟩;cases h) ?_
  rintro v_ Δ_ ⟨h1_,rfl⟩
  injection h1_ with h1_;subst h1_
  clear hq
  repeat first|(with_reducible first|refine za ?_|refine zb ?_|refine zc ?_)|refine ym zr ?_|refine yn 2 zr ?_|refine ys zr ?_
  refine W.fr1 ?_
  refine W.know fun hva hnd=>?_
  have hp:=hp (_::_::X) (fun z hz=>.tail _ (.tail _ (hX z hz))) (fun i hi=>hva i (List.mem_cons_of_mem _ hi)) (List.nodup_cons.1 hnd).2
  clear hva hnd
  refine W.callHe (Δ:=[_]) (R:=_::_::X) rfl rfl rfl rfl hp (by rintro v Δ' ⟨h,-⟩;cases h) ?_
  rintro v_ Δ_ ⟨h1_,rfl⟩
  injection h1_ with h1_;subst h1_
  clear hp
  repeat first|with_reducible refine zc ?_|refine ym zr ?_|refine ys zr ?_
  refine W.drawL _ (i0:=k) (q:=9) (v:=(gS ja b.acts).v) 4 6 7 (by decide +kernel) tbl tblOk rfl rfl (slv_same' _ _) ?_ ?_ ?_
  · show W _ _ _ _ _ [.o false _ [_,_,_,_]] _ _ _ _
    repeat' first|with_reducible refine zc ?_|refine ym zr ?_|refine W.doneN zr ?_
    exact ⟨rfl,_,_,.tail _ (.head _),rfl,rfl⟩
  · intro j hj1 hj2
    obtain rfl|rfl:j=6∨j=7:=by omega
    · show W _ _ _ _ _ [.o false _ [_,_,_,_,_,_]] _ _ _ _
      repeat' first|with_reducible refine zc ?_|refine ym zr ?_|refine yn 0 zr ?_|refine yn 1 zr ?_|refine W.doneN zr ?_
      exact ⟨_,_,.tail _ (.head _),rfl,rfl⟩
    · show W _ _ _ _ _ [.o false _ [_,_,_,_,_,_,_]] _ _ _ _
      repeat' first|(refine W.bsl tblOk rfl rfl rfl rfl (by decide) rfl rfl rfl ?_;intro is)|with_reducible refine zc ?_|refine ym zr ?_|refine yn 0 zr ?_|refine yn 1 zr ?_|refine W.doneN zr ?_
      exact ⟨_,_,.tail _ (.tail _ (.head _)),rfl,rfl⟩
  repeat first|(refine W.bsl tblOk rfl rfl rfl rfl (by decide) rfl rfl rfl ?_;intro is)|refine ym zr ?_|refine yn 0 zr ?_|refine yn 1 zr ?_
  subst hXe
  refine W.perm ((_::_::_::_::gD iC 2 1 jr b.regs)++(gD Act.cs 127 6 ja b.acts++[])) (by rw [List.append_nil];exact List.Perm.refl _) ?_
  refine W.appG (i:=ja) (l:=b.acts) (m:=[(⟨3,0,0,v2,v1,ri⟩:Act)]) (enc:=Act.cs) (_::_::_::_::gD iC 2 1 jr b.regs) tblOk rfl rfl rfl rfl rfl rfl rfl (by decide) (by simp only [List.length_singleton];omega) (fun _=>rfl) (src_own (p:=0) rfl rfl rfl) (fun h=>by cases h) rfl rfl rfl fun ja'=>?_
  repeat first|with_reducible refine zc ?_|refine ym zr ?_|refine yu zr ?_
  refine W.dropE (_::(gD iC 2 1 jr b.regs++(gD Act.cs 127 6 ja' (b.acts++[(⟨3,0,0,v2,v1,ri⟩:Act)])++[]))) (.cons_cons _ (.cons _ (.cons _ (.cons _ (List.Sublist.refl _))))) ?_
  repeat' first|refine W.doneN zr ?_
  exact ⟨rfl,ja',by rw [List.append_nil];rfl⟩
theorem sideF_is (t:Table) (w:Snap) (b:Bod) {r:Row} (hk:r.k=1):∃e',sideF t w b r=((partF t w b r.side).1,⟨b.s,b.regs,b.acts,b.st,(partF t w b r.side).2.steps,e'⟩) ∧
    ((e'=201∧(partF t w b r.side).2.err=0∧(partF t w b r.side).1≠1∧(partF t w b r.side).1≠2)∨(e'=(partF t w b r.side).2.err∧((partF t w b r.side).2.err≠0∨((partF t w b r.side).2.err=0∧(partF t w b r.side).1=1)∨((partF t w b r.side).2.err=0∧(partF t w b r.side).1=2)))):=by
  obtain ⟨a1,a2,a3,a4⟩:=partF_same t w b r.side
  unfold sideF
  rw [if_pos hk]
  generalize partF t w b r.side=q at a1 a2 a3 a4 ⊢
  obtain ⟨v,s',regs',acts',st',steps',err'⟩:=q
  simp only at a1 a2 a3 a4 ⊢
  subst a1;subst a2;subst a3;subst a4
  by_cases h:err'=0∧v≠1∧v≠2
  · rw [if_pos h]
    exact ⟨201,rfl,.inl ⟨rfl,h⟩⟩
  · rw [if_neg h]
    refine ⟨err',rfl,.inr ⟨rfl,?_⟩⟩
    omega
theorem row1_c (B:BodG g) {t:Table} (ht:t.Ok V) (hck:checkS t=none) {kt:K} (hkt:V kt=some [.str t.name,t.regs.v,.int .i64 t.slots,t.consts.v,t.code.v,t.states.v]) {w:Snap} (hw:w.Ok) (k jr ja:K) (b:Bod)
    (hb:BodOk t b) (hst:0≤b.steps∧b.steps≤999000000) (hal:b.acts.length≤1000000) {r:Row} (hr:RowOk t r) (hk:r.k=1) :
    Cl Tryz.prog g V 124 [.ptr (some (k,0)),r.v] (bodD k kt w jr ja b) fun o Δ=>o=.ret (.tup [])∧∃ja',Δ=bodD k kt w jr ja' (rowF t w b r):=by
  refine Cl.enter B.row Tryz.func124 rfl ?_
  have hs:=partL_c B ht hck hkt hw k jr ja b hb ⟨hst.1,by omega⟩ r.side (hr.span (.inl rfl))
  have ss0:=side_steps hck w b hr
  have sl0:=lenT_le hck (hr.span (.inl rfl))
  have hq:=partL_c B ht hck hkt hw k jr ja (sideF t w b r).2 (side_ok hb r) ⟨by omega,by omega⟩ r.qty (hr.span (.inr (.inl rfl)))
  have ss1:=part_steps hck w (sideF t w b r).2 (hr.span (.inr (.inl rfl)))
  have sl1:=lenT_le hck (hr.span (.inr (.inl rfl)))
  have hp:=partL_c B ht hck hkt hw k jr ja (partF t w (sideF t w b r).2 r.qty).2 (part_ok (side_ok hb r) r.qty) ⟨by omega,by omega⟩ r.price (hr.span (.inr (.inr (.inl rfl))))
  obtain ⟨a1,a2,a3,a4⟩:=partF_same t w (sideF t w b r).2 r.qty
  obtain ⟨b1,b2,b3,b4⟩:=partF_same t w (partF t w (sideF t w b r).2 r.qty).2 r.price
  obtain ⟨c1,c2,c3,c4⟩:=partF_same t w b r.side
  obtain ⟨e',hsd,hcase⟩:=sideF_is t w b hk
  clear ss0 sl0 ss1 sl1
  unfold rowF
  rw [if_pos (by omega)]
  unfold layF
  simp only
  rw [if_pos hk,if_pos hk]
  rw [hsd] at hq hp a1 a2 a3 a4 b1 b2 b3 b4 ⊢
  clear hsd
  simp only at hq hp a1 a2 a3 a4 b1 b2 b3 b4 ⊢
  generalize partF t w b r.side=q0 at hs hq hp a1 a2 a3 a4 b1 b2 b3 b4 c1 c2 c3 c4 hcase ⊢
  obtain ⟨v0,s0,regs0,acts0,st0,steps0,err0⟩:=q0
  simp only at hs hq hp a1 a2 a3 a4 b1 b2 b3 b4 c1 c2 c3 c4 hcase ⊢
  subst c1;subst c2;subst c3;subst c4
  generalize partF t w (partF t w ⟨b.s,b.regs,b.acts,b.st,steps0,e'⟩ r.qty).2 r.price=q2 at hp b1 b2 b3 b4 ⊢
  generalize partF t w ⟨b.s,b.regs,b.acts,b.st,steps0,e'⟩ r.qty=q1 at hq hp a1 a2 a3 a4 b1 b2 b3 b4 ⊢
  obtain ⟨v1,s1,regs1,acts1,st1,steps1,err1⟩:=q1
  obtain ⟨v2,s2,regs2,acts2,st2,steps2,err2⟩:=q2
  simp only at hq hp a1 a2 a3 a4 b1 b2 b3 b4 ⊢
  subst a1;subst a2;subst a3;subst a4;subst b1;subst b2;subst b3;subst b4
  clear hr
  obtain ⟨rk,ro,ri,rs,rq,rp,rv⟩:=r
  simp only at hk hs hq hp ⊢;subst hk
  unfold bodD
  have hX:∀z∈gD iC 2 1 jr b.regs,z∈(gD iC 2 1 jr b.regs++gD Act.cs 127 6 ja b.acts):=fun z hz=>List.mem_append_left _ hz
  generalize hXe:(gD iC 2 1 jr b.regs++gD Act.cs 127 6 ja b.acts)=X at hX
  repeat first|(with_reducible first|refine za ?_|refine zb ?_|refine zc ?_)|refine ym zr ?_|refine yn 0 zr ?_|refine yn 1 zr ?_|(refine yo zr ?_;intro _)|(refine yp zr ?_;intro _)|refine yq zr ?_|with_reducible refine ze ?_|refine W.condT zr ?_
  refine W.fr2 ?_
  refine W.know fun hva hnd=>?_
  have hs:=hs (_::_::X) (fun z hz=>.tail _ (.tail _ (hX z hz))) (fun i hi=>hva i (List.mem_cons_of_mem _ hi)) (List.nodup_cons.1 hnd).2
  clear hva hnd
  refine W.callHe (Δ:=[_]) (R:=_::_::X) rfl rfl rfl rfl hs (by rintro v Δ' ⟨h,-⟩;cases h) ?_
  rintro v_ Δ_ ⟨h1_,rfl⟩
  injection h1_ with h1_;subst h1_
  clear hs
  repeat first|(with_reducible first|refine za ?_|refine zb ?_|refine zc ?_)|refine ym zr ?_|refine yn 0 zr ?_
  rename_i ib ia
  rcases hcase with ⟨rfl,rfl,n1,n2⟩|⟨rfl,hc|⟨rfl,rfl⟩|⟨rfl,rfl⟩⟩
  · skip
    repeat first|(refine W.gs rfl rfl rfl rfl ?_ (fun h=>absurd rfl h);intro _)|(refine W.gs rfl rfl rfl rfl ?_ (fun h=>absurd n1 h);intro _)|with_reducible refine zc ?_|refine ym zr ?_
    refine W.condP rfl (fun _=>?_) (fun h=>absurd n2 h)
    repeat first|(with_reducible first|refine zb ?_|refine zc ?_)|refine ym zr ?_|refine yq zr ?_
    refine W.drawL _ (i0:=ib) (q:=1) (v:=.int .u8 ro) 1 5 6 (by decide +kernel) tbl tblOk rfl rfl (by simp [sameA]) ?_ ?_ ?_
    · show W _ _ _ _ _ [.o false _ [_]] _ _ _ _
      repeat' first|with_reducible refine zc ?_|refine ym zr ?_|refine W.doneN zr ?_
      exact ⟨rfl,_,_,.tail _ (.tail _ (.head _)),rfl,rfl⟩
    · intro j hj1 hj2
      obtain rfl|rfl:j=5∨j=6:=by omega
      · show W _ _ _ _ _ [.o false _ [_,_,_,_,_]] _ _ _ _
        repeat' first|with_reducible refine zc ?_|refine ym zr ?_|refine yn 2 zr ?_|refine W.doneN zr ?_
        exact ⟨_,_,.tail _ (.tail _ (.head _)),rfl,rfl⟩
      · show W _ _ _ _ _ [.o false _ [_,_,_,_,_,_]] _ _ _ _
        repeat' first|with_reducible refine zc ?_|refine ym zr ?_|refine yn 2 zr ?_|refine ys zr ?_|refine W.doneN zr ?_
        exact ⟨_,_,.tail _ (.tail _ (.head _)),rfl,rfl⟩
    repeat first|(with_reducible first|refine za ?_|refine zb ?_|refine zc ?_)|refine ym zr ?_|refine yn 2 zr ?_|refine yq zr ?_|refine ys zr ?_|with_reducible refine zf ?_
    refine W.fr1 ?_
    refine W.know fun hva hnd=>?_
    have hq:=hq (_::_::X) (fun z hz=>.tail _ (.tail _ (hX z hz))) (fun i hi=>hva i (List.mem_cons_of_mem _ hi)) (List.nodup_cons.1 hnd).2
    clear hva hnd
    refine W.callHe (Δ:=[_]) (R:=_::_::X) rfl rfl rfl rfl hq (by rintro v Δ' ⟨h,-⟩;cases h) ?_
    rintro v_ Δ_ ⟨h1_,rfl⟩
    injection h1_ with h1_;subst h1_
    clear hq
    repeat first|(with_reducible first|refine za ?_|refine zb ?_|refine zc ?_)|refine ym zr ?_|refine yn 2 zr ?_|refine ys zr ?_
    refine W.fr1 ?_
    refine W.know fun hva hnd=>?_
    have hp:=hp (_::_::X) (fun z hz=>.tail _ (.tail _ (hX z hz))) (fun i hi=>hva i (List.mem_cons_of_mem _ hi)) (List.nodup_cons.1 hnd).2
    clear hva hnd
    refine W.callHe (Δ:=[_]) (R:=_::_::X) rfl rfl rfl rfl hp (by rintro v Δ' ⟨h,-⟩;cases h) ?_
    rintro v_ Δ_ ⟨h1_,rfl⟩
    injection h1_ with h1_;subst h1_
    clear hp
    repeat first|with_reducible refine zc ?_|refine ym zr ?_|refine ys zr ?_
    refine W.drawL _ (i0:=k) (q:=9) (v:=(gS ja b.acts).v) 4 6 7 (by decide +kernel) tbl tblOk rfl rfl (slv_same' _ _) ?_ ?_ ?_
    · show W _ _ _ _ _ [.o false _ [_,_,_,_]] _ _ _ _
      repeat' first|with_reducible refine zc ?_|refine ym zr ?_|refine W.doneN zr ?_
      exact ⟨rfl,_,_,.tail _ (.head _),rfl,rfl⟩
    · intro j hj1 hj2
      obtain rfl|rfl:j=6∨j=7:=by omega
      · show W _ _ _ _ _ [.o false _ [_,_,_,_,_,_]] _ _ _ _
        repeat' first|with_reducible refine zc ?_|refine ym zr ?_|refine yn 0 zr ?_|refine yn 1 zr ?_|refine W.doneN zr ?_
        exact ⟨_,_,.tail _ (.head _),rfl,rfl⟩
      · show W _ _ _ _ _ [.o false _ [_,_,_,_,_,_,_]] _ _ _ _
        repeat' first|(refine W.bsl tblOk rfl rfl rfl rfl (by decide) rfl rfl rfl ?_;intro is)|with_reducible refine zc ?_|refine ym zr ?_|refine yn 0 zr ?_|refine yn 1 zr ?_|refine W.doneN zr ?_
        exact ⟨_,_,.tail _ (.tail _ (.head _)),rfl,rfl⟩
    repeat first|(refine W.bsl tblOk rfl rfl rfl rfl (by decide) rfl rfl rfl ?_;intro is)|refine ym zr ?_|refine yn 0 zr ?_|refine yn 1 zr ?_
    subst hXe
    refine W.perm ((_::_::_::_::gD iC 2 1 jr b.regs)++(gD Act.cs 127 6 ja b.acts++[])) (by rw [List.append_nil];exact List.Perm.refl _) ?_
    refine W.appG (i:=ja) (l:=b.acts) (m:=[(⟨1,ro,IntKind.u8.wrap v0,v2,v1,ri⟩:Act)]) (enc:=Act.cs) (_::_::_::_::gD iC 2 1 jr b.regs) tblOk rfl rfl rfl rfl rfl rfl rfl (by decide) (by simp only [List.length_singleton];omega) (fun _=>rfl) (src_own (p:=0) rfl rfl rfl) (fun h=>by cases h) rfl rfl rfl fun ja'=>?_
    repeat first|with_reducible refine zc ?_|refine ym zr ?_|refine yu zr ?_
    refine W.dropE (_::(gD iC 2 1 jr b.regs++(gD Act.cs 127 6 ja' (b.acts++[(⟨1,ro,IntKind.u8.wrap v0,v2,v1,ri⟩:Act)])++[]))) (.cons_cons _ (.cons _ (.cons _ (.cons _ (List.Sublist.refl _))))) ?_
    repeat' first|refine W.doneN zr ?_
    exact ⟨rfl,ja',by rw [List.append_nil];rfl⟩
  · skip
    repeat first|(refine W.gs rfl rfl rfl rfl (fun h=>absurd h hc) ?_;intro _)|with_reducible refine zc ?_|refine ym zr ?_|with_reducible refine zd ?_|refine zx zr zr zr ?_|refine W.condF zr ?_
    refine W.drawL _ (i0:=ib) (q:=1) (v:=.int .u8 ro) 1 5 6 (by decide +kernel) tbl tblOk rfl rfl (by simp [sameA]) ?_ ?_ ?_
    · show W _ _ _ _ _ [.o false _ [_]] _ _ _ _
      repeat' first|with_reducible refine zc ?_|refine ym zr ?_|refine W.doneN zr ?_
      exact ⟨rfl,_,_,.tail _ (.tail _ (.head _)),rfl,rfl⟩
    · intro j hj1 hj2
      obtain rfl|rfl:j=5∨j=6:=by omega
      · show W _ _ _ _ _ [.o false _ [_,_,_,_,_]] _ _ _ _
        repeat' first|with_reducible refine zc ?_|refine ym zr ?_|refine yn 2 zr ?_|refine W.doneN zr ?_
        exact ⟨_,_,.tail _ (.tail _ (.head _)),rfl,rfl⟩
      · show W _ _ _ _ _ [.o false _ [_,_,_,_,_,_]] _ _ _ _
        repeat' first|with_reducible refine zc ?_|refine ym zr ?_|refine yn 2 zr ?_|refine ys zr ?_|refine W.doneN zr ?_
        exact ⟨_,_,.tail _ (.tail _ (.head _)),rfl,rfl⟩
    repeat first|(with_reducible first|refine za ?_|refine zb ?_|refine zc ?_)|refine ym zr ?_|refine yn 2 zr ?_|refine yq zr ?_|refine ys zr ?_|with_reducible refine zf ?_
    refine W.fr1 ?_
    refine W.know fun hva hnd=>?_
    have hq:=hq (_::_::X) (fun z hz=>.tail _ (.tail _ (hX z hz))) (fun i hi=>hva i (List.mem_cons_of_mem _ hi)) (List.nodup_cons.1 hnd).2
    clear hva hnd
    refine W.callHe (Δ:=[_]) (R:=_::_::X) rfl rfl rfl rfl hq (by rintro v Δ' ⟨h,-⟩;cases h) ?_
    rintro v_ Δ_ ⟨h1_,rfl⟩
    injection h1_ with h1_;subst h1_
    clear hq
    repeat first|(with_reducible first|refine za ?_|refine zb ?_|refine zc ?_)|refine ym zr ?_|refine yn 2 zr ?_|refine ys zr ?_
    refine W.fr1 ?_
    refine W.know fun hva hnd=>?_
    have hp:=hp (_::_::X) (fun z hz=>.tail _ (.tail _ (hX z hz))) (fun i hi=>hva i (List.mem_cons_of_mem _ hi)) (List.nodup_cons.1 hnd).2
    clear hva hnd
    refine W.callHe (Δ:=[_]) (R:=_::_::X) rfl rfl rfl rfl hp (by rintro v Δ' ⟨h,-⟩;cases h) ?_
    rintro v_ Δ_ ⟨h1_,rfl⟩
    injection h1_ with h1_;subst h1_
    clear hp
    repeat first|with_reducible refine zc ?_|refine ym zr ?_|refine ys zr ?_
    refine W.drawL _ (i0:=k) (q:=9) (v:=(gS ja b.acts).v) 4 6 7 (by decide +kernel) tbl tblOk rfl rfl (slv_same' _ _) ?_ ?_ ?_
    · show W _ _ _ _ _ [.o false _ [_,_,_,_]] _ _ _ _
      repeat' first|with_reducible refine zc ?_|refine ym zr ?_|refine W.doneN zr ?_
      exact ⟨rfl,_,_,.tail _ (.head _),rfl,rfl⟩
    · intro j hj1 hj2
      obtain rfl|rfl:j=6∨j=7:=by omega
      · show W _ _ _ _ _ [.o false _ [_,_,_,_,_,_]] _ _ _ _
        repeat' first|with_reducible refine zc ?_|refine ym zr ?_|refine yn 0 zr ?_|refine yn 1 zr ?_|refine W.doneN zr ?_
        exact ⟨_,_,.tail _ (.head _),rfl,rfl⟩
      · show W _ _ _ _ _ [.o false _ [_,_,_,_,_,_,_]] _ _ _ _
        repeat' first|(refine W.bsl tblOk rfl rfl rfl rfl (by decide) rfl rfl rfl ?_;intro is)|with_reducible refine zc ?_|refine ym zr ?_|refine yn 0 zr ?_|refine yn 1 zr ?_|refine W.doneN zr ?_
        exact ⟨_,_,.tail _ (.tail _ (.head _)),rfl,rfl⟩
    repeat first|(refine W.bsl tblOk rfl rfl rfl rfl (by decide) rfl rfl rfl ?_;intro is)|refine ym zr ?_|refine yn 0 zr ?_|refine yn 1 zr ?_
    subst hXe
    refine W.perm ((_::_::_::_::gD iC 2 1 jr b.regs)++(gD Act.cs 127 6 ja b.acts++[])) (by rw [List.append_nil];exact List.Perm.refl _) ?_
    refine W.appG (i:=ja) (l:=b.acts) (m:=[(⟨1,ro,IntKind.u8.wrap v0,v2,v1,ri⟩:Act)]) (enc:=Act.cs) (_::_::_::_::gD iC 2 1 jr b.regs) tblOk rfl rfl rfl rfl rfl rfl rfl (by decide) (by simp only [List.length_singleton];omega) (fun _=>rfl) (src_own (p:=0) rfl rfl rfl) (fun h=>by cases h) rfl rfl rfl fun ja'=>?_
    repeat first|with_reducible refine zc ?_|refine ym zr ?_|refine yu zr ?_
    refine W.dropE (_::(gD iC 2 1 jr b.regs++(gD Act.cs 127 6 ja' (b.acts++[(⟨1,ro,IntKind.u8.wrap v0,v2,v1,ri⟩:Act)])++[]))) (.cons_cons _ (.cons _ (.cons _ (.cons _ (List.Sublist.refl _))))) ?_
    repeat' first|refine W.doneN zr ?_
    exact ⟨rfl,ja',by rw [List.append_nil];rfl⟩
  · skip
    repeat first|(refine W.gs rfl rfl rfl rfl ?_ (fun h=>absurd rfl h);intro _)|(refine W.gs rfl rfl rfl rfl (fun h=>absurd rfl h) ?_;intro _)|with_reducible refine zc ?_|refine ym zr ?_|with_reducible refine zd ?_|refine zx zr zr zr ?_|refine W.condF zr ?_
    refine W.drawL _ (i0:=ib) (q:=1) (v:=.int .u8 ro) 1 5 6 (by decide +kernel) tbl tblOk rfl rfl (by simp [sameA]) ?_ ?_ ?_
    · show W _ _ _ _ _ [.o false _ [_]] _ _ _ _
      repeat' first|with_reducible refine zc ?_|refine ym zr ?_|refine W.doneN zr ?_
      exact ⟨rfl,_,_,.tail _ (.tail _ (.head _)),rfl,rfl⟩
    · intro j hj1 hj2
      obtain rfl|rfl:j=5∨j=6:=by omega
      · show W _ _ _ _ _ [.o false _ [_,_,_,_,_]] _ _ _ _
        repeat' first|with_reducible refine zc ?_|refine ym zr ?_|refine yn 2 zr ?_|refine W.doneN zr ?_
        exact ⟨_,_,.tail _ (.tail _ (.head _)),rfl,rfl⟩
      · show W _ _ _ _ _ [.o false _ [_,_,_,_,_,_]] _ _ _ _
        repeat' first|with_reducible refine zc ?_|refine ym zr ?_|refine yn 2 zr ?_|refine ys zr ?_|refine W.doneN zr ?_
        exact ⟨_,_,.tail _ (.tail _ (.head _)),rfl,rfl⟩
    repeat first|(with_reducible first|refine za ?_|refine zb ?_|refine zc ?_)|refine ym zr ?_|refine yn 2 zr ?_|refine yq zr ?_|refine ys zr ?_|with_reducible refine zf ?_
    refine W.fr1 ?_
    refine W.know fun hva hnd=>?_
    have hq:=hq (_::_::X) (fun z hz=>.tail _ (.tail _ (hX z hz))) (fun i hi=>hva i (List.mem_cons_of_mem _ hi)) (List.nodup_cons.1 hnd).2
    clear hva hnd
    refine W.callHe (Δ:=[_]) (R:=_::_::X) rfl rfl rfl rfl hq (by rintro v Δ' ⟨h,-⟩;cases h) ?_
    rintro v_ Δ_ ⟨h1_,rfl⟩
    injection h1_ with h1_;subst h1_
    clear hq
    repeat first|(with_reducible first|refine za ?_|refine zb ?_|refine zc ?_)|refine ym zr ?_|refine yn 2 zr ?_|refine ys zr ?_
    refine W.fr1 ?_
    refine W.know fun hva hnd=>?_
    have hp:=hp (_::_::X) (fun z hz=>.tail _ (.tail _ (hX z hz))) (fun i hi=>hva i (List.mem_cons_of_mem _ hi)) (List.nodup_cons.1 hnd).2
    clear hva hnd
    refine W.callHe (Δ:=[_]) (R:=_::_::X) rfl rfl rfl rfl hp (by rintro v Δ' ⟨h,-⟩;cases h) ?_
    rintro v_ Δ_ ⟨h1_,rfl⟩
    injection h1_ with h1_;subst h1_
    clear hp
    repeat first|with_reducible refine zc ?_|refine ym zr ?_|refine ys zr ?_
    refine W.drawL _ (i0:=k) (q:=9) (v:=(gS ja b.acts).v) 4 6 7 (by decide +kernel) tbl tblOk rfl rfl (slv_same' _ _) ?_ ?_ ?_
    · show W _ _ _ _ _ [.o false _ [_,_,_,_]] _ _ _ _
      repeat' first|with_reducible refine zc ?_|refine ym zr ?_|refine W.doneN zr ?_
      exact ⟨rfl,_,_,.tail _ (.head _),rfl,rfl⟩
    · intro j hj1 hj2
      obtain rfl|rfl:j=6∨j=7:=by omega
      · show W _ _ _ _ _ [.o false _ [_,_,_,_,_,_]] _ _ _ _
        repeat' first|with_reducible refine zc ?_|refine ym zr ?_|refine yn 0 zr ?_|refine yn 1 zr ?_|refine W.doneN zr ?_
        exact ⟨_,_,.tail _ (.head _),rfl,rfl⟩
      · show W _ _ _ _ _ [.o false _ [_,_,_,_,_,_,_]] _ _ _ _
        repeat' first|(refine W.bsl tblOk rfl rfl rfl rfl (by decide) rfl rfl rfl ?_;intro is)|with_reducible refine zc ?_|refine ym zr ?_|refine yn 0 zr ?_|refine yn 1 zr ?_|refine W.doneN zr ?_
        exact ⟨_,_,.tail _ (.tail _ (.head _)),rfl,rfl⟩
    repeat first|(refine W.bsl tblOk rfl rfl rfl rfl (by decide) rfl rfl rfl ?_;intro is)|refine ym zr ?_|refine yn 0 zr ?_|refine yn 1 zr ?_
    subst hXe
    refine W.perm ((_::_::_::_::gD iC 2 1 jr b.regs)++(gD Act.cs 127 6 ja b.acts++[])) (by rw [List.append_nil];exact List.Perm.refl _) ?_
    refine W.appG (i:=ja) (l:=b.acts) (m:=[(⟨1,ro,IntKind.u8.wrap 1,v2,v1,ri⟩:Act)]) (enc:=Act.cs) (_::_::_::_::gD iC 2 1 jr b.regs) tblOk rfl rfl rfl rfl rfl rfl rfl (by decide) (by simp only [List.length_singleton];omega) (fun _=>rfl) (src_own (p:=0) rfl rfl rfl) (fun h=>by cases h) rfl rfl rfl fun ja'=>?_
    repeat first|with_reducible refine zc ?_|refine ym zr ?_|refine yu zr ?_
    refine W.dropE (_::(gD iC 2 1 jr b.regs++(gD Act.cs 127 6 ja' (b.acts++[(⟨1,ro,IntKind.u8.wrap 1,v2,v1,ri⟩:Act)])++[]))) (.cons_cons _ (.cons _ (.cons _ (.cons _ (List.Sublist.refl _))))) ?_
    repeat' first|refine W.doneN zr ?_
    exact ⟨rfl,ja',by rw [List.append_nil];rfl⟩
  · skip
    repeat first|(refine W.gs rfl rfl rfl rfl ?_ (fun h=>absurd rfl h);intro _)|(refine W.gs rfl rfl rfl rfl ?_ (fun h=>absurd (by decide) h);intro _)|with_reducible refine zc ?_|refine ym zr ?_|with_reducible refine zd ?_|refine W.condF zr ?_
    refine W.drawL _ (i0:=ib) (q:=1) (v:=.int .u8 ro) 1 5 6 (by decide +kernel) tbl tblOk rfl rfl (by simp [sameA]) ?_ ?_ ?_
    · show W _ _ _ _ _ [.o false _ [_]] _ _ _ _
      repeat' first|with_reducible refine zc ?_|refine ym zr ?_|refine W.doneN zr ?_
      exact ⟨rfl,_,_,.tail _ (.tail _ (.head _)),rfl,rfl⟩
    · intro j hj1 hj2
      obtain rfl|rfl:j=5∨j=6:=by omega
      · show W _ _ _ _ _ [.o false _ [_,_,_,_,_]] _ _ _ _
        repeat' first|with_reducible refine zc ?_|refine ym zr ?_|refine yn 2 zr ?_|refine W.doneN zr ?_
        exact ⟨_,_,.tail _ (.tail _ (.head _)),rfl,rfl⟩
      · show W _ _ _ _ _ [.o false _ [_,_,_,_,_,_]] _ _ _ _
        repeat' first|with_reducible refine zc ?_|refine ym zr ?_|refine yn 2 zr ?_|refine ys zr ?_|refine W.doneN zr ?_
        exact ⟨_,_,.tail _ (.tail _ (.head _)),rfl,rfl⟩
    repeat first|(with_reducible first|refine za ?_|refine zb ?_|refine zc ?_)|refine ym zr ?_|refine yn 2 zr ?_|refine yq zr ?_|refine ys zr ?_|with_reducible refine zf ?_
    refine W.fr1 ?_
    refine W.know fun hva hnd=>?_
    have hq:=hq (_::_::X) (fun z hz=>.tail _ (.tail _ (hX z hz))) (fun i hi=>hva i (List.mem_cons_of_mem _ hi)) (List.nodup_cons.1 hnd).2
    clear hva hnd
    refine W.callHe (Δ:=[_]) (R:=_::_::X) rfl rfl rfl rfl hq (by rintro v Δ' ⟨h,-⟩;cases h) ?_
    rintro v_ Δ_ ⟨h1_,rfl⟩
    injection h1_ with h1_;subst h1_
    clear hq
    repeat first|(with_reducible first|refine za ?_|refine zb ?_|refine zc ?_)|refine ym zr ?_|refine yn 2 zr ?_|refine ys zr ?_
    refine W.fr1 ?_
    refine W.know fun hva hnd=>?_
    have hp:=hp (_::_::X) (fun z hz=>.tail _ (.tail _ (hX z hz))) (fun i hi=>hva i (List.mem_cons_of_mem _ hi)) (List.nodup_cons.1 hnd).2
    clear hva hnd
    refine W.callHe (Δ:=[_]) (R:=_::_::X) rfl rfl rfl rfl hp (by rintro v Δ' ⟨h,-⟩;cases h) ?_
    rintro v_ Δ_ ⟨h1_,rfl⟩
    injection h1_ with h1_;subst h1_
    clear hp
    repeat first|with_reducible refine zc ?_|refine ym zr ?_|refine ys zr ?_
    refine W.drawL _ (i0:=k) (q:=9) (v:=(gS ja b.acts).v) 4 6 7 (by decide +kernel) tbl tblOk rfl rfl (slv_same' _ _) ?_ ?_ ?_
    · show W _ _ _ _ _ [.o false _ [_,_,_,_]] _ _ _ _
      repeat' first|with_reducible refine zc ?_|refine ym zr ?_|refine W.doneN zr ?_
      exact ⟨rfl,_,_,.tail _ (.head _),rfl,rfl⟩
    · intro j hj1 hj2
      obtain rfl|rfl:j=6∨j=7:=by omega
      · show W _ _ _ _ _ [.o false _ [_,_,_,_,_,_]] _ _ _ _
        repeat' first|with_reducible refine zc ?_|refine ym zr ?_|refine yn 0 zr ?_|refine yn 1 zr ?_|refine W.doneN zr ?_
        exact ⟨_,_,.tail _ (.head _),rfl,rfl⟩
      · show W _ _ _ _ _ [.o false _ [_,_,_,_,_,_,_]] _ _ _ _
        repeat' first|(refine W.bsl tblOk rfl rfl rfl rfl (by decide) rfl rfl rfl ?_;intro is)|with_reducible refine zc ?_|refine ym zr ?_|refine yn 0 zr ?_|refine yn 1 zr ?_|refine W.doneN zr ?_
        exact ⟨_,_,.tail _ (.tail _ (.head _)),rfl,rfl⟩
    repeat first|(refine W.bsl tblOk rfl rfl rfl rfl (by decide) rfl rfl rfl ?_;intro is)|refine ym zr ?_|refine yn 0 zr ?_|refine yn 1 zr ?_
    subst hXe
    refine W.perm ((_::_::_::_::gD iC 2 1 jr b.regs)++(gD Act.cs 127 6 ja b.acts++[])) (by rw [List.append_nil];exact List.Perm.refl _) ?_
    refine W.appG (i:=ja) (l:=b.acts) (m:=[(⟨1,ro,IntKind.u8.wrap 2,v2,v1,ri⟩:Act)]) (enc:=Act.cs) (_::_::_::_::gD iC 2 1 jr b.regs) tblOk rfl rfl rfl rfl rfl rfl rfl (by decide) (by simp only [List.length_singleton];omega) (fun _=>rfl) (src_own (p:=0) rfl rfl rfl) (fun h=>by cases h) rfl rfl rfl fun ja'=>?_
    repeat first|with_reducible refine zc ?_|refine ym zr ?_|refine yu zr ?_
    refine W.dropE (_::(gD iC 2 1 jr b.regs++(gD Act.cs 127 6 ja' (b.acts++[(⟨1,ro,IntKind.u8.wrap 2,v2,v1,ri⟩:Act)])++[]))) (.cons_cons _ (.cons _ (.cons _ (.cons _ (List.Sublist.refl _))))) ?_
    repeat' first|refine W.doneN zr ?_
    exact ⟨rfl,ja',by rw [List.append_nil];rfl⟩
end Go.Proofs.YtoegffiapnnkiaaGreat.Abs
