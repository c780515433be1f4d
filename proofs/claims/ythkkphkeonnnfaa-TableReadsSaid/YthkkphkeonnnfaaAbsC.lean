/- An abstract machine over the model's code: how it runs a function. No condition: these are definitions. -/
import Derived.Test.YthkkphkeonnnfaaAbsB
namespace Go.Proofs.Ythkkphkeonnnfaa.Abs
open Go

/-- What a call comes to. -/
inductive CR where
  | ret (v : AV) (s : St)
  | pan (v : AV) (s : St)
  | no
noncomputable def ofO (v : Option AV) (s : St) : CR := @Option.rec AV (fun _ => CR) .no (fun v => .ret v s) v
noncomputable def ofP (v : Option (AV × St)) : CR := @Option.rec (AV × St) (fun _ => CR) .no (fun v => .ret v.1 v.2) v
noncomputable def ofS (s : Option St) : CR := @Option.rec St (fun _ => CR) .no (fun s => .ret (.tup []) s) s
noncomputable def opPick (c a b : Option AV) : Option AV := optK (fun c => @Bool.rec (fun _ => Option AV) b a c) (optK asBool c)
noncomputable def opConvS (P : Program) (a b : TypeId) (x : Option AV) (s : St) : CR := match P.underlying a, P.underlying b with
  | some (.slice e), some .string => ofO (opText P e x s) s
  | some .string, some (.slice e) => ofP (opBytes P e x s)
  | some (.slice _), _ => .no
  | _, some (.slice _) => .no
  | _, _ => ofO (opConv P a b x) s
noncomputable def opNil : Option AV → Option AV
  | some (.ptr (some a)) => some (.ptr (some a))
  | some (.iface t v) => some (.iface t v)
  | some (.func f a b) => some (.func f a b)
  | _ => none
noncomputable def opMkIface (P : Program) (t : TypeId) (x : Option AV) : Option AV := match P.underlying t, x with
  | some (.interface _), _ => none
  | some _, some v => some (.iface t v)
  | _, _ => none
noncomputable def opMkFunc (fn : Fn) (first caps : Option (List AV)) : Option AV := match fn, first, caps with
  | .func f, some a, some b => some (.func f a b)
  | _, _, _ => none
noncomputable def opExtract (x : Option AV) (i : Nat) : Option AV := match x with
  | some (.tup l) => getL l i
  | _ => none
noncomputable def opBuiltin (P : Program) (b : Builtin) (ts : List TypeId) (as : List AV) (s : St) : CR := match b, as with
  | .append, [x, y] => ofP (opAppend P ts x y s)
  | .copy, [x, y] => ofP (opCopy P ts x y s)
  | .len, [x] => ofO (opLen P ts x s) s
  | .cap, [x] => ofO (opCap P ts x) s
  | .min, xs => ofO (opMM true xs) s
  | .max, xs => ofO (opMM false xs) s
  | .delete, [m, k] => ofS (opDelete P ts m k s)
  | .clear, [m] => ofS (opClear P ts m s)
  | _, _ => .no
noncomputable def opCall (P : Program) (call : Nat → List AV → St → CR) (c : Call) (tm : Tm) (s : St) : CR := match c.callee, evs tm c.args.toList with
  | .value f, some as => match ev tm f with
    | some (.func g first caps) => call g (first ++ as ++ caps) s
    | _ => .no
  | .builtin b, some as => opBuiltin P b c.argTypes.toList as s
  | _, _ => .no
noncomputable def opMkMap (r : Option Operand) (s : St) : CR := match r with
  | none => .ret (.map (some s.nx)) (newB s (.mp [] 0))
  | some _ => .no
noncomputable def opPanic (x : Option AV) (s : St) : CR := match x with
  | some (.iface t v) => .pan (.iface t v) s
  | _ => .no
/-- What an operation comes to (the recursor, its arms closed: so the kernel runs it quickest). -/
noncomputable def opA (o : Op) : Program → (Nat → List AV → St → CR) → Tm → St → CR := @Op.rec (fun _ => Program → (Nat → List AV → St → CR) → Tm → St → CR)
  (fun x _ _ tm s => ofO (ev tm x) s)
  (fun x _ _ tm s => ofO (ev tm x) s)
  (fun c a b _ _ tm s => ofO (opPick (ev tm c) (ev tm a) (ev tm b)) s)
  (fun t P _ _ s => ofP (opAlloc P t s))
  (fun t x _ _ tm s => ofP (opBox t (ev tm x) s))
  (fun t ps P _ tm s => ofO (opBuild P t (evParts tm ps.toList)) s)
  (fun t n ps P _ tm s => ofP (opBuildSlice P t n (evParts tm ps.toList) s))
  (fun _ _ _ _ _ _ _ _ => .no)
  (fun t a P _ tm s => ofO (opLoad P t (ev tm a) s) s)
  (fun t a x P _ tm s => ofS (opStore P t (ev tm a) (ev tm x) s))
  (fun _ _ _ _ _ => .no)
  (fun _ _ _ _ _ => .no)
  (fun x _ _ tm s => ofO (opNil (ev tm x)) s)
  (fun op t x y _ P _ tm s => ofO (opBin P op t (ev tm x) (ev tm y)) s)
  (fun op _ x _ _ tm s => ofO (opUn op (ev tm x)) s)
  (fun a b x P _ tm s => opConvS P a b (ev tm x) s)
  (fun _ _ _ _ _ _ => .no)
  (fun t x P _ tm s => ofO (opMkIface P t (ev tm x)) s)
  (fun fn a b _ _ tm s => ofO (opMkFunc fn (evs tm a.toList) (evs tm b.toList)) s)
  (fun _ r _ _ _ s => opMkMap r s)
  (fun _ _ _ _ _ _ => .no)
  (fun t l c P _ tm s => ofP (opMakeSlice P t (ev tm l) (ev tm c) s))
  (fun t x lo hi mx P _ tm s => ofO (opSlice P t (ev tm x) (evO tm lo) (evO tm hi) (evO tm mx)) s)
  (fun t x f P _ tm s => ofO (opFieldAddr P t (ev tm x) f) s)
  (fun t x f P _ tm s => ofO (opField P t (ev tm x) f) s)
  (fun t x i P _ tm s => ofO (opIndexAddr P t (ev tm x) (ev tm i)) s)
  (fun t x i P _ tm s => ofO (opIndex P t (ev tm x) (ev tm i)) s)
  (fun t m k ok P _ tm s => ofO (opLookup P t (ev tm m) (ev tm k) ok s) s)
  (fun t m k x P _ tm s => ofS (opMapUpdate P t (ev tm m) (ev tm k) (ev tm x) s))
  (fun _ _ _ _ _ _ _ => .no)
  (fun _ _ _ _ _ _ _ _ => .no)
  (fun _ _ _ _ _ _ => .no)
  (fun _ _ _ _ _ _ => .no)
  (fun _ _ _ _ _ => .no)
  (fun _ _ _ _ _ _ _ _ => .no)
  (fun x i _ _ tm s => ofO (opExtract (ev tm x) i) s)
  (fun c P call tm s => opCall P call c tm s)
  (fun _ _ _ _ _ => .no)
  (fun _ _ _ _ _ => .no)
  (fun x _ _ tm s => opPanic (ev tm x) s)
  (fun _ _ _ _ _ _ => .no)
  (fun _ _ _ _ _ _ _ => .no)
  (fun _ _ _ _ _ _ => .no)
  o
/-! ### regions -/
inductive Ex where
  | nrm
  | exit (id : Nat)
  | goto (l : Nat)
  | ret
  | pan (v : AV)
inductive Out where
  | ok (e : Ex) (tm : Tm) (s : St)
  | no
inductive SO where
  | go (tm : Tm) (s : St)
  | pan (v : AV) (s : St)
  | no
noncomputable def guardA (ops : List Oper) (tm : Tm) (b : Bool) (j : Nat) : Option Bool := match getL ops j with
  | some p => match p.dst with
    | some d => match T.get tm (K.of d) with
      | some (.bool c) => some (c == b)
      | some _ => some false
      | none => none
    | none => none
  | none => none
noncomputable def wantA (ops : List Oper) (tm : Tm) (o : Oper) : Option Bool := @Option.rec (Nat × Bool) (fun _ => Option Bool) (some true) (fun p => guardA ops tm p.2 p.1) o.guard
noncomputable def putK {ρ : Type} (no : ρ) (n : Nat) (tm : Tm) (v : AV) (k : Tm → ρ) (d : Option Tmp) : ρ := @Option.rec Nat (fun _ => ρ) (k tm) (fun d => @Bool.rec (fun _ => ρ) no (k (T.set tm (K.of d) v)) (Nat.ble (Nat.succ d) n)) d
noncomputable def stepK {ρ : Type} (no : ρ) (pan : AV → St → ρ) (k : Tm → St → ρ) (P : Program) (call : Nat → List AV → St → CR) (ops : List Oper) (n : Nat) (o : Oper) (tm : Tm) (s : St) : ρ :=
  @Option.rec Bool (fun _ => ρ) no (fun b => @Bool.rec (fun _ => ρ) (putK no n tm (.tup []) (fun tm => k tm s) o.dst)
    (@CR.rec (fun _ => ρ) (fun v s => putK no n tm v (fun tm => k tm s) o.dst) pan no (opA o.op P call tm s)) b) (wantA ops tm o)
noncomputable def stepO (P : Program) (call : Nat → List AV → St → CR) (ops : List Oper) (n : Nat) (o : Oper) (tm : Tm) (s : St) : SO := stepK SO.no SO.pan SO.go P call ops n o tm s
noncomputable def runOps (P : Program) (call : Nat → List AV → St → CR) (ops : List Oper) (n : Nat) (l : List Oper) : Tm → St → Out := @List.rec Oper (fun _ => Tm → St → Out) (fun tm s => .ok .nrm tm s)
  (fun o _ ih tm s => stepK .no (fun v s => .ok (.pan v) tm s) ih P call ops n o tm s) l

/-! ### a region that draws its order: the text's order, and what is to be shown of it -/
inductive Cls where
  | p | r | f | m
noncomputable def notMap (P : Program) : List TypeId → Bool
  | t :: _ => match P.underlying t with
    | some (.map _ _) => false
    | some _ => true
    | none => false
  | [] => false
/-- p: reads no memory; r: a load; f: makes a block whatever is in memory; m: all else. -/
noncomputable def cls (P : Program) : Op → Cls
  | .move _ | .assign _ | .pick .. | .build .. | .nilCheck _ | .binOp .. | .unOp .. | .makeInterface .. | .makeFunc .. | .slice .. | .fieldAddr .. | .field .. | .indexAddr .. | .index .. | .extract .. => .p
  | .convert a b _ => match cvM P a b with
    | true => .m
    | false => .p
  | .load .. => .r
  | .alloc _ => .f
  | .makeMap _ none => .f
  | .call { callee := .builtin .len, argTypes := ts, .. } => match notMap P ts.toList with
    | true => .p
    | false => .m
  | .call { callee := .builtin .cap, .. } | .call { callee := .builtin .min, .. } | .call { callee := .builtin .max, .. } => .p
  | _ => .m
/-- Which operations each one waits for. -/
noncomputable def orL : List Bool → List Bool → List Bool
  | [], l => l
  | l, [] => l
  | a :: l, b :: m => (a || b) :: orL l m
noncomputable def oneAt : Nat → List Bool
  | 0 => [true]
  | n + 1 => false :: oneAt n
noncomputable def waitsFor (rows : List (List Bool)) (i : Nat) : List Edge → Option (List Bool)
  | [] => some []
  | e :: es => match waitsFor rows i es with
    | some l => match Region.binds .any e with
      | true => if e.on < i then match getL rows e.on with
          | some r => some (orL (orL (oneAt e.on) r) l)
          | none => none
        else none
      | false => some l
    | none => none
noncomputable def rowsOf : List (List Bool) → Nat → List Oper → Option (List (List Bool))
  | rows, _, [] => some rows
  | rows, i, o :: os => match waitsFor rows i o.after.toList with
    | some r => rowsOf (rows ++ [r]) (i + 1) os
    | none => none
noncomputable def waits (rows : List (List Bool)) (j i : Nat) : Bool := match getL rows j with
  | some r => match getL r i with
    | some b => b
    | none => false
  | none => false
noncomputable def tmpsOf : List Operand → List Nat
  | [] => []
  | .tmp t :: l => t :: tmpsOf l
  | _ :: l => tmpsOf l
noncomputable def readsOf (ops : List Oper) (o : Oper) : List Nat := (match o.guard with
  | none => []
  | some (j, _) => match getL ops j with
    | some p => match p.dst with
      | some d => [d]
      | none => []
    | none => []) ++ tmpsOf o.op.operands.toList
noncomputable def isIn (d : Option Nat) (l : List Nat) : Bool := match d with
  | none => false
  | some d => l.any (Nat.beq d)
noncomputable def sameDst (a b : Option Nat) : Bool := match a, b with
  | some x, some y => Nat.beq x y
  | _, _ => false
/-- Two operations, neither of which waits for the other, i ahead in the text: do they keep apart? -/
noncomputable def apartA (P : Program) (ops : List Oper) (oi oj : Oper) : Bool :=
  !isIn oi.dst (readsOf ops oj) && !isIn oj.dst (readsOf ops oi) && !sameDst oi.dst oj.dst &&
  match cls P oi.op, cls P oj.op with
  | .m, .m => false
  | .f, .m => false
  | _, _ => true
noncomputable def pairs2 (P : Program) (ops : List Oper) (rows : List (List Bool)) (oi : Oper) (i : Nat) : Nat → List Oper → Bool
  | _, [] => true
  | j, oj :: os => match waits rows j i || apartA P ops oi oj with
    | true => pairs2 P ops rows oi i (j + 1) os
    | false => false
noncomputable def pairs1 (P : Program) (ops : List Oper) (rows : List (List Bool)) : Nat → List Oper → Bool
  | _, [] => true
  | i, o :: os => match pairs2 P ops rows o i (i + 1) os with
    | true => pairs1 P ops rows (i + 1) os
    | false => false
/-- Where a load reads, and what type. -/
noncomputable def readAt (o : Op) (tm : Tm) : Option (TypeId × (K × Nat)) := match o with
  | .load t a => match optK asPtr (ev tm a) with
    | some p => some (t, p)
    | none => none
  | _ => none
noncomputable def hasAt (h : T Bk) (i : K) : Bool := match T.get h i with
  | none => false
  | some _ => true
noncomputable def keptAt (P : Program) (h : T Bk) (t : TypeId) (p : K × Nat) (v : AV) : Bool := match loadAt P t h p with
  | some u => sameA u v
  | none => !hasAt h p.1
/-- The states ahead of each operation; then the end. -/
inductive TR where
  | ok (l : List (Tm × St)) (v : Option AV) (tm : Tm) (s : St)
  | no
noncomputable def traceA (P : Program) (call : Nat → List AV → St → CR) (ops : List Oper) (n : Nat) : List Oper → Tm → St → TR
  | [], tm, s => .ok [] none tm s
  | o :: rest, tm, s => match stepO P call ops n o tm s with
    | .go tm' s' => match traceA P call ops n rest tm' s' with
      | .ok l v tm2 s2 => .ok ((tm, s) :: l) v tm2 s2
      | .no => .no
    | .pan v s' => .ok [(tm, s)] (some v) tm s'
    | .no => .no
noncomputable def isM (P : Program) (o : Op) : Bool := match cls P o with
  | .m => true
  | _ => false
/-- What the load at r has read lies there ahead of and behind each operation that may change memory and is not ordered with it. -/
noncomputable def heldBy (P : Program) (rows : List (List Bool)) (r : Nat) (t : TypeId) (p : K × Nat) (v : AV) : Nat → List Oper → List (Tm × St) → St → Bool
  | j, o :: os, (_, s) :: tr, s9 => match !isM P o.op || waits rows j r || waits rows r j || (keptAt P s.hp t p v && (keptAt P (match tr with | (_, s') :: _ => s' | [] => s9).hp t p v && hasAt s.hp p.1 == hasAt (match tr with | (_, s') :: _ => s' | [] => s9).hp p.1)) with
    | true => heldBy P rows r t p v (j + 1) os tr s9
    | false => false
  | _, _, [], _ => true
  | _, [], _, _ => true
noncomputable def heldAll (P : Program) (all : List Oper) (rows : List (List Bool)) (tr0 : List (Tm × St)) (s9 : St) : Nat → List Oper → List (Tm × St) → Bool
  | r, o :: os, (tm, s) :: tr => match (match cls P o.op with
      | .r => match wantA all tm o with
        | some true => match readAt o.op tm with
          | some (t, p) => match loadAt P t s.hp p with
            | some v => heldBy P rows r t p v 0 all tr0 s9
            | none => false
          | none => false
        | some false => true
        | none => false
      | _ => true) with
    | true => heldAll P all rows tr0 s9 (r + 1) os tr
    | false => false
  | _, [], _ => true
  | _, _, [] => true
noncomputable def noneAt (k : K) : List (Tm × St) → Bool
  | [] => true
  | (_, s) :: l => match T.get s.hp k with
    | none => noneAt k l
    | some _ => false
/-- A block that is made has a new name. -/
noncomputable def fltOk (P : Program) : List (Tm × St) → List Oper → List (Tm × St) → Bool
  | seen, o :: os, x :: tr => match (match cls P o.op with
      | .f => noneAt x.2.nx (x :: seen)
      | _ => true) with
    | true => fltOk P (x :: seen) os tr
    | false => false
  | _, [], _ => true
  | _, _, [] => true
/-- Behind an operation that panics all wait for it. -/
noncomputable def lastAt (rows : List (List Bool)) (p : Nat) : Nat → List Oper → Bool
  | _, [] => true
  | j, _ :: os => match Nat.ble j p || waits rows j p with
    | true => lastAt rows p (j + 1) os
    | false => false
noncomputable def drawOps (P : Program) (call : Nat → List AV → St → CR) (ops : List Oper) (n : Nat) (tm : Tm) (s : St) : Out := match traceA P call ops n ops tm s with
  | .ok tr v tm9 s9 => match rowsOf [] 0 ops with
    | some rows => match pairs1 P ops rows 0 ops && heldAll P ops rows tr s9 0 ops tr && fltOk P [] ops tr with
      | true => match v with
        | none => .ok .nrm tm9 s9
        | some v => match lastAt rows (tr.length - 1) 0 ops && (match getL ops (tr.length - 1) with | some o => isM P o.op | none => false) with
          | true => .ok (.pan v) tm9 s9
          | false => .no
      | false => .no
    | none => .no
  | .no => .no

/-! ### code -/
inductive Cd where
  | code (c : Code)
  | under (body c : Code)
noncomputable def resA (P : Program) (tm : Tm) (s : St) : List ResultVar → Option (List AV)
  | [] => some []
  | r :: rs => match (match r with
      | .tmp t => T.get tm (K.of t)
      | .cell a t => opLoad P t (T.get tm (K.of a)) s), resA P tm s rs with
    | some v, some vs => some (v :: vs)
    | _, _ => none
noncomputable def oneOr : List AV → AV
  | [v] => v
  | l => .tup l
noncomputable def setArgs : Nat → List AV → T AV → T AV
  | _, [], t => t
  | i, v :: vs, t => setArgs (i + 1) vs (T.set t (K.of i) v)
/-- (The number of temporaries is reckoned once.) -/
noncomputable def startA (ih : Nat → Cd → Tm → St → Out) (n : Nat) (c : Code) (tm : Tm) (s : St) : Out := @Nat.casesOn (fun _ => Out) n (ih 0 (.code c) tm s) (fun m => ih (Nat.succ m) (.code c) tm s)
noncomputable def callBody (P : Program) (ih : Nat → Cd → Tm → St → Out) (f : Nat) (args : List AV) (s : St) : CR := match getL P.funcs.toList f with
  | some fn => match fn.body with
    | some c => match startA ih (max fn.ntmps (lenL args)) c (setArgs 0 args .e) s with
      | .ok .nrm tm s' => match resA P tm s' fn.results.toList with
        | some vs => .ret (oneOr vs) s'
        | none => .no
      | .ok .ret tm s' => match resA P tm s' fn.results.toList with
        | some vs => .ret (oneOr vs) s'
        | none => .no
      | .ok (.pan v) _ s' => .pan v s'
      | _ => .no
    | none => .no
  | none => .no
/-- A call that has been reckoned apart: its arguments, the name that is next, its result, the blocks that it leaves, the name that is next then. -/
structure Memo where
  f : Nat
  args : List AV
  nx : K
  v : AV
  bs : List (K × Bk)
  nx' : K
/-- 'caught' (function cg; wt: the type of what it catches); calls that are known. -/
structure Cg where
  cg : Nat
  wt : Nat
  ms : List Memo
noncomputable def addB (bs : List (K × Bk)) (h : T Bk) : T Bk := @List.rec (K × Bk) (fun _ => T Bk → T Bk) (fun h => h) (fun b _ ih h => ih (T.set h b.1 b.2)) bs h
noncomputable def memoHit (m : Memo) (f : Nat) (args : List AV) (s : St) : Bool := Nat.beq f m.f && (sameL args m.args && K.beq s.nx m.nx)
noncomputable def memoFind (f : Nat) (args : List AV) (s : St) (ms : List Memo) : Option CR := @List.rec Memo (fun _ => Option CR) none (fun m _ ih => @Bool.rec (fun _ => Option CR) ih (some (.ret m.v ⟨addB m.bs s.hp, m.nx'⟩)) (memoHit m f args s)) ms
noncomputable def callB (P : Program) (g : Cg) (ih : Nat → Cd → Tm → St → Out) (f : Nat) (args : List AV) (s : St) : CR := match Nat.beq f g.cg with
  | true => match args with
    | [.func G [] caps] => match Nat.beq G g.cg with
      | true => .no
      | false => match callBody P ih G caps s with
        | .ret (.tup []) s' => .ret (.int .i64 0) s'
        | .pan (.iface t (.agg [.int .i64 c])) s' => match Nat.beq t g.wt with
          | true => .ret (.int .i64 c) s'
          | false => .no
        | _ => .no
    | _ => .no
  | false => callBody P ih f args s
noncomputable def callA (P : Program) (g : Cg) (ih : Nat → Cd → Tm → St → Out) (f : Nat) (args : List AV) (s : St) : CR := @Option.rec CR (fun _ => CR) (callB P g ih f args s) (fun r => r) (memoFind f args s g.ms)
noncomputable def thenO (r : Out) (k : Tm → St → Out) : Out := @Out.rec (fun _ => Out) (fun e tm s => @Ex.rec (fun _ => (Tm → St → Out) → Tm → St → Out) (fun k tm s => k tm s) (fun i _ tm s => .ok (.exit i) tm s) (fun l _ tm s => .ok (.goto l) tm s) (fun _ tm s => .ok .ret tm s) (fun v _ tm s => .ok (.pan v) tm s) e k tm s) .no r
noncomputable def blockO (id : Nat) (r : Out) : Out := match r with
  | .ok (.exit i) tm s => match Nat.beq i id with
    | true => .ok .nrm tm s
    | false => .ok (.exit i) tm s
  | r => r
noncomputable def condO (x : Option AV) (a b : Out) : Out := @Option.rec Bool (fun _ => Out) .no (fun c => @Bool.rec (fun _ => Out) b a c) (optK asBool x)
noncomputable def underO (body : Code) (ih : Cd → Tm → St → Out) (r : Out) : Out := match r with
  | .ok (.goto l) tm s => match findLabel body l with
    | some rest => ih (.under body rest) tm s
    | none => .no
  | r => r
noncomputable def codeStep (c : Code) : Program → Cg → (Nat → Cd → Tm → St → Out) → Nat → Tm → St → Out := @Code.rec (fun _ => Program → Cg → (Nat → Cd → Tm → St → Out) → Nat → Tm → St → Out)
  (fun _ _ _ _ tm s => .ok .nrm tm s)
  (fun _ ops d P g ih n tm s => @Bool.rec (fun _ => Out) (runOps P (callA P g ih) ops.toList n ops.toList tm s) (drawOps P (callA P g ih) ops.toList n tm s) d)
  (fun a b _ _ _ _ ih n tm s => thenO (ih n (.code a) tm s) (ih n (.code b)))
  (fun x a b _ _ _ _ ih n tm s => condO (ev tm x) (ih n (.code a) tm s) (ih n (.code b) tm s))
  (fun id c _ _ _ ih n tm s => blockO id (ih n (.code c) tm s))
  (fun c _ _ _ ih n tm s => thenO (ih n (.code c) tm s) (ih n (.code (.loop c))))
  (fun _ _ _ _ _ _ _ _ _ _ _ _ => .no)
  (fun id _ _ _ _ tm s => .ok (.exit id) tm s)
  (fun c _ _ _ ih n tm s => ih n (.under c c) tm s)
  (fun _ _ _ _ _ tm s => .ok .nrm tm s)
  (fun l _ _ _ _ tm s => .ok (.goto l) tm s)
  (fun _ _ _ _ tm s => .ok .ret tm s)
  (fun _ _ _ _ _ _ _ => .no)
  c
noncomputable def execStep (P : Program) (g : Cg) (ih : Nat → Cd → Tm → St → Out) (n : Nat) (d : Cd) : Tm → St → Out := @Cd.rec (fun _ => Tm → St → Out) (fun c => codeStep c P g ih n) (fun body c tm s => underO body (ih n) (ih n (.code c) tm s)) d
noncomputable def exec (P : Program) (g : Cg) (k : Nat) : Nat → Cd → Tm → St → Out := Nat.rec (fun _ _ _ _ => .no) (fun _ ih => execStep P g ih) k
theorem exec_succ (P : Program) (g : Cg) (k : Nat) : exec P g (k + 1) = execStep P g (exec P g k) := rfl
theorem exec_zero (P : Program) (g : Cg) (n : Nat) (c : Cd) (tm : Tm) (s : St) : exec P g 0 n c tm s = .no := rfl
noncomputable def acall (P : Program) (g : Cg) (k : Nat) (f : Nat) (args : List AV) (s : St) : CR := callA P g (exec P g k) f args s
noncomputable def sameBk : Bk → Bk → Bool
  | .cells l e z f, .cells l' e' z' f' => sameL l l' && Nat.beq e e' && Nat.beq z z' && (f == f')
  | _, _ => false
noncomputable def leftIn (h : T Bk) (nx nx' : K) : List (K × Bk) → Bool
  | [] => true
  | (i, b) :: bs => match T.get h i with
    | some b' => sameBk b' b && Nat.ble nx.val i.val && Nat.blt i.val nx'.val && leftIn h nx nx' bs
    | none => false
/-- Is a call just what it is said to be, from no memory at all? -/
noncomputable def memoOk (P : Program) (g : Cg) (k : Nat) (m : Memo) : Bool := match acall P g k m.f m.args ⟨.e, m.nx⟩ with
  | .ret v s => sameA v m.v && K.beq s.nx m.nx' && leftIn s.hp m.nx m.nx' m.bs
  | _ => false
end Go.Proofs.Ythkkphkeonnnfaa.Abs
