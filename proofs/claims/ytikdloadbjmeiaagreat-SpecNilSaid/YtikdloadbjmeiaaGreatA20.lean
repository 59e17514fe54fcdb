import Derived.Test.YtikdloadbjmeiaaGreatA19
/- An evaluator over an abstract heap, part 20: a function's code. -/
namespace Go.AE
open Go
noncomputable section

/-- What an activation holds. -/
structure St where
  tmps : Tr Value
  n : Nat
  heap : AH
  defers : List Deferred
  /-- In a round's frame: the loop's record. -/
  round : Option Nat

def St.get (s : St) (i : Nat) : Value := match s.tmps.get (i + 1) with
  | some v => v
  | none => undef

def St.eval (s : St) : Operand → Value
  | .tmp t => s.get t
  | .const v => match plain v with
    | true => v
    | false => undef
  | .global _ => undef
  | .func f => .func (.func f) #[] #[]

def okOperand : Operand → Bool
  | .tmp _ => true
  | .const v => plain v
  | .global _ => false
  | .func _ => true

/-- The answers of the functions that are taken by a contract. -/
abbrev Cons := FuncId → Option (Array Value → AH → Option (Value × AH))

section
variable {ω : Type}

def St.put (s : St) (d : Option Tmp) (v : Value) (bad : ω) (K : St → ω) : ω := match d with
  | none => K s
  | some d => match s with
    | ⟨t, n, h, ds, r⟩ => match Nat.ble n d with
      | true => bad
      | false => K ⟨t.set (d + 1) v, n, h, ds, r⟩

/-- The state with another heap. -/
def St.on (s : St) (h : AH) : St := match s with
  | ⟨t, n, _, ds, r⟩ => ⟨t, n, h, ds, r⟩

def aYielded (ops : List Oper) (s : St) (j : Nat) : Option Bool := match ops[j]? with
  | some o => match o.dst with
    | some d => match s.get d with
      | .bool b => some b
      | _ => none
    | none => none
  | none => none

def aWanted (ops : List Oper) (s : St) (o : Oper) : Bool := match o.guard with
  | none => true
  | some (j, want) => match aYielded ops s j with
    | some b => match b, want with
      | true, true => true
      | false, false => true
      | _, _ => false
    | none => false

def aRes (P : Program) (s : St) : List ResultVar → Option (List Value)
  | [] => some []
  | .tmp t :: rs => match aRes P s rs with
    | some vs => some (s.get t :: vs)
    | none => none
  | .cell a t :: rs => match aLoadF P t (s.get a) s.heap with
    | some v => match aRes P s rs with
      | some vs => some (v :: vs)
      | none => none
    | none => none

def oneOf : List Value → Value
  | [v] => v
  | vs => .tuple ⟨vs⟩

def enter : List Value → Nat → Tr Value → Tr Value
  | [], _, t => t
  | v :: vs, i, t => enter vs (i + 1) (t.set (i + 1) v)

/-- What a drive of the evaluator needs. -/
structure Ans (ω : Type) where
  bad : ω
  both : List ω → ω

abbrev Ih (ω : Type) := Code → St → (Exit → St → ω) → ω

variable (E : Env) (C : Cons) (A : Ans ω) (ih : Ih ω)

def evBody (f : FuncId) (args : Array Value) (h : AH) (K : Exit → St → Func → ω) : ω := match E.P.funcs[f]? with
  | none => A.bad
  | some fn => match fn.body with
    | none => A.bad
    | some c => ih c { tmps := enter args.toList 0 .nil, n := max args.size fn.ntmps, heap := h, defers := [], round := none } fun e s => match e with
      | .normal => K e s fn
      | .ret => K e s fn
      | _ => A.bad

/-- On the way out: the deferred calls, and the marks of loops. -/
def evOut (fn : Func) (s : St) (K : Value → AH → ω) : List Deferred → AH → ω
  | [], h => match aRes E.P { s with heap := h } fn.results.toList with
    | some vs => K (oneOf vs) h
    | none => A.bad
  | d :: ds, h => match d.target with
    | .collected r => match Nat.ble h.floor r with
      | false => A.bad
      | true => match h.get r with
        | some (.deferred (some [])) => evOut fn s K ds (h.put r (.deferred none))
        | _ => A.bad
    | .fn (.func g) cap => evBody E A ih g (d.args ++ cap) h fun _ s' fn' => match s'.defers with
      | [] => match aRes E.P s' fn'.results.toList with
        | some _ => evOut fn s K ds s'.heap
        | none => A.bad
      | _ :: _ => A.bad
    | _ => A.bad

def evCall (f : FuncId) (args : Array Value) (h : AH) (K : Value → AH → ω) : ω := match C f with
  | some k => match k args h with
    | some (v, h') => K v h'
    | none => A.bad
  | none => evBody E A ih f args h fun _ s fn => evOut E A ih fn s K s.defers s.heap

def evEndRound (l : Nat) (jump : Option Code) (h : AH) (K : Value → AH → ω) : ω := match Nat.ble h.floor l with
  | false => A.bad
  | true => match h.get l with
    | some (.loop r) => match jump with
      | none => K (.bool true) (h.put l (.loop { r with state := .ready, pending := none }))
      | some c => K (.bool false) (h.put l (.loop { r with state := .done, pending := some c }))
    | _ => A.bad

/-- A round of a range over a function. -/
def evRound (l : Nat) (tmps : Array Value) (assign body : Code) (h : AH) (K : Value → AH → ω) : ω :=
  ih assign { tmps := enter tmps.toList 0 .nil, n := tmps.size, heap := h, defers := [], round := some l } fun e s => match e with
    | .normal => match Nat.ble s.heap.floor l with
      | false => A.bad
      | true => match s.heap.get l with
        | some (.loop r) => match r.state with
          | .ready => ih body { s with heap := s.heap.put l (.loop { r with state := .busy }) } fun e s => match e with
            | .normal => evEndRound A l none s.heap K
            | .ret => evEndRound A l (some .ret) s.heap K
            | .exit id => evEndRound A l (some (.exit id)) s.heap K
            | _ => A.bad
          | _ => A.bad
        | _ => A.bad
    | _ => A.bad

/-- One operation that is wanted. -/
def evOp (o : Oper) (s : St) (K : St → ω) : ω := match o.op with
  | .range t x => match aRange E.P t (s.eval x) s.heap with
    | some (v, h) => St.put (s.on h) o.dst v A.bad K
    | none => A.bad
  | .next it isString => match isString with
    | true => A.bad
    | false => match aNexts (s.eval it) s.heap with
      | some [(v, h)] => St.put (s.on h) o.dst v A.bad K
      | some l => A.both (l.map fun p => St.put (s.on p.2) o.dst p.1 A.bad K)
      | none => A.bad
  | .entry it => match aEntry (s.eval it) s.heap with
    | some v => St.put s o.dst v A.bad K
    | none => A.bad
  | _ => match aopF E o s.eval s.heap with
    | some (.value v, h) => St.put (s.on h) o.dst v A.bad K
    | some (.skip, h) => St.put (s.on h) o.dst undef A.bad K
    | some (.enter f args, h) => evCall E C A ih f args h fun v h' => St.put (s.on h') o.dst v A.bad K
    | some (.round l _ tmps assign body, h) => evRound A ih l tmps assign body h fun v h' => St.put (s.on h') o.dst v A.bad K
    | some (.defer d, h) => match s.round with
      | none => St.put { s with heap := h, defers := d :: s.defers } o.dst undef A.bad K
      | some _ => A.bad
    | _ => A.bad

def evOps (ops : List Oper) : List Oper → St → (St → ω) → ω
  | [], s, K => K s
  | o :: rest, s, K => match o.op.operands.toList.all okOperand with
    | true => match aWanted ops s o with
      | true => evOp E C A ih o s fun s' => evOps ops rest s' K
      | false => St.put s o.dst undef A.bad fun s' => evOps ops rest s' K
    | false => A.bad

/-! ### Regions whose order is drawn -/
inductive Kd where
  | read | alloc | bar

def kd : Op → Kd
  | .move _ | .assign _ | .pick .. | .build .. | .load .. | .nilCheck _ | .binOp .. | .unOp .. | .convert .. | .makeInterface .. | .makeFunc .. | .slice .. | .fieldAddr .. | .field ..
  | .indexAddr .. | .index .. | .lookup .. | .typeAssert .. | .extract .. => .read
  | .alloc _ | .box .. | .makeMap .. | .makeSlice .. | .buildSlice .. => .alloc
  | .call c => match c.callee with
    | .builtin .len | .builtin .min | .builtin .max => .read
    | _ => .bar
  | _ => .bar

structure Node where
  i : Nat
  o : Oper
  anc : Nat
  kind : Kd

def has (s i : Nat) : Bool := Nat.beq (Nat.land 1 (Nat.shiftRight s i)) 1
def add (s i : Nat) : Nat := Nat.lor s (Nat.shiftLeft 1 i)
def sub (s t : Nat) : Bool := Nat.beq (Nat.lor s t) t

def ancOf (prev : Tr Nat) : List Edge → Nat → Nat
  | [], s => s
  | e :: es, s => match Region.binds .any e with
    | true => match prev.get (e.on + 1) with
      | some t => ancOf prev es (Nat.lor t (add s e.on))
      | none => ancOf prev es (add s e.on)
    | false => ancOf prev es s

def nodes : List Oper → Nat → Tr Nat → List Node
  | [], _, _ => []
  | o :: os, i, prev => match ancOf prev o.after.toList 0 with
    | a => ⟨i, o, a, kd o.op⟩ :: nodes os (i + 1) (prev.set (i + 1) a)

def bars : List Node → List Node
  | [] => []
  | x :: xs => match x.kind with
    | .bar => x :: bars xs
    | _ => bars xs

def intEq : Int → Int → Bool
  | .ofNat a, .ofNat b => Nat.beq a b
  | .negSucc a, .negSucc b => Nat.beq a b
  | _, _ => false

def kindEq (a b : IntKind) : Bool := Nat.beq a.ctorIdx b.ctorIdx

def addrEq (a b : Addr) : Bool := match a.spot, b.spot with
  | none, none => match Nat.beq a.block b.block with
    | true => Nat.beq a.off b.off
    | false => false
  | _, _ => false

mutual
def veq : Value → Value → Bool
  | .bool a, .bool b => match a, b with
    | true, true => true
    | false, false => true
    | _, _ => false
  | .int k a, .int l b => match kindEq k l with
    | true => intEq a b
    | false => false
  | .pointer none, .pointer none => true
  | .pointer (some a), .pointer (some b) => addrEq a b
  | .slice none a b, .slice none c d => match Nat.beq a c with
    | true => Nat.beq b d
    | false => false
  | .slice (some x) a b, .slice (some y) c d => match addrEq x y with
    | true => match Nat.beq a c with
      | true => Nat.beq b d
      | false => false
    | false => false
  | .map none, .map none => true
  | .map (some a), .map (some b) => Nat.beq a b
  | .func (.func f) ⟨a⟩ ⟨b⟩, .func (.func g) ⟨c⟩ ⟨d⟩ => match Nat.beq f g with
    | true => match veqL a c with
      | true => veqL b d
      | false => false
    | false => false
  | .nilFunc, .nilFunc => true
  | .nilIface, .nilIface => true
  | .iface t v, .iface t' v' => match Nat.beq t t' with
    | true => veq v v'
    | false => false
  | .agg ⟨a⟩, .agg ⟨b⟩ => veqL a b
  | .tuple ⟨a⟩, .tuple ⟨b⟩ => veqL a b
  | _, _ => false
def veqL : List Value → List Value → Bool
  | [], [] => true
  | v :: vs, v' :: vs' => match veq v v' with
    | true => veqL vs vs'
    | false => false
  | _, _ => false
end

def oeq : Option Obj → Option Obj → Bool
  | some (.cells ⟨a⟩ e (0, 0)), some (.cells ⟨b⟩ e' (0, 0)) => match Nat.beq e e' with
    | true => veqL a b
    | false => false
  | some (.map ⟨[]⟩ k), some (.map ⟨[]⟩ k') => Nat.beq k k'
  | _, _ => false

def blockOf : Value → Option Nat
  | .pointer (some a) => some a.block
  | .slice (some a) _ _ => some a.block
  | .map (some r) => some r
  | _ => none

/-- The heap without one block, whose number is the next. -/
def without (h : AH) (c : Nat) : AH := { base := fun b => match Nat.beq b c with | true => none | false => h.get b, tr := .nil, fresh := c, floor := h.floor }

def passN (E : Env) (ops : List Oper) : List Node → Nat → St → Option (Nat × St)
  | [], D, s => some (D, s)
  | x :: xs, D, s => match has D x.i with
    | true => passN E ops xs D s
    | false => match sub x.anc D with
      | false => passN E ops xs D s
      | true => match x.kind with
        | .bar => passN E ops xs D s
        | k => match x.o.dst with
          | none => none
          | some d => match Nat.ble s.n d with
            | true => none
            | false => match aWanted ops s x.o with
              | false => passN E ops xs (add D x.i) { s with tmps := s.tmps.set (d + 1) undef }
              | true => match aopF E x.o s.eval s.heap with
                | some (.value v, h) => match k with
                  | .read => passN E ops xs (add D x.i) { s with tmps := s.tmps.set (d + 1) v }
                  | _ => passN E ops xs (add D x.i) { s with tmps := s.tmps.set (d + 1) v, heap := h }
                | _ => none

def notIn (b : Nat) : List Nat → Bool
  | [] => true
  | x :: xs => match Nat.beq x b with
    | true => false
    | false => notIn b xs

/-- Every operation that may still come has its answer. -/
def recheck (E : Env) (ops : List Oper) (s : St) (D A : Nat) : List Node → List Nat → Bool
  | [], _ => true
  | x :: xs, bl => match has D x.i with
    | false => recheck E ops s D A xs bl
    | true => match has A x.i with
      | true => recheck E ops s D A xs bl
      | false => match x.o.dst with
        | none => false
        | some d => match aWanted ops s x.o with
          | false => match veq undef (s.get d) with
            | true => recheck E ops s D A xs bl
            | false => false
          | true => match x.kind with
            | .bar => false
            | .read => match aopF E x.o s.eval s.heap with
              | some (.value v, _) => match veq v (s.get d) with
                | true => recheck E ops s D A xs bl
                | false => false
              | _ => false
            | .alloc => match blockOf (s.get d) with
              | none => false
              | some c => match notIn c bl with
                | false => false
                | true => match aopF E x.o s.eval (without s.heap c) with
                  | some (.value v, h) => match veq v (s.get d) with
                    | true => match oeq (h.get c) (s.heap.get c) with
                      | true => recheck E ops s D A xs (c :: bl)
                      | false => false
                    | false => false
                  | _ => false

def inNodes (i : Nat) : List Node → Bool
  | [] => false
  | x :: xs => match Nat.beq x.i i with
    | true => true
    | false => inNodes i xs

/-- What has not come before the next of R can't come before it. -/
def complete (D : Nat) (R : List Node) : List Node → Bool
  | [] => true
  | x :: xs => match has D x.i with
    | true => match inNodes x.i R with
      | true => false
      | false => complete D R xs
    | false => match x.kind with
      | .bar => match inNodes x.i R with
        | true => complete D R xs
        | false => false
      | _ => match sub x.anc D with
        | true => false
        | false => complete D R xs

def chain : List Node → Bool
  | [] => true
  | [_] => true
  | x :: y :: xs => match has y.anc x.i with
    | true => chain (y :: xs)
    | false => false

/-- The operations' own: edges go back, places are apart, an operand is an ancestor's or none of the region's. -/
def dstBy (t : Nat) : List Node → Option Nat
  | [] => none
  | x :: xs => match x.o.dst with
    | some d => match Nat.beq d t with
      | true => some x.i
      | false => dstBy t xs
    | none => dstBy t xs

def seenBy (all : List Node) (a : Nat) : List Operand → Bool
  | [] => true
  | x :: xs => match okOperand x with
    | false => false
    | true => match x with
      | .tmp t => match dstBy t all with
        | some k => match has a k with
          | true => seenBy all a xs
          | false => false
        | none => seenBy all a xs
      | _ => seenBy all a xs

def back (i : Nat) : List Edge → Bool
  | [] => true
  | e :: es => match Region.binds .any e with
    | true => match Nat.ble i e.on with
      | true => false
      | false => back i es
    | false => back i es

def nodesOk (all : List Node) : List Node → Bool
  | [] => true
  | x :: xs => match back x.i x.o.after.toList with
    | false => false
    | true => match seenBy all x.anc x.o.op.operands.toList with
      | false => false
      | true => match (match x.o.dst with
          | some d => dstBy d xs
          | none => none) with
        | some _ => false
        | none => match x.o.guard with
          | some (g, _) => match has x.anc g with
            | true => nodesOk all xs
            | false => false
          | none => nodesOk all xs

def stages (ops : List Oper) (all : List Node) : List Node → Nat → Nat → St → (St → ω) → ω
  | [], D, L, s, K => match passN E ops all D s with
    | none => A.bad
    | some (D, s) => match recheck E ops s D L all [] with
      | false => A.bad
      | true => match complete D [] all with
        | true => K s
        | false => A.bad
  | b :: R, D, L, s, K => match passN E ops all D s with
    | none => A.bad
    | some (D, s) => match recheck E ops s D L all [] with
      | false => A.bad
      | true => match complete D (b :: R) all with
        | true => match aWanted ops s b.o with
          | true => evOp E C A ih b.o s fun s => stages ops all R (add D b.i) (add b.anc b.i) s K
          | false => St.put s b.o.dst undef A.bad fun s => stages ops all R (add D b.i) (add b.anc b.i) s K
        | false => A.bad

def evDraw (ops : List Oper) (s : St) (K : St → ω) : ω := match nodes ops 0 .nil with
  | all => match nodesOk all all with
    | false => A.bad
    | true => match bars all with
      | R => match chain R with
        | false => A.bad
        | true => stages E C A ih ops all R 0 0 s K

def evRange (g : Operand) (ps : Array Tmp) (assign body : Code) (s : St) (K : Exit → St → ω) : ω := match okOperand g with
  | false => A.bad
  | true => match (match s.round with
      | some l => match s.heap.get l with
        | some (.loop r) => some (r.defers, ([] : List Deferred), s.heap)
        | _ => none
      | none => match aNew s.heap (.deferred (some [])) with
        | some (b, h) => some (b, [{ target := .collected b, args := #[] }], h)
        | none => none) with
    | none => A.bad
    | some (b, mark, h) => match aNew h (.loop { state := .ready, pending := none, fn := 0, tmps := ((List.range s.n).map s.get).toArray, params := ps, assign, body, defers := b }) with
      | none => A.bad
      | some (l, h) => match s.eval g with
        | .func fn first cap => match aInvoke E fn cap (first ++ #[.func (.yield l) #[] #[]]) h with
          | some (.enter f args, h) => evCall E C A ih f args h fun _ h' => match Nat.ble h'.floor l with
            | false => A.bad
            | true => match h'.get l with
              | some (.loop r) => match r.state with
                | .busy => A.bad
                | _ => match r.pending with
                  | none => K .normal { s with heap := h'.put l (.loop { r with state := .exhausted }), defers := mark ++ s.defers }
                  | some c => ih c { s with heap := h'.put l (.loop { r with state := .exhausted }), defers := mark ++ s.defers } K
              | _ => A.bad
          | _ => A.bad
        | _ => A.bad

def evStep (c : Code) (s : St) (K : Exit → St → ω) : ω := match c with
  | .skip => K .normal s
  | .region _ ops draw => match draw with
    | false => evOps E C A ih ops.toList ops.toList s (K .normal)
    | true => evDraw E C A ih ops.toList s (K .normal)
  | .seq a b => ih a s fun e s' => match e with
    | .normal => ih b s' K
    | e => K e s'
  | .cond c t f => match okOperand c with
    | true => match s.eval c with
      | .bool b => match b with
        | true => ih t s K
        | false => ih f s K
      | _ => A.bad
    | false => A.bad
  | .block id b => ih b s fun e s' => match e with
    | .exit i => match Nat.beq i id with
      | true => K .normal s'
      | false => K (.exit i) s'
    | e => K e s'
  | .loop b => ih b s fun e s' => match e with
    | .normal => ih (.loop b) s' K
    | e => K e s'
  | .rangeFunc g ps assign body => evRange E C A ih g ps assign body s K
  | .exit id => K (.exit id) s
  | .label _ => K .normal s
  | .ret => K .ret s
  | .scope b => ih b s fun e s' => match e with
    | .goto _ => A.bad
    | e => K e s'
  | _ => A.bad

def ev : Nat → Ih ω := Nat.rec (fun _ _ _ => A.bad) (fun _ ih c s K => evStep E C A ih c s K)
end
end
end Go.AE
