import Derived.Test.YtikdloadbjmeiaaGreatS10
/- An evaluator over an abstract heap: the evaluator. -/
namespace Go.AE
open Go
noncomputable section

def mkAnc : List Oper → List Nat → List Nat
  | [], T => T
  | o :: os, T => mkAnc os (T ++ [upE T o.after.toList])

def isFl (o : Oper) : Bool := match o.dst with
  | none => false
  | some _ => match makes o with
    | true => true
    | false => match o.op with
      | .move _ | .assign _ | .pick .. | .build .. | .load .. | .nilCheck _ | .binOp .. | .unOp .. | .convert .. | .makeInterface .. | .makeFunc .. | .slice .. | .fieldAddr .. | .field ..
      | .indexAddr .. | .index .. | .lookup .. | .typeAssert .. | .extract .. => true
      | .call c => match c.callee with
        | .builtin .len => true
        | _ => false
      | _ => false

def flAt (all : List Oper) (D i : Nat) (o : Oper) : Bool := match isFl o with
  | false => false
  | true => match o.dst with
    | none => false
    | some d => Nat.beq (Nat.land (readM all d all 0) (Nat.lor D (bt i))) 0

/-- The first that may come: of those that need not wait (true), or of the others. -/
def firstOf (all : List Oper) (fl : Bool) (D : Nat) : List Oper → Nat → Option Nat
  | [], _ => none
  | o :: os, i => match D.testBit i with
    | true => firstOf all fl D os (i + 1)
    | false => match subm (depE o.after.toList) D with
      | false => firstOf all fl D os (i + 1)
      | true => match fl, flAt all D i o with
        | true, true => some i
        | false, false => some i
        | _, _ => firstOf all fl D os (i + 1)

def chksOf (E : Env) (D Tb : Nat) : List Oper → Nat → List Stp → List Stp
  | [], _, r => r
  | o :: os, i, r => match D.testBit i with
    | false => chksOf E D Tb os (i + 1) r
    | true => match Tb.testBit i with
      | true => chksOf E D Tb os (i + 1) r
      | false => match reads E o with
        | false => chksOf E D Tb os (i + 1) r
        | true => match makes o with
          | true => chksOf E D Tb os (i + 1) r
          | false => .chk i :: chksOf E D Tb os (i + 1) r

def mkPlan (E : Env) (ops : List Oper) (T : List Nat) : Nat → Nat → List Stp
  | 0, _ => []
  | n + 1, D => match firstOf ops true D ops 0 with
    | some i => .run i :: mkPlan E ops T n (Nat.lor D (bt i))
    | none => match firstOf ops false D ops 0 with
      | some i => .bar i :: chksOf E D (T.getD i 0) ops 0 (mkPlan E ops T n (Nat.lor D (bt i)))
      | none => []

/-- A region's plan, if there is one. -/
def planOf (E : Env) (ops : List Oper) : Option (List Stp) := match mkAnc ops [] with
  | T => match mkPlan E ops T ops.length 0 with
    | p => match planOk E ops T p with
      | true => some p
      | false => none

section
variable {ω : Type}

abbrev Ih' (ω : Type) := Code → St → (Exit → St → ω) → ω

/-- What the evaluation is given from outside. -/
structure Giv (ω : Type) where
  bad : ω
  both : List ω → ω
  same : Value → Value → ω → ω
  con : FuncId → Option (Array Value → AH → (Value → AH → ω) → ω)

structure GivOK (P : Program) (good : ω → Prop) (G : Giv ω) : Prop where
  bad : ¬ good G.bad
  both : ∀ l, good (G.both l) → ∀ x ∈ l, good x
  same : ∀ v v' x, good (G.same v v' x) → v = v' ∧ good x
  con : ∀ f k args h K, G.con f = some k → good (k args h K) → Ok P f args h fun v h' => good (K v h')

variable (E : Env) (G : Giv ω) (ih : Ih' ω)

def evDfr (f : FuncId) (args : Array Value) (h : AH) (K : AH → ω) : ω := match E.P.funcs[f]? with
  | none => G.bad
  | some fn => match fn.body with
    | none => G.bad
    | some c => match (fn.name == "runtime.NumGoroutine") with
      | true => G.bad
      | false => ih c (st0 fn args h) fun e s => match e with
        | .normal => match s.defers with
          | [] => match aRes E.P s fn.results.toList with
            | some _ => K s.heap
            | none => G.bad
          | _ :: _ => G.bad
        | .ret => match s.defers with
          | [] => match aRes E.P s fn.results.toList with
            | some _ => K s.heap
            | none => G.bad
          | _ :: _ => G.bad
        | _ => G.bad

def evLv (fn : Func) (s : St) (K : Value → AH → ω) : List Deferred → AH → ω
  | [], h => match aRes E.P (s.on h) fn.results.toList with
    | some vs => K (oneOf vs) h
    | none => G.bad
  | d :: ds, h => match d.target with
    | .collected r => match Nat.ble h.floor r with
      | false => G.bad
      | true => match h.get r with
        | some (.deferred (some [])) => evLv fn s K ds (h.put r (.deferred none))
        | _ => G.bad
    | .fn (.func g) cap => evDfr E G ih g (d.args ++ cap) h fun h' => evLv fn s K ds h'
    | _ => G.bad

def evFn (f : FuncId) (args : Array Value) (h : AH) (K : Value → AH → ω) : ω := match G.con f with
  | some k => k args h K
  | none => match E.P.funcs[f]? with
    | none => G.bad
    | some fn => match fn.body with
      | none => G.bad
      | some c => ih c (st0 fn args h) fun e s => match e with
        | .normal => evLv E G ih fn s K s.defers s.heap
        | .ret => evLv E G ih fn s K s.defers s.heap
        | _ => G.bad

def evEndR (l : Nat) (jump : Option Code) (h : AH) (K : Value → AH → ω) : ω := match Nat.ble h.floor l with
  | false => G.bad
  | true => match h.get l with
    | some (.loop r) => K (.bool jump.isNone) (h.put l (.loop { r with state := if jump.isNone then .ready else .done, pending := jump }))
    | _ => G.bad

def evRnd (l : Nat) (tmps : Array Value) (assign body : Code) (h : AH) (K : Value → AH → ω) : ω :=
  ih assign (stR l tmps h) fun e s => match e with
    | .normal => match Nat.ble s.heap.floor l with
      | false => G.bad
      | true => match s.heap.get l with
        | some (.loop r) => match r.state with
          | .ready => ih body (s.on (s.heap.put l (.loop { r with state := .busy }))) fun e s => match e with
            | .normal => evEndR G l none s.heap K
            | .ret => evEndR G l (some .ret) s.heap K
            | .exit id => evEndR G l (some (.exit id)) s.heap K
            | _ => G.bad
          | _ => G.bad
        | _ => G.bad
    | _ => G.bad

def orcOf : Orc ω := { bad := G.bad, both := G.both, same := G.same, call := evFn E G ih, round := evRnd G ih }

def evStp (c : Code) (s : St) (K : Exit → St → ω) : ω := match c with
  | .skip => K .normal s
  | .region _ ops draw => match draw with
    | false => evTxt E (orcOf E G ih) ops.toList ops.toList s (K .normal)
    | true => match planOf E ops.toList with
      | some p => evPlan E (orcOf E G ih) ops p s (K .normal)
      | none => G.bad
  | .seq a b => ih a s fun e s' => match e with
    | .normal => ih b s' K
    | e => K e s'
  | .cond c t f => match okOperand c with
    | true => match s.eval c with
      | .bool b => match b with
        | true => ih t s K
        | false => ih f s K
      | _ => G.bad
    | false => G.bad
  | .block id b => ih b s fun e s' => match e with
    | .exit i => match Nat.beq i id with
      | true => K .normal s'
      | false => K (.exit i) s'
    | e => K e s'
  | .loop b => ih b s fun e s' => match e with
    | .normal => ih (.loop b) s' K
    | e => K e s'
  | .rangeFunc g ps assign body => evRng E (orcOf E G ih) g ps assign body s K
  | .exit id => K (.exit id) s
  | .label _ => K .normal s
  | .ret => K .ret s
  | .scope b => ih b s fun e s' => match e with
    | .goto _ => G.bad
    | e => K e s'
  | _ => G.bad

def evC : Nat → Ih' ω := Nat.rec (fun _ _ _ => G.bad) (fun _ ih c s K => evStp E G ih c s K)

variable {E G ih} {good : ω → Prop}

def IhG (P : Program) (good : ω → Prop) (ih : Ih' ω) : Prop := ∀ c s K, good (ih c s K) → Wc P c s fun e s' => good (K e s')

theorem evDfr_ok (hG : GivOK E.P good G) (hi : IhG E.P good ih) {f : FuncId} {args : Array Value} {h : AH} {K : AH → ω} (hg : good (evDfr E G ih f args h K)) :
    (∃ fg, E.P.funcs[f]? = some fg ∧ fg.body.isSome = true ∧ (fg.name == "runtime.NumGoroutine") = false) ∧ OkD E.P f args h fun h' => good (K h') := by
  unfold evDfr at hg
  cases hf : E.P.funcs[f]? with
  | none => simp only [hf] at hg; exact absurd hg hG.bad
  | some fn =>
  simp only [hf] at hg
  cases hb : fn.body with
  | none => simp only [hb] at hg; exact absurd hg hG.bad
  | some c =>
  simp only [hb] at hg
  cases hn : (fn.name == "runtime.NumGoroutine") with
  | true => simp only [hn] at hg; exact absurd hg hG.bad
  | false =>
  simp only [hn] at hg
  refine ⟨⟨fn, rfl, by simp [hb], hn⟩, .body hf hb ((hi _ _ _ hg).mono ?_)⟩
  intro e s hk
  have key : good (match s.defers with
          | [] => match aRes E.P s fn.results.toList with
            | some _ => K s.heap
            | none => G.bad
          | _ :: _ => G.bad) → s.defers = [] ∧ (∃ vs, aRes E.P s fn.results.toList = some vs) ∧ good (K s.heap) := by
    intro h1
    cases hd : s.defers with
    | cons _ _ => simp only [hd] at h1; exact absurd h1 hG.bad
    | nil =>
      simp only [hd] at h1
      cases hr : aRes E.P s fn.results.toList with
      | none => simp only [hr] at h1; exact absurd h1 hG.bad
      | some vs => simp only [hr] at h1; exact ⟨rfl, ⟨vs, rfl⟩, h1⟩
  cases e <;> simp only at hk <;> try (exact absurd hk hG.bad)
  · exact ⟨.inl rfl, key hk⟩
  · exact ⟨.inr rfl, key hk⟩

theorem evLv_ok (hG : GivOK E.P good G) (hi : IhG E.P good ih) {fn : Func} {s : St} {K : Value → AH → ω} : ∀ {ds : List Deferred} {h : AH}, good (evLv E G ih fn s K ds h) → LvA E.P fn s (fun v h' => good (K v h')) ds h
  | [], h, hg => by
    simp only [evLv] at hg
    cases hr : aRes E.P (s.on h) fn.results.toList with
    | none => simp only [hr] at hg; exact absurd hg hG.bad
    | some vs => simp only [hr] at hg; exact ⟨vs, hr, hg⟩
  | d :: ds, h, hg => by
    simp only [evLv] at hg
    simp only [LvA]
    cases ht : d.target <;> simp only [ht] at hg <;> try (exact absurd hg hG.bad)
    case collected r =>
      cases hb : Nat.ble h.floor r with
      | false => simp only [hb] at hg; exact absurd hg hG.bad
      | true =>
        simp only [hb] at hg
        cases hgt : h.get r with
        | none => simp only [hgt] at hg; exact absurd hg hG.bad
        | some o =>
          cases o <;> simp only [hgt] at hg <;> try (exact absurd hg hG.bad)
          rename_i calls
          cases calls with
          | none => simp only at hg; exact absurd hg hG.bad
          | some l =>
            cases l with
            | cons _ _ => simp only at hg; exact absurd hg hG.bad
            | nil => simp only at hg; exact ⟨Nat.le_of_ble_eq_true hb, hgt, evLv_ok hG hi hg⟩
    case fn f cap =>
      cases f <;> simp only at hg <;> try (exact absurd hg hG.bad)
      obtain ⟨h1, h2⟩ := evDfr_ok hG hi hg
      exact ⟨h1, h2.mono fun h' hk => evLv_ok hG hi hk⟩

theorem evFn_ok (hG : GivOK E.P good G) (hi : IhG E.P good ih) {f : FuncId} {args : Array Value} {h : AH} {K : Value → AH → ω} (hg : good (evFn E G ih f args h K)) : Ok E.P f args h fun v h' => good (K v h') := by
  unfold evFn at hg
  cases hc : G.con f with
  | some k => simp only [hc] at hg; exact hG.con _ _ _ _ _ hc hg
  | none =>
  simp only [hc] at hg
  cases hf : E.P.funcs[f]? with
  | none => simp only [hf] at hg; exact absurd hg hG.bad
  | some fn =>
  simp only [hf] at hg
  cases hb : fn.body with
  | none => simp only [hb] at hg; exact absurd hg hG.bad
  | some c =>
  simp only [hb] at hg
  refine .body hf hb ((hi _ _ _ hg).mono ?_)
  intro e s hk
  cases e <;> simp only at hk <;> try (exact absurd hk hG.bad)
  · exact evLv_ok hG hi hk
  · exact evLv_ok hG hi hk

theorem evEndR_ok (hG : GivOK E.P good G) {l : Nat} {jump : Option Code} {h : AH} {K : Value → AH → ω} (hg : good (evEndR G l jump h K)) : EndR l jump h fun v h' => good (K v h') := by
  unfold evEndR at hg
  cases hb : Nat.ble h.floor l with
  | false => simp only [hb] at hg; exact absurd hg hG.bad
  | true =>
    simp only [hb] at hg
    cases hgt : h.get l with
    | none => simp only [hgt] at hg; exact absurd hg hG.bad
    | some o =>
      cases o <;> simp only [hgt] at hg <;> try (exact absurd hg hG.bad)
      exact ⟨Nat.le_of_ble_eq_true hb, _, hgt, hg⟩

theorem evRnd_ok (hG : GivOK E.P good G) (hi : IhG E.P good ih) {l : Nat} {tmps : Array Value} {assign body : Code} {h : AH} {K : Value → AH → ω} (hg : good (evRnd G ih l tmps assign body h K)) :
    RoundOk E.P l tmps assign body h fun v h' => good (K v h') := by
  unfold evRnd at hg
  refine .body ((hi _ _ _ hg).mono ?_)
  intro e s hk
  cases e <;> simp only at hk <;> try (exact absurd hk hG.bad)
  cases hb : Nat.ble s.heap.floor l with
  | false => simp only [hb] at hk; exact absurd hk hG.bad
  | true =>
  simp only [hb] at hk
  cases hgt : s.heap.get l with
  | none => simp only [hgt] at hk; exact absurd hk hG.bad
  | some o =>
  cases o <;> simp only [hgt] at hk <;> try (exact absurd hk hG.bad)
  rename_i r
  cases hst : r.state <;> simp only [hst] at hk <;> try (exact absurd hk hG.bad)
  have hk2 := hi _ _ _ hk
  refine ⟨Nat.le_of_ble_eq_true hb, r, hgt, hst, hk2.mono ?_⟩
  intro e2 s2 hk3
  cases e2 <;> simp only at hk3 <;> try (exact absurd hk3 hG.bad)
  · exact evEndR_ok hG hk3
  · exact evEndR_ok hG hk3
  · exact evEndR_ok hG hk3

theorem orcOf_ok (hG : GivOK E.P good G) (hi : IhG E.P good ih) : OrcOK E.P good (orcOf E G ih) where
  bad := hG.bad
  both := hG.both
  same := hG.same
  call _ _ _ _ hg := evFn_ok hG hi hg
  round _ _ _ _ _ _ hg := evRnd_ok hG hi hg

theorem evStp_ok (hE : EnvOK E) (hm : E.P.follows .mixedOrders = true) (hG : GivOK E.P good G) (hi : IhG E.P good ih) : IhG E.P good (evStp E G ih) := by
  intro c s K hg
  have hA := orcOf_ok hG hi
  cases c <;> simp only [evStp] at hg <;> try (exact absurd hg hG.bad)
  case skip => exact .skip hg
  case exit => exact .exit hg
  case label => exact .label hg
  case ret => exact .ret hg
  case region id ops draw =>
    cases draw with
    | false =>
      refine (Wc.txt hE hA (K := fun s' => K .normal s') hg).mono ?_
      intro e s' hk
      cases e <;> first | exact hk | exact hk.elim
    | true =>
      simp only at hg
      cases hp : planOf E ops.toList with
      | none => simp only [hp] at hg; exact absurd hg hG.bad
      | some p =>
        simp only [hp] at hg
        have hpo : planOk E ops.toList (mkAnc ops.toList []) p = true := by
          unfold planOf at hp
          simp only at hp
          split at hp
          · rename_i h1; cases hp; exact h1
          · cases hp
        refine (Wc.draw hE hA hm (K := fun s' => K .normal s') p hpo hg).mono ?_
        intro e s' hk
        cases e <;> first | exact hk | exact hk.elim
  case seq a b =>
    refine .seq ((hi _ _ _ hg).mono ?_)
    intro e s' hk
    cases e <;> first | exact hi _ _ _ hk | exact hk
  case cond c t f =>
    cases hok : okOperand c with
    | false => simp only [hok] at hg; exact absurd hg hG.bad
    | true =>
      simp only [hok] at hg
      cases hv : s.eval c <;> simp only [hv] at hg <;> try (exact absurd hg hG.bad)
      rename_i b
      refine .cond b hok hv ?_
      cases b <;> exact hi _ _ _ hg
  case block id b =>
    refine .block ((hi _ _ _ hg).mono ?_)
    intro e s' hk
    cases e <;> try exact hk
    rename_i i
    simp only [inBlk]
    cases hb : Nat.beq i id <;> simp only [hb] at hk ⊢ <;> exact hk
  case loop b =>
    refine .unroll ((hi _ _ _ hg).mono ?_)
    intro e s' hk
    cases e <;> first | exact hi _ _ _ hk | exact hk
  case rangeFunc g ps assign body => exact .rng hE hA hg
  case scope b =>
    refine .scope ((hi _ _ _ hg).mono ?_)
    intro e s' hk
    cases e <;> first | exact hk | exact absurd hk hG.bad

theorem evC_ok (hE : EnvOK E) (hm : E.P.follows .mixedOrders = true) (hG : GivOK E.P good G) : ∀ n, IhG E.P good (evC E G n)
  | 0 => fun _ _ _ hg => absurd hg hG.bad
  | n + 1 => fun c s K hg => evStp_ok hE hm hG (evC_ok hE hm hG n) c s K hg
end
end
end Go.AE
