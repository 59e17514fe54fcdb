import Derived.Test.YtikdloadbjmeiaaGreatS2
/- An evaluator over an abstract heap: one operation with strings and ranges; what the operations come to. -/
namespace Go.AE
open Go
noncomputable section
variable {U : Un}

/-! ### A store of many cells -/
def ovw (l : List Value) : List Value → List Value := List.rec (fun c => c) (fun v _ ih c => List.casesOn c [] fun _ t => v :: ih t) l
def splice (l : List Value) (o : Nat) : List Value → List Value := Nat.rec (fun c => ovw l c) (fun _ ih c => List.casesOn c [] fun x t => x :: ih t) o

theorem ovw_get : ∀ (l c : List Value) (i : Nat), l.length ≤ c.length → (ovw l c)[i]? = if i < l.length then l[i]? else c[i]?
  | [], c, i, _ => by simp [ovw]
  | v :: l, [], i, h => by simp at h
  | v :: l, x :: c, i, h => by
    show (v :: ovw l c)[i]? = _
    cases i with
    | zero => simp
    | succ i =>
      have := ovw_get l c i (by simpa using h)
      simpa using this

theorem splice_get (l : List Value) : ∀ (o : Nat) (c : List Value) (i : Nat), o + l.length ≤ c.length → (splice l o c)[i]? = if o ≤ i ∧ i < o + l.length then l[i - o]? else c[i]?
  | 0, c, i, h => by
    show (ovw l c)[i]? = _
    rw [ovw_get l c i (by omega)]
    simp
  | o + 1, [], i, h => by simp at h
  | o + 1, x :: c, i, h => by
    show (x :: splice l o c)[i]? = _
    cases i with
    | zero => simp
    | succ i =>
      have := splice_get l o c i (by simp at h; omega)
      simp only [List.getElem?_cons_succ]
      rw [this]
      by_cases h1 : o ≤ i ∧ i < o + l.length
      · rw [if_pos h1, if_pos (by omega), show i + 1 - (o + 1) = i - o by omega]
      · rw [if_neg h1, if_neg (by omega)]

theorem splice_arr {l : List Value} {o : Nat} {C : Array Value} (h : o + l.length ≤ C.size) : setArr C o l = ⟨splice l o C.toList⟩ := by
  apply Array.ext_getElem?
  intro i
  rw [setArr_get l C o i h]
  show _ = (⟨splice l o C.toList⟩ : Array Value)[i]?
  have e : (⟨splice l o C.toList⟩ : Array Value)[i]? = (splice l o C.toList)[i]? := by simp
  rw [e, splice_get l o C.toList i (by simpa using h)]
  simp

def lenF (l : List Value) : Nat := List.rec 0 (fun _ _ ih => Nat.succ ih) l
theorem lenF_eq : ∀ l : List Value, lenF l = l.length
  | [] => rfl
  | _ :: l => by show Nat.succ (lenF l) = _; rw [lenF_eq l]; rfl

def allOneF (l : List Value) : Bool := List.rec true (fun v _ ih => Bool.rec false ih (one v)) l
theorem allOneF_eq : ∀ l : List Value, allOneF l = allOne l
  | [] => rfl
  | v :: l => by
    show Bool.rec false (allOneF l) (one v) = allOne (v :: l)
    rw [allOneF_eq l]
    simp only [allOne]
    cases one v <;> rfl

def aStoreA (P : Program) (t : TypeId) (v x : Value) (h : AH) : Option AH := match v with
  | .pointer (some a) => match a.spot with
    | some _ => none
    | none => match x with
      | .agg xs => match szof P t with
        | none => none
        | some n => match Nat.beq (lenF xs.toList) n with
          | false => none
          | true => match allOneF xs.toList with
            | false => none
            | true => match Nat.ble h.floor a.block with
              | false => none
              | true => match h.get a.block with
                | some (.cells C e f) => match Nat.ble (Nat.add a.off n) (lenF C.toList) with
                  | true => some (h.put a.block (.cells ⟨splice xs.toList a.off C.toList⟩ e f))
                  | false => none
                | _ => none
      | _ => none
  | _ => none

theorem arun_storeCells {P : Program} {a : Addr} (hs : a.spot = none) : ∀ (vs : List Value) (i : Nat) (h : AH) (C : Array Value) (e : TypeId) (f : Nat × Nat), h.get a.block = some (.cells C e f) → Nat.ble h.floor a.block = true → allOne vs = true → a.off + i + vs.length ≤ C.size →
    ∃ h1, arun P (storeCells a vs i) h = some ((), h1) ∧ (∀ b, h1.get b = if b = a.block then some (.cells (setArr C (a.off + i) vs) e f) else h.get b) ∧ h1.floor = h.floor
  | [], i, h, C, e, f, hg, _, _, _ => by
    refine ⟨h, rfl, fun b => ?_, rfl⟩
    by_cases hb : b = a.block
    · rw [if_pos hb, hb]; exact hg
    · rw [if_neg hb]
  | v :: vs, i, h, C, e, f, hg, hf, ho, hl => by
    simp only [allOne] at ho
    cases h1 : one v with
    | false => simp [h1] at ho
    | true =>
      simp only [h1] at ho
      simp only [List.length_cons] at hl
      have hadd : a.add i = ⟨a.block, a.off + i, none⟩ := by
        unfold Addr.add
        by_cases h0 : i = 0
        · subst h0; rw [if_pos rfl]; cases a; simp at hs; subst hs; rfl
        · rw [if_neg h0]
      have hc : h.cell ⟨a.block, a.off + i, none⟩ = some C[a.off + i] := by
        unfold AH.cell
        simp only [hg]
        simp
      have hsc : h.setCell ⟨a.block, a.off + i, none⟩ v = h.put a.block (.cells (C.setIfInBounds (a.off + i) v) e f) := by
        unfold AH.setCell
        simp only [hg]
      obtain ⟨h2, r1, r2, r3⟩ := arun_storeCells hs vs (i + 1) (h.put a.block (.cells (C.setIfInBounds (a.off + i) v) e f)) (C.setIfInBounds (a.off + i) v) e f (by rw [AH.get_put, if_pos rfl]) hf ho (by simp; omega)
      refine ⟨h2, ?_, fun b => ?_, r3⟩
      · unfold storeCells
        rw [arun_bind, hadd]
        unfold Go.store
        simp only [arun, h1, hf, hc, hsc]
        exact r1
      · rw [r2 b]
        by_cases hb : b = a.block
        · rw [if_pos hb, if_pos hb]; rfl
        · rw [if_neg hb, if_neg hb, AH.get_put, if_neg hb]

theorem aStoreA_run {P : Program} {t : TypeId} {v v' x x' : Value} {m : Mp} {h h' : AH} {w : World} (hr : HRel U m h w) (hv : VRel m v v') (hx : VRel m x x') (he : aStoreA P t v x h = some h') :
    ∃ m' w', (Instr.storeAt t v' x').run P w = .ok () w' ∧ Ext m w h.floor m' w' ∧ HRel U m' h' w' ∧ h'.floor = h.floor := by
  unfold aStoreA at he
  cases v <;> simp only at he <;> try (cases he; done)
  rename_i o
  cases o with
  | none => simp at he
  | some a =>
  simp only at he
  cases hs : a.spot with
  | some _ => simp [hs] at he
  | none =>
  simp only [hs] at he
  cases x <;> simp only at he <;> try (cases he; done)
  rename_i xs
  cases hz : szof P t with
  | none => simp [hz] at he
  | some n =>
  simp only [hz] at he
  cases hl : Nat.beq (lenF xs.toList) n <;> simp only [hl] at he <;> try (cases he; done)
  cases ho : allOneF xs.toList <;> simp only [ho] at he <;> try (cases he; done)
  cases hf : Nat.ble h.floor a.block <;> simp only [hf] at he <;> try (cases he; done)
  cases hg : h.get a.block with
  | none => simp [hg] at he
  | some ob =>
  simp only [hg] at he
  cases ob <;> simp only at he <;> try (cases he; done)
  rename_i C e f
  cases hb : Nat.ble (Nat.add a.off n) (lenF C.toList) <;> simp only [hb] at he <;> try (cases he; done)
  simp only [Option.some.injEq] at he
  subst he
  have hlen : xs.toList.length = n := by rw [← lenF_eq]; exact Nat.eq_of_beq_eq_true hl
  have hle : a.off + n ≤ C.size := by have := Nat.le_of_ble_eq_true hb; rw [lenF_eq] at this; simpa using this
  obtain ⟨h1, r1, r2, r3⟩ := arun_storeCells (P := P) hs xs.toList 0 h C e f hg hf (by rw [← allOneF_eq]; exact ho) (by omega)
  obtain ⟨i, hi, hsz⟩ := szof_some hz
  have hrun : arun P (Instr.storeAt t (.pointer (some a)) (.agg xs)) h = some ((), h1) := by
    unfold Instr.storeAt
    rw [arun_bind]
    have e0 : arun P (Instr.sureAddr (.pointer (some a))) h = some (a, h) := rfl
    rw [e0]
    simp only
    unfold storeVar
    rw [arun_bind]
    have e1 : arun P (sizeOf t) h = some (n, h) := by
      unfold sizeOf Go.typeInfo
      rw [arun_bind, arun_bind]
      simp only [Go.program, arun, hi]
      show some (i.size, h) = _
      rw [hsz]
    rw [e1]
    simp only [Value.cells]
    have hxs : xs.size = n := by simpa using hlen
    simp only [hxs, ne_eq, not_true, if_false]
    exact r1
  obtain ⟨m', _, w', q1, q2, q3, _⟩ := sim_storeAt hr t hv hx () h1 hrun
  refine ⟨m', w', q1, q2, HRel.same q3 (fun b => ?_) rfl, rfl⟩
  rw [AH.get_put, r2 b, Nat.add_zero, splice_arr (by omega)]

def aopX (E : Env) (o : Oper) (ρ : Operand → Value) (h : AH) : Option (Next × AH) := match o.op with
  | .convert s d x => match ρ x with
    | .slice _ _ _ => val (aStr E.P s d (ρ x) h) h
    | .string _ => match E.P.underlying d with
      | some (.slice _) => valh (aBytes E.P s d (ρ x) h)
      | _ => aopF E o ρ h
    | _ => aopF E o ρ h
  | .range t x => match ρ x with
    | .string _ => valh (aRangeS E.P t (ρ x) h)
    | _ => valh (aRange E.P t (ρ x) h)
  | .next it isString => match isString with
    | true => valh (aNextS (ρ it) h)
    | false => none
  | .entry it => val (aEntry (ρ it) h) h
  | .store t a x => match aStoreA E.P t (ρ a) (ρ x) h with
    | some h' => some (.skip, h')
    | none => aopF E o ρ h
  | _ => aopF E o ρ h

theorem aopX_congr {E : Env} {o : Oper} {ρ ρ' : Operand → Value} {h : AH} (hx : ∀ x ∈ o.op.operands, ρ x = ρ' x) : aopX E o ρ h = aopX E o ρ' h := by
  have key := aopF_congr (E := E) (h := h) hx
  obtain ⟨dst, op, type, pos, after, guard⟩ := o
  unfold aopX
  cases op <;> simp only <;> try exact key
  all_goals
    simp only [Op.operands, Array.mem_def, List.mem_cons, List.not_mem_nil, or_false, forall_eq_or_imp, forall_eq] at hx
    simp only [hx, key]

section
variable {E : Env} {m : Mp} {h : AH} {w : World}

theorem aopX_run' (hE : EnvOK E) {o : Oper} {ρ ρ' : Operand → Value} {nx : Next} {h' : AH} (hr : HRel U m h w) (hρ : ∀ x ∈ o.op.operands, VRel m (ρ x) (ρ' x)) (he : aopX E o ρ h = some (nx, h')) :
    Res U E.P m h w (execOp ρ' o) nx h' := by
  have key : aopF E o ρ h = some (nx, h') → Res U E.P m h w (execOp ρ' o) nx h' := fun e => aopF_run' hE hr hρ e
  obtain ⟨dst, op, type, pos, after, guard⟩ := o
  unfold aopX at he
  cases op <;> simp only at he <;> try (exact key he)
  case convert s d x =>
    have hx : VRel m (ρ x) (ρ' x) := hρ x (by simp [Op.operands])
    cases hv : ρ x <;> simp only [hv] at he <;> try (exact key he)
    · cases hu : E.P.underlying d with
      | none => simp only [hu] at he; exact key he
      | some dd =>
        cases dd <;> simp only [hu] at he <;> try (exact key he)
        obtain ⟨v, e1, rfl⟩ := valh_some he
        rw [hv] at hx
        exact .valh (aBytes_run hr hx e1)
    · obtain ⟨v, e1, rfl, rfl⟩ := val_some he
      rw [hv] at hx
      exact .vx hr (aStr_run hr hx e1)
  case range t x =>
    have hx : VRel m (ρ x) (ρ' x) := hρ x (by simp [Op.operands])
    have e : (∃ v, aRangeS E.P t (ρ x) h = some (v, h') ∧ nx = .value v) ∨ (∃ v, aRange E.P t (ρ x) h = some (v, h') ∧ nx = .value v) := by
      cases hv : ρ x <;> simp only [hv] at he <;> first | exact .inl (valh_some he) | exact .inr (valh_some he)
    rcases e with ⟨v, e1, rfl⟩ | ⟨v, e1, rfl⟩
    · exact .valh (aRangeS_run hr hx e1)
    · exact .valh (aRange_run hr hx e1)
  case next it isString =>
    have hx : VRel m (ρ it) (ρ' it) := hρ it (by simp [Op.operands])
    cases isString with
    | false => cases he
    | true =>
      obtain ⟨v, e1, rfl⟩ := valh_some he
      exact .valh (aNextS_run _ hr hx e1)
  case store t a x =>
    cases ha : aStoreA E.P t (ρ a) (ρ x) h with
    | none => simp only [ha] at he; exact key he
    | some h2 =>
      simp only [ha, Option.some.injEq, Prod.mk.injEq] at he
      obtain ⟨rfl, rfl⟩ := he
      obtain ⟨m', w', r1, r2, r3, r4⟩ := aStoreA_run hr (hρ a (by simp [Op.operands])) (hρ x (by simp [Op.operands])) ha
      refine ⟨m', .skip, w', ?_, r2, r3, trivial, r4⟩
      unfold execOp
      simp only
      rw [run_bind', r1]
      rfl
  case entry it =>
    have hx : VRel m (ρ it) (ρ' it) := hρ it (by simp [Op.operands])
    obtain ⟨v, e1, rfl, rfl⟩ := val_some he
    exact .vx hr (aEntry_run hr hx e1)

/-- What is asked of a call's end. -/
def CallPost (U : Un) (m : Mp) (w : World) (h : AH) (R : Value → AH → Prop) : Ending → World → Prop
  | .returned v', w' => ∃ v m' h', Ext m w h.floor m' w' ∧ HRel U m' h' w' ∧ VRel m' v v' ∧ h'.floor = h.floor ∧ R v h'
  | _, _ => False

/-- A call, over whatever memory for which the heap stands. -/
def Ok (P : Program) (f : FuncId) (args : Array Value) (h : AH) (R : Value → AH → Prop) : Prop :=
  ∀ (U : Un) (m : Mp) (w : World) (args' : Array Value), HRel U m h w → ArrRel m args args' → Calls P f args' w (CallPost U m w h R)

/-- A round of a range over a function. -/
def RoundOk (P : Program) (l : Nat) (tmps : Array Value) (assign body : Code) (h : AH) (R : Value → AH → Prop) : Prop :=
  ∀ (U : Un) (m : Mp) (w : World) (l' : Nat) (f : FuncId) (tmps' : Array Value), HRel U m h w → RefRel m l l' → ArrRel m tmps tmps' → RoundIn Fence.wide 0 P l' f tmps' assign body w (CallPost U m w h R)

theorem CallPost.mono {m : Mp} {w : World} {h : AH} {R R' : Value → AH → Prop} (hR : ∀ v h', R v h' → R' v h') {e : Ending} {w' : World} (hp : CallPost U m w h R e w') : CallPost U m w h R' e w' := by
  cases e <;> simp only [CallPost] at hp ⊢
  obtain ⟨v, m', h', a, b, c, d, e⟩ := hp
  exact ⟨v, m', h', a, b, c, d, hR _ _ e⟩

theorem Ok.mono {P : Program} {f : FuncId} {args : Array Value} {h : AH} {R R' : Value → AH → Prop} (ho : Ok P f args h R) (hR : ∀ v h', R v h' → R' v h') : Ok P f args h R' :=
  fun U m w args' hr ha => (ho U m w args' hr ha).mono fun _ _ hp => hp.mono hR

theorem RoundOk.mono {P : Program} {l : Nat} {tmps : Array Value} {assign body : Code} {h : AH} {R R' : Value → AH → Prop} (ho : RoundOk P l tmps assign body h R) (hR : ∀ v h', R v h' → R' v h') : RoundOk P l tmps assign body h R' :=
  fun U m w l' f tmps' hr hl ha => (ho U m w l' f tmps' hr hl ha).mono fun _ _ hp => hp.mono hR
end

/-- How an evaluation goes on where it does not go on by itself. -/
structure Orc (ω : Type) where
  bad : ω
  both : List ω → ω
  same : Value → Value → ω → ω
  call : FuncId → Array Value → AH → (Value → AH → ω) → ω
  round : Nat → Array Value → Code → Code → AH → (Value → AH → ω) → ω

structure OrcOK {ω : Type} (P : Program) (good : ω → Prop) (A : Orc ω) : Prop where
  bad : ¬ good A.bad
  both : ∀ l, good (A.both l) → ∀ x ∈ l, good x
  same : ∀ v v' x, good (A.same v v' x) → v = v' ∧ good x
  call : ∀ f args h K, good (A.call f args h K) → Ok P f args h fun v h' => good (K v h')
  round : ∀ l tmps a b h K, good (A.round l tmps a b h K) → RoundOk P l tmps a b h fun v h' => good (K v h')

section
variable {ω : Type} (E : Env) (A : Orc ω)

/-- One operation that is wanted and yields a value. -/
def evV (o : Oper) (ρ : Operand → Value) (h : AH) (K : Value → AH → ω) : ω := match o.op with
  | .next it false => match aNexts (ρ it) h with
    | some [(v, h)] => K v h
    | some l => A.both (l.map fun p => K p.1 p.2)
    | none => A.bad
  | .defer _ => A.bad
  | _ => match aopX E o ρ h with
    | some (.value v, h) => K v h
    | some (.skip, h) => K undef h
    | some (.enter f args, h) => A.call f args h K
    | some (.round l _ tmps assign body, h) => A.round l tmps assign body h K
    | _ => A.bad

variable {E A} {good : ω → Prop}

theorem upon_call {ro : Option Nat} {P : Program} {o : Oper} {a : Act} {next : Act → World → Prop} {Q : Exit → Act → World → Prop} {f : FuncId} {args : Array Value} {w : World} {R : Value → World → Prop}
    (h : Calls P f args w fun e w' => match e with | .returned v => R v w' | _ => False) (hn : ∀ v w', R v w' → next (a.put o.dst v) w') :
    o.uponIn (Fr ro) 0 P a next Q (.ok (.enter f args) w) := by
  rw [Oper.uponIn_enter]
  refine ⟨fun hd => by simp [Fr, Fence.wide] at hd, ?_⟩
  have h1 : CallsIn Fence.wide 0 P f args w _ := callsIn_wide.2 h
  have h2 : CallsIn (Fr ro) (0 - 1) P f args w (fun e w' => match e with | .returned v => R v w' | _ => False) := h1
  refine h2.mono ?_
  intro e w' he
  cases e with
  | returned v => exact hn v w' he
  | panicked c => exact he.elim
  | outgrown => exact he.elim

theorem upon_round {ro : Option Nat} {P : Program} {o : Oper} {a : Act} {next : Act → World → Prop} {Q : Exit → Act → World → Prop} {l : Nat} {f : FuncId} {tmps : Array Value} {x y : Code} {w : World} {R : Value → World → Prop}
    (h : RoundIn Fence.wide 0 P l f tmps x y w fun e w' => match e with | .returned v => R v w' | _ => False) (hn : ∀ v w', R v w' → next (a.put o.dst v) w') :
    o.uponIn (Fr ro) 0 P a next Q (.ok (.round l f tmps x y) w) := by
  rw [Oper.uponIn_round]
  refine ⟨fun hd => by simp [Fr, Fence.wide] at hd, ?_⟩
  have h2 : RoundIn (Fr ro) (0 - 1) P l f tmps x y w (fun e w' => match e with | .returned v => R v w' | _ => False) := h
  refine h2.mono ?_
  intro e w' he
  cases e with
  | returned v => exact hn v w' he
  | panicked c => exact he.elim
  | outgrown => exact he.elim

theorem evV_ok (hE : EnvOK E) (hA : OrcOK E.P good A) {o : Oper} {ρ : Operand → Value} {h : AH} {K : Value → AH → ω} {m : Mp} {a : Act} {w : World} {ro : Option Nat} {next : Act → World → Prop} {Q : Exit → Act → World → Prop}
    (hg : good (evV E A o ρ h K)) (hr : HRel U m h w) (hρ : ∀ x ∈ o.op.operands, VRel m (ρ x) (a.eval x))
    (hn : ∀ m' v v' h' w', Ext m w h.floor m' w' → HRel U m' h' w' → VRel m' v v' → h'.floor = h.floor → good (K v h') → next (a.put o.dst v') w') :
    o.wpIn (Fr ro) 0 E.P a w next Q := by
  refine ⟨fun f _ => trivial, ?_⟩
  have fin : (∀ c, o.op ≠ .defer c) → good (match aopX E o ρ h with
      | some (.value v, h) => K v h
      | some (.skip, h) => K undef h
      | some (.enter f args, h) => A.call f args h K
      | some (.round l _ tmps assign body, h) => A.round l tmps assign body h K
      | _ => A.bad) → o.uponIn (Fr ro) 0 E.P a next Q ((o.semAt (Fr ro).round a.eval).run E.P w) := by
    intro hd hg
    rw [Oper.semAt_eq _ _ _ hd]
    cases hx : aopX E o ρ h with
    | none => simp only [hx] at hg; exact absurd hg hA.bad
    | some q =>
      obtain ⟨nx, h1⟩ := q
      simp only [hx] at hg
      obtain ⟨m1, nx', w1, r1, r2, r3, r4, r5⟩ := aopX_run' hE hr hρ hx
      rw [r1]
      cases nx <;> simp only at hg <;> try (exact absurd hg hA.bad)
      case value v =>
        cases nx' <;> try (exact r4.elim)
        rw [Oper.uponIn_value]
        exact hn _ _ _ _ _ r2 r3 r4 r5 hg
      case skip =>
        cases nx' <;> try (exact r4.elim)
        rw [Oper.uponIn_skip]
        exact hn _ _ _ _ _ r2 r3 (.tuple .nil) r5 hg
      case enter f args =>
        cases nx' <;> try (exact r4.elim)
        obtain ⟨rfl, r4⟩ := r4
        refine upon_call (R := fun v' w' => CallPost U m1 w1 h1 (fun v h' => good (K v h')) (.returned v') w') ((hA.call _ _ _ _ hg U m1 w1 _ r3 r4).mono ?_) ?_
        · intro e w' hp
          cases e <;> exact hp
        · rintro v' w' ⟨v, m2, h2, q1, q2, q3, q4, q5⟩
          rw [r5] at q1
          exact hn _ _ _ _ _ (r2.trans q1) q2 q3 (q4.trans r5) q5
      case round l f tmps x y =>
        cases nx' <;> try (exact r4.elim)
        obtain ⟨r4, r6, rfl, rfl⟩ := r4
        refine upon_round (R := fun v' w' => CallPost U m1 w1 h1 (fun v h' => good (K v h')) (.returned v') w') ((hA.round _ _ _ _ _ _ hg U m1 w1 _ _ _ r3 r4 r6).mono ?_) ?_
        · intro e w' hp
          cases e <;> exact hp
        · rintro v' w' ⟨v, m2, h2, q1, q2, q3, q4, q5⟩
          rw [r5] at q1
          exact hn _ _ _ _ _ (r2.trans q1) q2 q3 (q4.trans r5) q5
  unfold evV at hg
  cases ho : o.op <;> simp only [ho] at hg <;> try (exact fin (by intro c hc; rw [ho] at hc; cases hc) hg)
  case next it b =>
    cases b with
    | true => exact fin (by intro c hc; rw [ho] at hc; cases hc) hg
    | false =>
      have hd : ∀ c, o.op ≠ .defer c := by intro c hc; rw [ho] at hc; cases hc
      rw [Oper.semAt_eq _ _ _ hd]
      have hit : VRel m (ρ it) (a.eval it) := hρ it (by rw [ho]; simp [Op.operands])
      cases hx : aNexts (ρ it) h with
      | none => simp only [hx] at hg; exact absurd hg hA.bad
      | some l =>
        have hall : ∀ p ∈ l, good (K p.1 p.2) := by
          simp only [hx] at hg
          split at hg
          · rename_i v h1 e
            simp only [Option.some.injEq] at e
            subst e
            intro p hp
            simp only [List.mem_singleton] at hp
            subst hp; exact hg
          · rename_i l' _ e
            simp only [Option.some.injEq] at e
            subst e
            intro p hp
            exact hA.both _ hg _ (List.mem_map.2 ⟨p, hp, rfl⟩)
          · rename_i e; cases e
        obtain ⟨p, hp, v', w', r1, r2, r3, r4, r5⟩ := aNexts_run (P := E.P) o.type hr hit hx
        have hrun : (execOp a.eval o).run E.P w = .ok (.value v') w' := by
          unfold execOp
          simp only [ho]
          rw [run_bind', r1]
          rfl
        rw [hrun, Oper.uponIn_value]
        exact hn _ _ _ _ _ r2 r3 r4 r5 (hall p hp)
  case defer c => exact absurd hg hA.bad
end
end
end Go.AE
