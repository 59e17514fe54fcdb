import Derived.Test.YtikdloadbjmeiaaGreatFA
/- An evaluator over an abstract heap: the same, quick: operations, calls. -/
namespace Go.AE
open Go
noncomputable section

def setL (v : Value) : Nat → List Value → List Value := fun i => Nat.rec (fun l => List.casesOn l [] fun _ t => v :: t) (fun _ ih l => List.casesOn l [] fun x t => x :: ih t) i
theorem setL_eq (v : Value) : ∀ (i : Nat) (l : List Value), setL v i l = l.set i v
  | 0, [] => rfl
  | 0, _ :: _ => rfl
  | i + 1, [] => rfl
  | i + 1, x :: l => by
    show x :: setL v i l = _
    rw [setL_eq v i l]; rfl

def oneC (v : Value) : Bool := match v with
  | .agg _ => false
  | .tuple _ => false
  | _ => true
theorem oneC_eq (v : Value) : oneC v = one v := rfl

structure Fh where
  run : St → Option AH

section
variable (E : Env)

/-- A store into one cell. -/
def storeC (t : TypeId) (a x : Operand) : Fh := match szof E.P t with
  | some 1 => ⟨fun s => match (opdC a).run s with
    | .pointer a => match a with
      | some a => match a.spot with
        | none => Bool.rec none (Bool.rec none (Option.rec none (fun o => match o with
            | .cells c e f => Option.rec none (fun _ => some (s.heap.put a.block (.cells ⟨setL ((opdC x).run s) a.off c.toList⟩ e f))) (nthL a.off c.toList)
            | _ => none) (s.heap.get a.block)) (Nat.ble s.heap.floor a.block)) (oneC ((opdC x).run s))
        | some _ => none
      | none => none
    | _ => none⟩
  | _ => ⟨fun _ => none⟩

variable {E}

theorem arun_storeAt1 {P : Program} {t : TypeId} (hz : szof P t = some 1) {a : Addr} {v : Value} (h1 : one v = true) {h : AH} (hf : Nat.ble h.floor a.block = true) {u : Value} (hc : h.cell a = some u) :
    arun P (Instr.storeAt t (.pointer (some a)) v) h = some ((), h.setCell a v) := by
  obtain ⟨i, hi, hsz⟩ := szof_some hz
  have hcs : v.cells = #[v] := by cases v <;> first | rfl | (simp [one] at h1)
  have ha : a.add 0 = a := by simp [Addr.add]
  unfold Instr.storeAt
  rw [arun_bind]
  have e0 : arun P (Instr.sureAddr (.pointer (some a))) h = some (a, h) := rfl
  rw [e0]
  simp only
  unfold storeVar
  rw [arun_bind]
  have e1 : arun P (sizeOf t) h = some (1, h) := by
    unfold sizeOf Go.typeInfo
    simp only [arun_bind, Go.program, arun, hi, hsz, arun_pure']
  rw [e1]
  simp only [hcs]
  rw [if_neg (by simp)]
  show arun P (storeCells a [v] 0) h = _
  unfold storeCells
  rw [arun_bind, ha]
  unfold Go.store
  simp only [arun, h1, hf, hc]
  unfold storeCells
  rfl

theorem aStoreA_none {P : Program} {t : TypeId} {v x : Value} {h : AH} (h1 : one x = true) : aStoreA P t v x h = none := by
  unfold aStoreA
  cases v <;> try rfl
  rename_i o
  cases o with
  | none => rfl
  | some a =>
    simp only
    cases a.spot with
    | some _ => rfl
    | none => cases x <;> first | rfl | (simp [one] at h1)

theorem storeC_ok {o : Oper} {t : TypeId} {a x : Operand} (ho : o.op = .store t a x) {s : St} {h' : AH} (h : (storeC E t a x).run s = some h') : aopX E o s.eval s.heap = some (.skip, h') := by
  obtain ⟨dst, op, type, pos, after, guard⟩ := o
  simp only at ho
  subst ho
  unfold storeC at h
  split at h
  · rename_i hz
    simp only [opdC_eq] at h
    cases hv : s.eval a <;> simp only [hv] at h <;> try (cases h; done)
    rename_i ad
    cases ad with
    | none => cases h
    | some ad =>
      simp only at h
      cases hs : ad.spot with
      | some _ => simp only [hs] at h; cases h
      | none =>
        simp only [hs] at h
        cases h1 : oneC (s.eval x) with
        | false => rw [h1] at h; cases h
        | true =>
          rw [h1] at h
          cases hf : Nat.ble s.heap.floor ad.block with
          | false => rw [hf] at h; cases h
          | true =>
            rw [hf] at h
            cases hg : s.heap.get ad.block with
            | none => rw [hg] at h; cases h
            | some ob =>
              rw [hg] at h
              simp only at h
              cases ob <;> simp only at h <;> try (cases h; done)
              rename_i c e f
              cases hn : nthL ad.off c.toList with
              | none => rw [hn] at h; cases h
              | some u =>
                rw [hn] at h
                simp only [Option.some.injEq] at h
                have hc : s.heap.cell ad = some u := by
                  rw [← cellC_eq _ _ hs]
                  unfold cellC
                  rw [hg]
                  exact hn
                unfold aopX
                simp only
                rw [aStoreA_none (by rw [← oneC_eq]; exact h1)]
                simp only
                unfold aopF aop
                simp only
                rw [hv, arun_storeAt1 hz (by rw [← oneC_eq]; exact h1) hf hc]
                unfold AH.setCell
                rw [hg]
                simp only [skiph]
                subst h
                rw [setL_eq]
                have : c.setIfInBounds ad.off (s.eval x) = ⟨c.toList.set ad.off (s.eval x)⟩ := by
                  apply Array.ext'
                  simp
                rw [this]
  · cases h

theorem storeA_ok {o : Oper} {t : TypeId} {a x : Operand} (ho : o.op = .store t a x) {s : St} {h' : AH} (h : aStoreA E.P t ((opdC a).run s) ((opdC x).run s) s.heap = some h') : aopX E o s.eval s.heap = some (.skip, h') := by
  obtain ⟨dst, op, type, pos, after, guard⟩ := o
  simp only at ho
  subst ho
  rw [opdC_eq, opdC_eq] at h
  unfold aopX
  simp only [h]

/-- What is laid into new memory. -/
structure Fo where
  run : St → Option Obj

def allocC (E : Env) (o : Oper) : Fo := match o.op with
  | .alloc t => match E.P.info? t with
    | some i => match i.zero with
      | some z => match plain z with
        | true => ⟨fun _ => some (.cells z.cells t)⟩
        | false => ⟨fun _ => none⟩
      | none => ⟨fun _ => none⟩
    | none => ⟨fun _ => none⟩
  | .box t x => ⟨fun s => some (.cells ((opdC x).run s).cells t)⟩
  | _ => ⟨fun _ => none⟩

theorem allocC_ok {o : Oper} {s : St} {ob : Obj} (h : (allocC E o).run s = some ob) (hn : s.heap.get s.heap.fresh = none) : aopX E o s.eval s.heap = some (.value (.pointer (some ⟨s.heap.fresh, 0, none⟩)), aPush s.heap ob) := by
  obtain ⟨dst, op, type, pos, after, guard⟩ := o
  unfold allocC at h
  unfold aopX aopF aop
  cases op <;> simp only at h ⊢ <;> try (cases h; done)
  case alloc t =>
    cases hi : E.P.info? t with
    | none => simp only [hi] at h; cases h
    | some i =>
      simp only [hi] at h
      cases hz : i.zero with
      | none => simp only [hz] at h; cases h
      | some z =>
        simp only [hz] at h
        cases hp : plain z with
        | false => simp only [hp] at h; cases h
        | true =>
          simp only [hp, Option.some.injEq] at h
          subst h
          have hzo : zok E.P t = true := by unfold zok; rw [hi]; simp only [hz, hp]
          rw [hzo]
          simp only
          have e1 : arun E.P (Instr.alloc t true (.tuple #[])) s.heap = arun E.P (do let a ← newVar t z; pure (.pointer (some a))) s.heap := by
            unfold Instr.alloc Go.zeroValue Go.typeInfo
            simp only [arun_bind, Go.program, arun, hi, arun_pure', hz]
          rw [e1, arun_bind, arun_newVar, aNew_none _ hn]
          rfl
  case box t x =>
    rw [opdC_eq] at h
    simp only [Option.some.injEq] at h
    subst h
    unfold Instr.box
    rw [arun_bind, arun_newVar, aNew_none _ hn]
    rfl
end

section
variable {ω : Type} (E : Env) (G : Giv ω)

structure Pt (ω : Type) where
  run : St → Value → AH → (St → ω) → ω
  keep : St → Value → (St → ω) → ω

def putC (bad : ω) (d : Option Tmp) : Pt ω := match d with
  | none => ⟨fun s _ h K => St.rec (motive := fun _ => ω) (fun t n _ ds r => K ⟨t, n, h, ds, r⟩) s, fun s _ K => K s⟩
  | some d => ⟨fun s v h K => St.rec (motive := fun _ => ω) (fun t n _ ds r => Bool.rec (K ⟨t.set (Nat.add d 1) v, n, h, ds, r⟩) bad (Nat.ble n d)) s,
      fun s v K => St.rec (motive := fun _ => ω) (fun t n h ds r => Bool.rec (K ⟨t.set (Nat.add d 1) v, n, h, ds, r⟩) bad (Nat.ble n d)) s⟩

theorem putC_keep (bad : ω) (d : Option Tmp) (s : St) (v : Value) (K : St → ω) : (putC bad d).keep s v K = (putC bad d).run s v s.heap K := by
  cases d <;> cases s <;> rfl

theorem putC_eq (bad : ω) (d : Option Tmp) (s : St) (v : Value) (h : AH) (K : St → ω) : (putC bad d).run s v h K = St.put (s.on h) d v bad K := by
  cases d with
  | none => cases s; rfl
  | some d =>
    obtain ⟨t, n, h0, ds, r⟩ := s
    unfold putC St.put St.on
    simp only
    cases Nat.ble n d <;> rfl

theorem put_eq (bad : ω) (d : Option Tmp) (s : St) (v : Value) (K : St → ω) : (putC bad d).run s v s.heap K = St.put s d v bad K := by
  rw [putC_eq]; cases s; rfl

structure Lc where
  run : St → List Value

def argsC (l : List Operand) : Lc := List.rec ⟨fun _ => []⟩ (fun x _ ih => ⟨fun s => (opdC x).run s :: ih.run s⟩) l
theorem argsC_eq (s : St) : ∀ l : List Operand, (argsC l).run s = l.map s.eval
  | [] => rfl
  | x :: l => by
    show (opdC x).run s :: (argsC l).run s = _
    rw [opdC_eq, argsC_eq s l]; rfl

structure Fc (ω : Type) where
  run : Ih' ω → Array Value → AH → (Value → AH → ω) → ω

/-- A call. -/
def fnC (f : FuncId) : Fc ω := match G.con f with
  | some k => ⟨fun _ args h K => k args h K⟩
  | none => match E.P.funcs[f]? with
    | none => ⟨fun _ _ _ _ => G.bad⟩
    | some fn => match fn.body with
      | none => ⟨fun _ _ _ _ => G.bad⟩
      | some c => ⟨fun ih args h K => ih c (st0 fn args h) fun e s => St.rec (motive := fun _ => ω) (fun t n h ds r => match e with
        | .normal => evLv E G ih fn ⟨t, n, h, ds, r⟩ K ds h
        | .ret => evLv E G ih fn ⟨t, n, h, ds, r⟩ K ds h
        | _ => G.bad) s⟩

theorem fnC_eq (f : FuncId) (ih : Ih' ω) (args : Array Value) (h : AH) (K : Value → AH → ω) : (fnC E G f).run ih args h K = evFn E G ih f args h K := by
  unfold fnC evFn
  cases G.con f with
  | some k => rfl
  | none =>
    simp only
    cases E.P.funcs[f]? with
    | none => rfl
    | some fn =>
      simp only
      cases fn.body <;> rfl

/-- The call of a function that is named. -/
structure Cf (ω : Type) where
  run : Option (Ih' ω → St → (Value → AH → ω) → ω)

def callC (o : Oper) : Cf ω := match o.op with
  | .call c => match c.callee with
    | .value (.func f) => match E.P.funcs[f]? with
      | some g => match g.body with
        | some _ => ⟨some fun ih s K => St.rec (motive := fun _ => ω) (fun t n h ds r => (fnC E G f).run ih ⟨(argsC c.args.toList).run ⟨t, n, h, ds, r⟩⟩ h K) s⟩
        | none => ⟨none⟩
      | none => ⟨none⟩
    | _ => ⟨none⟩
  | _ => ⟨none⟩

variable {E G}

theorem callC_ok {o : Oper} {ih : Ih' ω} {k : Ih' ω → St → (Value → AH → ω) → ω} (h : (callC E G o).run = some k) (s : St) (K : Value → AH → ω) : k ih s K = evV E (orcOf E G ih) o s.eval s.heap K ∧ ∀ c, o.op ≠ .defer c := by
  obtain ⟨dst, op, type, pos, after, guard⟩ := o
  unfold callC at h
  cases op <;> simp only at h <;> try (cases h; done)
  rename_i c
  cases hc : c.callee <;> simp only [hc] at h <;> try (cases h; done)
  rename_i x
  cases x <;> simp only at h <;> try (cases h; done)
  rename_i f
  cases hf : E.P.funcs[f]? with
  | none => simp only [hf] at h; cases h
  | some g =>
    simp only [hf] at h
    cases hb : g.body with
    | none => simp only [hb] at h; cases h
    | some b =>
      simp only [hb, Option.some.injEq] at h
      subst h
      refine ⟨?_, fun c' => by simp⟩
      show (fnC E G f).run ih ⟨(argsC c.args.toList).run s⟩ s.heap K = _
      rw [fnC_eq, argsC_eq]
      unfold evV
      simp only
      have hx : aopX E { dst := dst, op := .call c, type := type, pos := pos, after := after, guard := guard } s.eval s.heap = some (.enter f (c.args.map s.eval), s.heap) := by
        unfold aopX aopF aop aCall aInvoke
        simp only [hc]
        have e1 : s.eval (.func f) = .func (.func f) #[] #[] := rfl
        rw [e1]
        simp only [hf, hb]
        simp
      rw [hx]
      simp only
      have e2 : (⟨List.map s.eval c.args.toList⟩ : Array Value) = c.args.map s.eval := by
        apply Array.ext'; simp
      rw [e2]
      rfl

structure Oc (ω : Type) where
  run : Ih' ω → St → (St → ω) → ω

def appL (l r : List Value) : List Value := List.rec r (fun x _ ih => x :: ih) l
theorem appL_eq (r : List Value) : ∀ l, appL l r = l ++ r
  | [] => rfl
  | x :: l => by
    show x :: appL l r = _
    rw [appL_eq r l]; rfl

def hasBody (E : Env) (f : FuncId) : Bool := match E.P.funcs[f]? with
  | some g => g.body.isSome
  | none => false

theorem evV_enter {o : Oper} {ih : Ih' ω} {ρ : Operand → Value} {h : AH} {f : FuncId} {args : Array Value} {K : Value → AH → ω} {c : Call} (ho : o.op = .call c) (hx : aopX E o ρ h = some (.enter f args, h)) :
    evV E (orcOf E G ih) o ρ h K = (fnC E G f).run ih args h K := by
  unfold evV
  simp only [ho, hx]
  rw [fnC_eq]; rfl

theorem dyn_enter {o : Oper} {s : St} {c : Call} {x : Operand} {f : FuncId} {first cap : Array Value} (ho : o.op = .call c) (hc : c.callee = .value x) (hv : s.eval x = .func (.func f) first cap) (hb : hasBody E f = true) :
    aopX E o s.eval s.heap = some (.enter f ⟨appL first.toList (appL ((argsC c.args.toList).run s) cap.toList)⟩, s.heap) := by
  obtain ⟨dst, op, type, pos, after, guard⟩ := o
  simp only at ho
  subst ho
  unfold aopX aopF aop aCall aInvoke
  simp only [hc, hv]
  unfold hasBody at hb
  cases hf : E.P.funcs[f]? with
  | none => simp only [hf] at hb; cases hb
  | some g =>
    simp only [hf] at hb
    obtain ⟨b, hbb⟩ := Option.isSome_iff_exists.1 hb
    simp only [hbb]
    rw [appL_eq, appL_eq, argsC_eq]
    congr 3
    apply Array.ext'
    simp

/-- An append. -/
structure Xs where
  run : Option (Operand × Operand × TypeId × TypeId)

def appX (o : Oper) : Xs := match o.op with
  | .call c => match c.callee with
    | .builtin .append => match c.argTypes.toList, c.args.toList with
      | [t, tx], [s, x] => ⟨some (s, x, t, tx)⟩
      | _, _ => ⟨none⟩
    | _ => ⟨none⟩
  | _ => ⟨none⟩

theorem appX_ok {o : Oper} {sa xa : Operand} {t tx : TypeId} (h : (appX o).run = some (sa, xa, t, tx)) {st : St} {v : Value} {h' : AH} (ha : aAppend E.P t tx (st.eval sa) (st.eval xa) st.heap = some (v, h')) : aopX E o st.eval st.heap = some (.value v, h') := by
  obtain ⟨dst, op, type, pos, after, guard⟩ := o
  unfold appX at h
  cases op <;> simp only at h <;> try (cases h; done)
  rename_i c
  cases hc : c.callee <;> simp only [hc] at h <;> try (cases h; done)
  rename_i b
  cases b <;> simp only at h <;> try (cases h; done)
  split at h
  · rename_i e1 e2
    simp only [Option.some.injEq, Prod.mk.injEq] at h
    obtain ⟨rfl, rfl, rfl, rfl⟩ := h
    unfold aopX aopF aop aCall aBuiltin
    simp only [hc, e1, Array.toList_map, e2, List.map_cons, List.map_nil, ha]
  · cases h

variable (E G)

def genC (o : Oper) : Oc ω := ⟨fun ih s K => evO E (orcOf E G ih) o s K⟩

/-- One operation. -/
def opC (o : Oper) : Oc ω := match (callC E G o).run with
  | some k => ⟨fun ih s K => k ih s fun v h => (putC G.bad o.dst).run s v h K⟩
  | none => match (appX o).run with
  | some (sa, xa, t, tx) => ⟨fun ih s K => (appC E.P t tx).run ((opdC sa).run s) ((opdC xa).run s) s.heap (fun v h => (putC G.bad o.dst).run s v h K) ((genC E G o).run ih s K)⟩
  | none => match o.op with
    | .call c => match c.callee with
      | .value x => ⟨fun ih s K => match (opdC x).run s with
        | .func fn first cap => match fn with
          | .func f => Bool.rec ((genC E G o).run ih s K) ((fnC E G f).run ih ⟨appL first.toList (appL ((argsC c.args.toList).run s) cap.toList)⟩ s.heap fun v h => (putC G.bad o.dst).run s v h K) (hasBody E f)
          | _ => (genC E G o).run ih s K
        | _ => (genC E G o).run ih s K⟩
      | _ => ⟨fun ih s K => Option.rec ((genC E G o).run ih s K) (fun v => (putC G.bad o.dst).keep s v K) ((fastV E o).run s)⟩
    | .store t a x => ⟨fun ih s K => Option.rec (Option.rec ((genC E G o).run ih s K) (fun h => (putC G.bad o.dst).run s undef h K) (aStoreA E.P t ((opdC a).run s) ((opdC x).run s) s.heap)) (fun h => (putC G.bad o.dst).run s undef h K) ((storeC E t a x).run s)⟩
    | _ => match makes o with
      | true => ⟨fun ih s K => Option.rec ((genC E G o).run ih s K) (fun ob => Option.rec
            (Nat.rec G.bad (fun n _ => (putC G.bad o.dst).run s (.pointer (some ⟨n, 0, none⟩)) (pushAt s.heap n ob) K) (Nat.add s.heap.fresh 1))
            (fun _ => (genC E G o).run ih s K) (s.heap.get s.heap.fresh)) ((allocC E o).run s)⟩
      | false => ⟨fun ih s K => Option.rec ((genC E G o).run ih s K) (fun v => (putC G.bad o.dst).keep s v K) ((fastV E o).run s)⟩

variable {E G}

theorem evO_of_evV {A : Orc ω} {o : Oper} (hd : ∀ c, o.op ≠ .defer c) (s : St) (K : St → ω) : evO E A o s K = evV E A o s.eval s.heap fun v h => St.put (s.on h) o.dst v A.bad K := by
  unfold evO
  cases ho : o.op <;> simp only
  exact absurd ho (hd _)

theorem evV_val {A : Orc ω} {o : Oper} {ρ : Operand → Value} {h h' : AH} {v : Value} (hx : aopX E o ρ h = some (.value v, h')) (K : Value → AH → ω) : evV E A o ρ h K = K v h' := by
  unfold evV
  cases ho : o.op <;> simp only [hx]
  case next it b =>
    cases b with
    | true => rfl
    | false => unfold aopX at hx; simp [ho] at hx
  case defer c => unfold aopX aopF aop at hx; simp only [ho] at hx; split at hx <;> (try split at hx) <;> cases hx

theorem evV_skip {A : Orc ω} {o : Oper} {ρ : Operand → Value} {h h' : AH} (hx : aopX E o ρ h = some (.skip, h')) (hnx : ∀ it, o.op ≠ .next it false) (hdf : ∀ c, o.op ≠ .defer c) (K : Value → AH → ω) : evV E A o ρ h K = K undef h' := by
  unfold evV
  cases ho : o.op <;> simp only [hx]
  case next it b =>
    cases b with
    | true => rfl
    | false => exact absurd ho (hnx it)
  case defer c => exact absurd ho (hdf c)

theorem noDefer_val {o : Oper} {ρ : Operand → Value} {h h' : AH} {v : Value} (hx : aopX E o ρ h = some (.value v, h')) : ∀ c, o.op ≠ .defer c := by
  intro c hc
  unfold aopX aopF aop at hx
  simp only [hc] at hx
  split at hx <;> (try split at hx) <;> cases hx

theorem opC_eq (o : Oper) (ih : Ih' ω) (s : St) (K : St → ω) : (opC E G o).run ih s K = evO E (orcOf E G ih) o s K := by
  unfold opC
  cases hc : (callC E G o).run with
  | some k =>
    simp only
    obtain ⟨e1, e2⟩ := callC_ok (ih := ih) hc s fun v h => (putC G.bad o.dst).run s v h K
    rw [e1, evO_of_evV e2]
    congr 1
    funext v h; rw [putC_eq]; rfl
  | none =>
    simp only
    cases hap : (appX o).run with
    | some q =>
      obtain ⟨sa, xa, t, tx⟩ := q
      simp only
      rw [opdC_eq, opdC_eq]
      rcases appC_eq E.P t tx (s.eval sa) (s.eval xa) s.heap (fun v h => (putC G.bad o.dst).run s v h K) ((genC E G o).run ih s K) with q | ⟨v, h', q1, q2⟩
      · rw [q]; rfl
      · have hx := appX_ok hap q1
        rw [q2, evO_of_evV (noDefer_val hx), evV_val hx]
        show (putC G.bad o.dst).run s v h' K = _
        rw [putC_eq]; rfl
    | none =>
    simp only
    have rest : (match makes o with
      | true => (⟨fun ih s K => Option.rec ((genC E G o).run ih s K) (fun ob => Option.rec
            (Nat.rec G.bad (fun n _ => (putC G.bad o.dst).run s (.pointer (some ⟨n, 0, none⟩)) (pushAt s.heap n ob) K) (Nat.add s.heap.fresh 1))
            (fun _ => (genC E G o).run ih s K) (s.heap.get s.heap.fresh)) ((allocC E o).run s)⟩ : Oc ω)
      | false => ⟨fun ih s K => Option.rec ((genC E G o).run ih s K) (fun v => (putC G.bad o.dst).keep s v K) ((fastV E o).run s)⟩).run ih s K = evO E (orcOf E G ih) o s K := by
      cases hm : makes o with
      | true =>
        simp only
        cases ha : (allocC E o).run s with
        | none => rfl
        | some ob =>
          simp only
          cases hn : s.heap.get s.heap.fresh with
          | some _ => rfl
          | none =>
            have hx := allocC_ok ha hn
            rw [evO_of_evV (noDefer_val hx), evV_val hx]
            show (putC G.bad o.dst).run s (.pointer (some ⟨s.heap.fresh, 0, none⟩)) (aPush s.heap ob) K = _
            rw [putC_eq]; rfl
      | false =>
        simp only
        cases hv : (fastV E o).run s with
        | none => rfl
        | some v =>
          have hx := aflt_op (fastV_ok hv)
          rw [evO_of_evV (noDefer_val hx), evV_val hx]
          show (putC G.bad o.dst).keep s v K = _
          rw [putC_keep, putC_eq]; rfl
    cases ho : o.op <;> simp only <;> try (exact rest)
    case call c =>
      have hmk : makes o = false := by unfold makes; rw [ho]
      rw [hmk] at rest
      cases hcc : c.callee with
      | invoke _ _ => simp only; exact rest
      | builtin _ => simp only; exact rest
      | value x =>
        simp only
        rw [opdC_eq]
        cases hv : s.eval x <;> simp only <;> try rfl
        rename_i fn first cap
        cases fn <;> simp only <;> try rfl
        rename_i f
        cases hb : hasBody E f with
        | false => rfl
        | true =>
          have hx := dyn_enter ho hcc hv hb
          rw [evO_of_evV (fun c' hc' => by rw [ho] at hc'; cases hc'), evV_enter ho hx]
          show (fnC E G f).run ih _ s.heap (fun v h => (putC G.bad o.dst).run s v h K) = _
          congr 1
          funext v h; rw [putC_eq]; rfl
    rename_i t a x
    cases hs : (storeC E t a x).run s with
    | none =>
      cases hs2 : aStoreA E.P t ((opdC a).run s) ((opdC x).run s) s.heap with
      | none => rfl
      | some h' =>
        have hx := storeA_ok ho hs2
        rw [evO_of_evV (fun c hc => by rw [ho] at hc; cases hc), evV_skip hx (fun it hc => by rw [ho] at hc; cases hc) (fun c hc => by rw [ho] at hc; cases hc)]
        show (putC G.bad o.dst).run s undef h' K = _
        rw [putC_eq]; rfl
    | some h' =>
      have hx := storeC_ok ho hs
      rw [evO_of_evV (fun c hc => by rw [ho] at hc; cases hc), evV_skip hx (fun it hc => by rw [ho] at hc; cases hc) (fun c hc => by rw [ho] at hc; cases hc)]
      show (putC G.bad o.dst).run s undef h' K = _
      rw [putC_eq]; rfl
end
end
end Go.AE
