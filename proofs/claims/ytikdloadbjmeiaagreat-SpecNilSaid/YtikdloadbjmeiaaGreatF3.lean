import Derived.Test.YtikdloadbjmeiaaGreatF2
/- An evaluator over an abstract heap: the same, quick: regions, code. -/
namespace Go.AE
open Go
noncomputable section

/-- Is an operation wanted? -/
structure Gc where
  run : St → Bool

def gdC (ops : List Oper) (o : Oper) : Gc := match o.guard with
  | none => ⟨fun _ => true⟩
  | some (j, want) => match ops[j]? with
    | none => ⟨fun _ => false⟩
    | some o' => match o'.dst with
      | none => ⟨fun _ => false⟩
      | some d => match want with
        | true => ⟨fun s => match (opdC (.tmp d)).run s with
          | .bool b => b
          | _ => false⟩
        | false => ⟨fun s => match (opdC (.tmp d)).run s with
          | .bool b => Bool.rec true false b
          | _ => false⟩

theorem gdC_eq (ops : List Oper) (o : Oper) (s : St) : (gdC ops o).run s = aWanted ops s o := by
  unfold gdC aWanted
  cases hg : o.guard with
  | none => rfl
  | some g =>
    obtain ⟨j, want⟩ := g
    simp only
    unfold aYielded
    cases hj : ops[j]? with
    | none => rfl
    | some o' =>
      simp only
      cases hd : o'.dst with
      | none => rfl
      | some d =>
        simp only
        cases want <;> simp only [opdC_eq] <;> (show (match s.get d with | .bool b => _ | _ => _) = _) <;> cases s.get d <;> try rfl
        all_goals (rename_i b; cases b <;> rfl)

section
variable {ω : Type} (E : Env) (G : Giv ω)

def txtC (ops : List Oper) (l : List Oper) : Oc ω := List.rec ⟨fun _ s K => K s⟩
  (fun o _ tail => match o.op.operands.toList.all okOperand with
    | false => ⟨fun _ _ _ => G.bad⟩
    | true => match o.guard with
      | none => ⟨fun ih s K => (opC E G o).run ih s fun s' => tail.run ih s' K⟩
      | some _ => ⟨fun ih s K => Bool.rec ((putC G.bad o.dst).keep s undef fun s' => tail.run ih s' K) ((opC E G o).run ih s fun s' => tail.run ih s' K) ((gdC ops o).run s)⟩) l

/-- A float's value. -/
structure Lv (ω : Type) where
  run : St → (St → ω) → ω

def flC (o : Oper) : Lv ω := match makes o with
  | true => ⟨fun s K => Option.rec (match aopX E o s.eval s.heap with
        | some (.value v, h') => (putC G.bad o.dst).run s v h' K
        | _ => G.bad) (fun ob => Option.rec
          (Nat.rec G.bad (fun n _ => (putC G.bad o.dst).run s (.pointer (some ⟨n, 0, none⟩)) (pushAt s.heap n ob) K) (Nat.add s.heap.fresh 1))
          (fun _ => match aopX E o s.eval s.heap with
            | some (.value v, h') => (putC G.bad o.dst).run s v h' K
            | _ => G.bad) (s.heap.get s.heap.fresh)) ((allocC E o).run s)⟩
  | false => ⟨fun s K => Option.rec (match aflt E o s.eval s.heap with
        | some v => (putC G.bad o.dst).keep s v K
        | none => G.bad) (fun v => (putC G.bad o.dst).keep s v K) ((fastV E o).run s)⟩

structure Ck (ω : Type) where
  run : St → ω → ω

def ckC (ops : List Oper) (o : Oper) (d : Tmp) : Ck ω := ⟨fun s r => Bool.rec r (Option.rec (match aflt E o s.eval s.heap with
      | some v => G.same v ((opdC (.tmp d)).run s) r
      | none => G.bad) (fun v => G.same v ((opdC (.tmp d)).run s) r) ((fastV E o).run s)) ((gdC ops o).run s)⟩

def barC (o : Oper) : Oc ω := match (callC E G o).run with
  | some k => ⟨fun ih s K => k ih s fun v h => (putC G.bad o.dst).run s v h K⟩
  | none => ⟨fun ih s K => evV E (orcOf E G ih) o s.eval s.heap fun v h => (putC G.bad o.dst).run s v h K⟩

def plC (ops : List Oper) (p : List Stp) : Oc ω := List.rec ⟨fun _ s K => K s⟩
  (fun x _ tail => match x with
    | .run i => match ops[i]? with
      | none => ⟨fun _ _ _ => G.bad⟩
      | some o => ⟨fun ih s K => Bool.rec ((putC G.bad o.dst).keep s undef fun s' => tail.run ih s' K) ((flC E G o).run s fun s' => tail.run ih s' K) ((gdC ops o).run s)⟩
    | .bar i => match ops[i]? with
      | none => ⟨fun _ _ _ => G.bad⟩
      | some o => ⟨fun ih s K => Bool.rec ((putC G.bad o.dst).keep s undef fun s' => tail.run ih s' K) ((barC E G o).run ih s fun s' => tail.run ih s' K) ((gdC ops o).run s)⟩
    | .chk i => match ops[i]? with
      | none => ⟨fun _ _ _ => G.bad⟩
      | some o => match o.dst with
        | none => ⟨fun _ _ _ => G.bad⟩
        | some d => ⟨fun ih s K => (ckC E G ops o d).run s (tail.run ih s K)⟩) p

structure Cc (ω : Type) where
  run : Ih' ω → St → (Exit → St → ω) → ω

def codeC (c : Code) : Cc ω := match c with
  | .skip => ⟨fun _ s K => K .normal s⟩
  | .region _ ops draw => match draw with
    | false => ⟨fun ih s K => (txtC E G ops.toList ops.toList).run ih s (K .normal)⟩
    | true => match planOf E ops.toList with
      | some p => ⟨fun ih s K => (plC E G ops.toList p).run ih s (K .normal)⟩
      | none => ⟨fun _ _ _ => G.bad⟩
  | .seq a b => ⟨fun ih s K => (codeC a).run ih s fun e s' => match e with
    | .normal => (codeC b).run ih s' K
    | e => K e s'⟩
  | .cond c t f => match okOperand c with
    | true => ⟨fun ih s K => match (opdC c).run s with
      | .bool b => Bool.rec ((codeC f).run ih s K) ((codeC t).run ih s K) b
      | _ => G.bad⟩
    | false => ⟨fun _ _ _ => G.bad⟩
  | .block id b => ⟨fun ih s K => (codeC b).run ih s fun e s' => match e with
    | .exit i => Bool.rec (K (.exit i) s') (K .normal s') (Nat.beq i id)
    | e => K e s'⟩
  | .loop b => ⟨fun ih s K => (codeC b).run ih s fun e s' => match e with
    | .normal => ih (.loop b) s' K
    | e => K e s'⟩
  | .rangeFunc g ps assign body => ⟨fun ih s K => evRng E (orcOf E G ih) g ps assign body s K⟩
  | .exit id => ⟨fun _ s K => K (.exit id) s⟩
  | .label _ => ⟨fun _ s K => K .normal s⟩
  | .ret => ⟨fun _ s K => K .ret s⟩
  | .scope b => ⟨fun ih s K => (codeC b).run ih s fun e s' => match e with
    | .goto _ => G.bad
    | e => K e s'⟩
  | _ => ⟨fun _ _ _ => G.bad⟩

def evQ : Nat → Ih' ω := Nat.rec (fun _ _ _ => G.bad) (fun _ ih c s K => (codeC E G c).run ih s K)

variable {E G} {good : ω → Prop}

theorem txtC_eq (ops : List Oper) (ih : Ih' ω) (K : St → ω) : ∀ (l : List Oper) (s : St), (txtC E G ops l).run ih s K = evTxt E (orcOf E G ih) ops l s K
  | [], s => rfl
  | o :: l, s => by
    have e0 : (txtC E G ops (o :: l)).run ih s K = (match o.op.operands.toList.all okOperand with
      | false => (⟨fun _ _ _ => G.bad⟩ : Oc ω)
      | true => match o.guard with
        | none => ⟨fun ih s K => (opC E G o).run ih s fun s' => (txtC E G ops l).run ih s' K⟩
        | some _ => ⟨fun ih s K => Bool.rec ((putC G.bad o.dst).keep s undef fun s' => (txtC E G ops l).run ih s' K) ((opC E G o).run ih s fun s' => (txtC E G ops l).run ih s' K) ((gdC ops o).run s)⟩).run ih s K := rfl
    have eK : (fun s' => (txtC E G ops l).run ih s' K) = fun s' => evTxt E (orcOf E G ih) ops l s' K := by
      funext s'; exact txtC_eq ops ih K l s'
    rw [e0]
    simp only [evTxt]
    cases hok : o.op.operands.toList.all okOperand with
    | false => rfl
    | true =>
      simp only
      cases hg : o.guard with
      | none =>
        simp only
        have : aWanted ops s o = true := by unfold aWanted; rw [hg]
        rw [this, opC_eq, eK]
      | some g =>
        simp only
        rw [gdC_eq, putC_keep, put_eq, opC_eq, eK]
        cases aWanted ops s o <;> rfl

theorem flC_eq (o : Oper) (s : St) (K : St → ω) : (flC E G o).run s K = match evFl E o s.eval s.heap with
    | some (v, h) => St.put (s.on h) o.dst v G.bad K
    | none => G.bad := by
  unfold flC evFl
  cases hm : makes o with
  | true =>
    simp only
    have slow : (match aopX E o s.eval s.heap with
        | some (.value v, h') => (putC G.bad o.dst).run s v h' K
        | _ => G.bad) = match (match aopX E o s.eval s.heap with
      | some (.value v, h') => some (v, h')
      | _ => none) with
    | some (v, h) => St.put (s.on h) o.dst v G.bad K
    | none => G.bad := by
      cases hx : aopX E o s.eval s.heap with
      | none => rfl
      | some q =>
        obtain ⟨nx, h'⟩ := q
        cases nx <;> simp only
        rw [putC_eq]
    cases ha : (allocC E o).run s with
    | none => exact slow
    | some ob =>
      simp only
      cases hn : s.heap.get s.heap.fresh with
      | some _ => exact slow
      | none =>
        have hx := allocC_ok ha hn
        rw [hx]
        show (putC G.bad o.dst).run s (.pointer (some ⟨s.heap.fresh, 0, none⟩)) (aPush s.heap ob) K = _
        rw [putC_eq]
  | false =>
    simp only
    cases hv : (fastV E o).run s with
    | none =>
      simp only
      cases hx : aflt E o s.eval s.heap with
      | none => rfl
      | some v => simp only; rw [putC_keep, putC_eq]
    | some v =>
      simp only
      rw [fastV_ok hv]
      simp only
      rw [putC_keep, putC_eq]

theorem barC_eq (o : Oper) (ih : Ih' ω) (s : St) (K : St → ω) : (barC E G o).run ih s K = evV E (orcOf E G ih) o s.eval s.heap fun v h => St.put (s.on h) o.dst v G.bad K := by
  unfold barC
  have eK : (fun v h => (putC G.bad o.dst).run s v h K) = fun v h => St.put (s.on h) o.dst v G.bad K := by
    funext v h; rw [putC_eq]
  cases hc : (callC E G o).run with
  | some k =>
    simp only
    rw [(callC_ok (ih := ih) hc s _).1, eK]
  | none => simp only; rw [eK]

theorem plC_eq (ops : Array Oper) (ih : Ih' ω) (K : St → ω) : ∀ (p : List Stp) (s : St), (plC E G ops.toList p).run ih s K = evPlan E (orcOf E G ih) ops p s K
  | [], s => rfl
  | x :: p, s => by
    have eK : (fun s' => (plC E G ops.toList p).run ih s' K) = fun s' => evPlan E (orcOf E G ih) ops p s' K := by
      funext s'; exact plC_eq ops ih K p s'
    cases x with
    | run i =>
      have e0 : (plC E G ops.toList (.run i :: p)).run ih s K = (match ops.toList[i]? with
        | none => (⟨fun _ _ _ => G.bad⟩ : Oc ω)
        | some o => ⟨fun ih s K => Bool.rec ((putC G.bad o.dst).keep s undef fun s' => (plC E G ops.toList p).run ih s' K) ((flC E G o).run s fun s' => (plC E G ops.toList p).run ih s' K) ((gdC ops.toList o).run s)⟩).run ih s K := rfl
      rw [e0, Array.getElem?_toList]
      simp only [evPlan]
      cases ops[i]? with
      | none => rfl
      | some o =>
        simp only
        rw [gdC_eq, putC_keep, put_eq, flC_eq, eK]
        cases aWanted ops.toList s o with
        | false => rfl
        | true =>
          simp only
          cases evFl E o s.eval s.heap with
          | none => rfl
          | some q => rfl
    | bar i =>
      have e0 : (plC E G ops.toList (.bar i :: p)).run ih s K = (match ops.toList[i]? with
        | none => (⟨fun _ _ _ => G.bad⟩ : Oc ω)
        | some o => ⟨fun ih s K => Bool.rec ((putC G.bad o.dst).keep s undef fun s' => (plC E G ops.toList p).run ih s' K) ((barC E G o).run ih s fun s' => (plC E G ops.toList p).run ih s' K) ((gdC ops.toList o).run s)⟩).run ih s K := rfl
      rw [e0, Array.getElem?_toList]
      simp only [evPlan]
      cases ops[i]? with
      | none => rfl
      | some o =>
        simp only
        rw [gdC_eq, putC_keep, put_eq, barC_eq, eK]
        cases aWanted ops.toList s o <;> rfl
    | chk i =>
      have e0 : (plC E G ops.toList (.chk i :: p)).run ih s K = (match ops.toList[i]? with
        | none => (⟨fun _ _ _ => G.bad⟩ : Oc ω)
        | some o => match o.dst with
          | none => ⟨fun _ _ _ => G.bad⟩
          | some d => ⟨fun ih s K => (ckC E G ops.toList o d).run s ((plC E G ops.toList p).run ih s K)⟩).run ih s K := rfl
      rw [e0, Array.getElem?_toList]
      simp only [evPlan]
      cases ops[i]? with
      | none => rfl
      | some o =>
        simp only
        cases o.dst with
        | none => rfl
        | some d =>
          simp only
          unfold ckC
          simp only
          rw [gdC_eq, opdC_eq, plC_eq ops ih K p s]
          cases aWanted ops.toList s o with
          | false => rfl
          | true =>
            simp only
            cases hv : (fastV E o).run s with
            | none =>
              simp only
              cases aflt E o s.eval s.heap <;> rfl
            | some v => simp only; rw [fastV_ok hv]; rfl

theorem codeC_ok (hE : EnvOK E) (hm : E.P.follows .mixedOrders = true) (hG : GivOK E.P good G) {ih : Ih' ω} (hi : IhG E.P good ih) : ∀ (c : Code) (s : St) (K : Exit → St → ω), good ((codeC E G c).run ih s K) → Wc E.P c s fun e s' => good (K e s') := by
  have hA := orcOf_ok hG hi
  intro c
  induction c with
  | skip => intro s K hg; exact .skip hg
  | exit => intro s K hg; exact .exit hg
  | label => intro s K hg; exact .label hg
  | ret => intro s K hg; exact .ret hg
  | goto => intro s K hg; exact absurd hg hG.bad
  | refuse => intro s K hg; exact absurd hg hG.bad
  | region id ops draw =>
    intro s K hg
    cases draw with
    | false =>
      have hg' : good ((txtC E G ops.toList ops.toList).run ih s (K .normal)) := hg
      rw [txtC_eq] at hg'
      refine (Wc.txt hE hA (K := fun s' => K .normal s') hg').mono ?_
      intro e s' hk
      cases e <;> first | exact hk | exact hk.elim
    | true =>
      simp only [codeC] at hg
      cases hp : planOf E ops.toList with
      | none => simp only [hp] at hg; exact absurd hg hG.bad
      | some p =>
        simp only [hp] at hg
        have hpo : planOk E ops.toList (mkAnc ops.toList []) p = true := by
          unfold planOf at hp
          simp only at hp
          split at hp
          · rename_i h1; cases hp; exact h1
          · cases hp
        rw [plC_eq] at hg
        refine (Wc.draw hE hA hm (K := fun s' => K .normal s') p hpo hg).mono ?_
        intro e s' hk
        cases e <;> first | exact hk | exact hk.elim
  | seq a b iha ihb =>
    intro s K hg
    refine .seq ((iha s _ hg).mono ?_)
    intro e s' hk
    cases e <;> first | exact ihb _ _ hk | exact hk
  | cond c t f iht ihf =>
    intro s K hg
    simp only [codeC] at hg
    cases hok : okOperand c with
    | false => simp only [hok] at hg; exact absurd hg hG.bad
    | true =>
      simp only [hok] at hg
      rw [opdC_eq] at hg
      cases hv : s.eval c <;> simp only [hv] at hg <;> try (exact absurd hg hG.bad)
      rename_i b
      refine .cond b hok hv ?_
      cases b
      · exact ihf _ _ hg
      · exact iht _ _ hg
  | block id b ihb =>
    intro s K hg
    refine .block ((ihb s _ hg).mono ?_)
    intro e s' hk
    cases e <;> try exact hk
    rename_i i
    simp only [inBlk]
    cases hb : Nat.beq i id with
    | true =>
      have hk' : good (Bool.rec (K (.exit i) s') (K .normal s') (Nat.beq i id)) := hk
      rw [hb] at hk'; exact hk'
    | false =>
      have hk' : good (Bool.rec (K (.exit i) s') (K .normal s') (Nat.beq i id)) := hk
      rw [hb] at hk'; exact hk'
  | loop b ihb =>
    intro s K hg
    refine .unroll ((ihb s _ hg).mono ?_)
    intro e s' hk
    cases e <;> first | exact hi _ _ _ hk | exact hk
  | rangeFunc g ps assign body _ _ => intro s K hg; exact .rng hE hA hg
  | scope b ihb =>
    intro s K hg
    refine .scope ((ihb s _ hg).mono ?_)
    intro e s' hk
    cases e <;> first | exact hk | exact absurd hk hG.bad

theorem evQ_ok (hE : EnvOK E) (hm : E.P.follows .mixedOrders = true) (hG : GivOK E.P good G) : ∀ n, IhG E.P good (evQ E G n)
  | 0 => fun _ _ _ hg => absurd hg hG.bad
  | n + 1 => fun c s K hg => codeC_ok hE hm hG (evQ_ok hE hm hG n) c s K hg
end
end
end Go.AE
