import Derived.Test.YtikdloadbjmeiaaGreatS7
import Derived.OrdersIn
/- An evaluator over an abstract heap: regions whose order is drawn: plans. -/
namespace Go.AE
open Go
noncomputable section
variable {U : Un}

/-- A plan's steps: an operation that may come later still; one at which the others part; one that is asked again behind it. -/
inductive Stp where
  | run (i : Nat)
  | bar (i : Nat)
  | chk (i : Nat)

section
variable {ω : Type} (E : Env) (A : Orc ω) (ops : Array Oper)

def evFl (E : Env) (o : Oper) (ρ : Operand → Value) (h : AH) : Option (Value × AH) := match makes o with
  | true => match aopX E o ρ h with
    | some (.value v, h') => some (v, h')
    | _ => none
  | false => match aflt E o ρ h with
    | some v => some (v, h)
    | none => none

def evPlan : List Stp → St → (St → ω) → ω
  | [], s, K => K s
  | .run i :: r, s, K => match ops[i]? with
    | none => A.bad
    | some o => match aWanted ops.toList s o with
      | false => St.put s o.dst undef A.bad fun s' => evPlan r s' K
      | true => match evFl E o s.eval s.heap with
        | some (v, h) => St.put (s.on h) o.dst v A.bad fun s' => evPlan r s' K
        | none => A.bad
  | .bar i :: r, s, K => match ops[i]? with
    | none => A.bad
    | some o => match aWanted ops.toList s o with
      | false => St.put s o.dst undef A.bad fun s' => evPlan r s' K
      | true => evV E A o s.eval s.heap fun v h => St.put (s.on h) o.dst v A.bad fun s' => evPlan r s' K
  | .chk i :: r, s, K => match ops[i]? with
    | none => A.bad
    | some o => match o.dst with
      | none => A.bad
      | some d => match aWanted ops.toList s o with
        | false => evPlan r s K
        | true => match aflt E o s.eval s.heap with
          | some v => A.same v (s.get d) (evPlan r s K)
          | none => A.bad
end

/-! ### What is asked of a plan -/
def bt (i : Nat) : Nat := Nat.shiftLeft 1 i
def subm (s t : Nat) : Bool := Nat.beq (Nat.lor s t) t

theorem testBit_bt (i j : Nat) : (bt i).testBit j = decide (i = j) := by
  unfold bt
  show (1 <<< i).testBit j = _
  rw [Nat.one_shiftLeft]
  exact Nat.testBit_two_pow

theorem testBit_lor (a b j : Nat) : (Nat.lor a b).testBit j = (a.testBit j || b.testBit j) := Nat.testBit_or a b j

theorem subm_spec {s t : Nat} : subm s t = true ↔ ∀ i, s.testBit i = true → t.testBit i = true := by
  unfold subm
  constructor
  · intro h i hi
    have := Nat.eq_of_beq_eq_true h
    rw [← this, testBit_lor, hi]; rfl
  · intro h
    have : Nat.lor s t = t := by
      apply Nat.eq_of_testBit_eq
      intro i
      rw [testBit_lor]
      cases hs : s.testBit i
      · simp
      · simp [h i hs]
    rw [this]; exact Nat.beq_refl t

def depE : List Edge → Nat
  | [] => 0
  | e :: es => match Region.binds .any e with
    | true => Nat.lor (bt e.on) (depE es)
    | false => depE es

theorem depE_spec {j : Nat} : ∀ {es : List Edge}, (depE es).testBit j = true ↔ ∃ e ∈ es, Region.binds .any e = true ∧ e.on = j
  | [] => by simp [depE]
  | e :: es => by
    simp only [depE]
    cases hb : Region.binds .any e with
    | true =>
      simp only
      rw [testBit_lor, testBit_bt, Bool.or_eq_true, depE_spec]
      simp [hb]
    | false =>
      simp only
      rw [depE_spec]
      simp [hb]

def upE (T : List Nat) : List Edge → Nat
  | [] => 0
  | e :: es => match Region.binds .any e with
    | true => Nat.lor (bt e.on) (Nat.lor (T.getD e.on 0) (upE T es))
    | false => upE T es

theorem upE_spec {T : List Nat} {j : Nat} : ∀ {es : List Edge}, (upE T es).testBit j = true → ∃ e ∈ es, Region.binds .any e = true ∧ (e.on = j ∨ (T.getD e.on 0).testBit j = true)
  | [], h => by simp [upE] at h
  | e :: es, h => by
    simp only [upE] at h
    cases hb : Region.binds .any e with
    | true =>
      simp only [hb] at h
      rw [testBit_lor, testBit_lor, testBit_bt, Bool.or_eq_true, Bool.or_eq_true] at h
      rcases h with h | h | h
      · exact ⟨e, by simp, hb, .inl (by simpa using h)⟩
      · exact ⟨e, by simp, hb, .inr h⟩
      · obtain ⟨e', h1, h2⟩ := upE_spec h
        exact ⟨e', by simp [h1], h2⟩
    | false =>
      simp only [hb] at h
      obtain ⟨e', h1, h2⟩ := upE_spec h
      exact ⟨e', by simp [h1], h2⟩

def opTmps : List Operand → List Nat
  | [] => []
  | x :: xs => match x with
    | .tmp t => t :: opTmps xs
    | _ => opTmps xs

theorem opTmps_mem {t : Nat} : ∀ {xs : List Operand}, Operand.tmp t ∈ xs → t ∈ opTmps xs
  | x :: xs, h => by
    rcases List.mem_cons.1 h with rfl | h
    · simp [opTmps]
    · have := opTmps_mem h
      simp only [opTmps]
      cases x <;> simp [this]

def gdTmp (ops : List Oper) (o : Oper) : List Nat := match o.guard with
  | none => []
  | some (g, _) => match ops[g]? with
    | none => []
    | some o' => match o'.dst with
      | none => []
      | some d => [d]

def dstMask (t : Nat) : List Oper → Nat → Nat
  | [], _ => 0
  | o :: os, j => match o.dst with
    | none => dstMask t os (j + 1)
    | some d => match Nat.beq d t with
      | true => Nat.lor (bt j) (dstMask t os (j + 1))
      | false => dstMask t os (j + 1)

theorem dstMask_spec {t k : Nat} {o : Oper} : ∀ {os : List Oper} {j : Nat}, os[k]? = some o → o.dst = some t → (dstMask t os j).testBit (j + k) = true
  | [], j, h, _ => by simp at h
  | x :: os, j, h, hd => by
    simp only [dstMask]
    cases k with
    | zero =>
      simp at h
      subst h
      simp only [hd, Nat.beq_refl]
      rw [testBit_lor, testBit_bt]
      simp
    | succ k =>
      have := dstMask_spec (j := j + 1) (show os[k]? = some o by simpa using h) hd
      rw [show j + 1 + k = j + (k + 1) by omega] at this
      cases hx : x.dst with
      | none => simp only; exact this
      | some d =>
        simp only
        cases Nat.beq d t with
        | true => simp only; rw [testBit_lor, this]; simp
        | false => simp only; exact this

/-- Those behind whose forerunners one is. -/
def later (i : Nat) : List Nat → Nat → Nat
  | [], _ => 0
  | t :: ts, j => match t.testBit i with
    | true => Nat.lor (bt j) (later i ts (j + 1))
    | false => later i ts (j + 1)

theorem later_spec {i k : Nat} : ∀ {T : List Nat} {j : Nat}, (later i T j).testBit k = true → j ≤ k ∧ (T.getD (k - j) 0).testBit i = true
  | [], j, h => by simp [later] at h
  | t :: ts, j, h => by
    simp only [later] at h
    have key : (later i ts (j + 1)).testBit k = true → j ≤ k ∧ ((t :: ts).getD (k - j) 0).testBit i = true := by
      intro h1
      obtain ⟨a, b⟩ := later_spec h1
      refine ⟨by omega, ?_⟩
      rw [show k - j = (k - (j + 1)) + 1 by omega]
      simpa using b
    cases ht : t.testBit i with
    | false => simp only [ht] at h; exact key h
    | true =>
      simp only [ht] at h
      rw [testBit_lor, testBit_bt, Bool.or_eq_true] at h
      rcases h with h | h
      · have : j = k := by simpa using h
        subst this
        exact ⟨Nat.le_refl _, by simpa using ht⟩
      · exact key h

def inLook (d : Nat) : List Nat → Bool
  | [] => false
  | t :: ts => match Nat.beq t d with
    | true => true
    | false => inLook d ts

theorem inLook_spec {d : Nat} : ∀ {l : List Nat}, d ∈ l → inLook d l = true
  | t :: ts, h => by
    simp only [inLook]
    rcases List.mem_cons.1 h with rfl | h
    · rw [Nat.beq_refl]
    · cases Nat.beq t d with
      | true => rfl
      | false => exact inLook_spec h

/-- Those that look at a place. -/
def readM (all : List Oper) (d : Nat) : List Oper → Nat → Nat
  | [], _ => 0
  | o :: os, k => match (match inLook d (opTmps o.op.operands.toList) with
      | true => true
      | false => inLook d (gdTmp all o)) with
    | true => Nat.lor (bt k) (readM all d os (k + 1))
    | false => readM all d os (k + 1)

theorem readM_spec {all : List Oper} {d k : Nat} {o : Oper} : ∀ {os : List Oper} {j : Nat}, os[k]? = some o → (d ∈ opTmps o.op.operands.toList ∨ d ∈ gdTmp all o) → (readM all d os j).testBit (j + k) = true
  | [], j, h, _ => by simp at h
  | x :: os, j, h, hd => by
    simp only [readM]
    cases k with
    | zero =>
      simp at h
      subst h
      have : (match inLook d (opTmps x.op.operands.toList) with
          | true => true
          | false => inLook d (gdTmp all x)) = true := by
        rcases hd with hd | hd
        · rw [inLook_spec hd]
        · cases inLook d (opTmps x.op.operands.toList) with
          | true => rfl
          | false => exact inLook_spec hd
      rw [this]
      simp only
      rw [testBit_lor, testBit_bt]
      simp
    | succ k =>
      have := readM_spec (j := j + 1) (show os[k]? = some o by simpa using h) hd
      rw [show j + 1 + k = j + (k + 1) by omega] at this
      split
      · rw [testBit_lor, this]; simp
      · exact this

def allSub (ops : List Oper) (m : Nat) : List Nat → Bool
  | [] => true
  | t :: ts => match subm (dstMask t ops 0) m with
    | true => allSub ops m ts
    | false => false

theorem allSub_spec {ops : List Oper} {m : Nat} : ∀ {ts : List Nat}, allSub ops m ts = true → ∀ t ∈ ts, subm (dstMask t ops 0) m = true
  | t :: ts, h, t', ht => by
    simp only [allSub] at h
    cases hs : subm (dstMask t ops 0) m with
    | false => simp [hs] at h
    | true =>
      simp only [hs] at h
      rcases List.mem_cons.1 ht with rfl | ht
      · exact hs
      · exact allSub_spec h t' ht

def opsOk (all : List Oper) (T : List Nat) : List Oper → Nat → Bool
  | [], _ => true
  | o :: os, i => match o.op.operands.toList.all okOperand with
    | false => false
    | true => match subm (T.getD i 0) (upE T o.after.toList) with
      | false => false
      | true => match allSub all (Nat.lor (T.getD i 0) (later i T 0)) (opTmps o.op.operands.toList) with
        | false => false
        | true => match allSub all (Nat.lor (T.getD i 0) (later i T 0)) (gdTmp all o) with
          | false => false
          | true => match (match o.dst with
              | none => true
              | some d => Nat.beq (dstMask d all 0) (bt i)) with
            | false => false
            | true => opsOk all T os (i + 1)

/-- What holds of a region's operations. -/
structure Stat (ops : Array Oper) (T : List Nat) (i : Nat) (o : Oper) : Prop where
  ok : o.op.operands.toList.all okOperand = true
  up : ∀ j, (T.getD i 0).testBit j = true → ∃ k, (depE o.after.toList).testBit k = true ∧ (j = k ∨ (T.getD k 0).testBit j = true)
  sees : ∀ t, (t ∈ opTmps o.op.operands.toList ∨ t ∈ gdTmp ops.toList o) → ∀ j o', ops[j]? = some o' → o'.dst = some t → (T.getD i 0).testBit j = true ∨ (T.getD j 0).testBit i = true
  own : ∀ d, o.dst = some d → ∀ j o', ops[j]? = some o' → o'.dst = some d → j = i

theorem opsOk_spec {ops : Array Oper} {T : List Nat} : ∀ {os : List Oper} {i k : Nat} {o : Oper}, opsOk ops.toList T os i = true → os[k]? = some o → Stat ops T (i + k) o
  | [], i, k, o, _, h => by simp at h
  | x :: os, i, k, o, hc, h => by
    simp only [opsOk] at hc
    cases h1 : x.op.operands.toList.all okOperand <;> simp only [h1] at hc <;> try (cases hc; done)
    cases h2 : subm (T.getD i 0) (upE T x.after.toList) <;> simp only [h2] at hc <;> try (cases hc; done)
    cases h3 : allSub ops.toList (Nat.lor (T.getD i 0) (later i T 0)) (opTmps x.op.operands.toList) <;> simp only [h3] at hc <;> try (cases hc; done)
    cases h4 : allSub ops.toList (Nat.lor (T.getD i 0) (later i T 0)) (gdTmp ops.toList x) <;> simp only [h4] at hc <;> try (cases hc; done)
    cases h5 : (match x.dst with
              | none => true
              | some d => Nat.beq (dstMask d ops.toList 0) (bt i)) <;> simp only [h5] at hc <;> try (cases hc; done)
    cases k with
    | succ k =>
      have := opsOk_spec hc (show os[k]? = some o by simpa using h)
      rwa [show i + 1 + k = i + (k + 1) by omega] at this
    | zero =>
      simp at h
      subst h
      refine ⟨h1, ?_, ?_, ?_⟩
      · intro j hj
        have := subm_spec.1 h2 j hj
        obtain ⟨e, e1, e2, e3⟩ := upE_spec this
        refine ⟨e.on, depE_spec.2 ⟨e, e1, e2, rfl⟩, ?_⟩
        rcases e3 with e3 | e3
        · exact .inl e3.symm
        · exact .inr e3
      · intro t ht j o' ho' hd'
        have hm := dstMask_spec (j := 0) (show ops.toList[j]? = some o' by simpa using ho') hd'
        rw [Nat.zero_add] at hm
        have fin : (Nat.lor (T.getD i 0) (later i T 0)).testBit j = true → (T.getD i 0).testBit j = true ∨ (T.getD j 0).testBit i = true := by
          intro h0
          rw [testBit_lor, Bool.or_eq_true] at h0
          rcases h0 with h0 | h0
          · exact .inl h0
          · exact .inr (by simpa using (later_spec h0).2)
        rcases ht with ht | ht
        · exact fin (subm_spec.1 (allSub_spec h3 t ht) j hm)
        · exact fin (subm_spec.1 (allSub_spec h4 t ht) j hm)
      · intro d hd j o' ho' hd'
        rw [hd] at h5
        simp only at h5
        have hm := dstMask_spec (j := 0) (show ops.toList[j]? = some o' by simpa using ho') hd'
        rw [Nat.zero_add, Nat.eq_of_beq_eq_true h5, testBit_bt] at hm
        simpa using Eq.symm (by simpa using hm : i = j)

def chkMask : List Stp → Nat
  | .chk i :: r => Nat.lor (bt i) (chkMask r)
  | _ => 0
def dropChk : List Stp → List Stp
  | .chk _ :: r => dropChk r
  | r => r

theorem dropChk_len : ∀ r : List Stp, (dropChk r).length ≤ r.length
  | [] => by simp [dropChk]
  | .chk _ :: r => by simp [dropChk]; have := dropChk_len r; omega
  | .run _ :: _ => by simp [dropChk]
  | .bar _ :: _ => by simp [dropChk]

def complete' (D b : Nat) : List Oper → Nat → Bool
  | [], _ => true
  | o :: os, j => match (match D.testBit j with
      | true => true
      | false => match Nat.beq j b with
        | true => true
        | false => match subm (depE o.after.toList) D with
          | true => false
          | false => true) with
    | true => complete' D b os (j + 1)
    | false => false

theorem complete_spec {D b : Nat} : ∀ {os : List Oper} {j k : Nat} {o : Oper}, complete' D b os j = true → os[k]? = some o → D.testBit (j + k) = false → j + k ≠ b → subm (depE o.after.toList) D = false
  | [], _, _, _, _, h, _, _ => by simp at h
  | x :: os, j, k, o, hc, h, hd, hb => by
    simp only [complete'] at hc
    cases k with
    | zero =>
      simp at h
      subst h
      rw [Nat.add_zero] at hd hb
      simp only [hd, beq_f hb] at hc
      cases hs : subm (depE x.after.toList) D with
      | true => simp [hs] at hc
      | false => rfl
    | succ k =>
      split at hc
      · refine complete_spec hc (show os[k]? = some o by simpa using h) ?_ ?_
        · rw [show j + 1 + k = j + (k + 1) by omega]; exact hd
        · rw [show j + 1 + k = j + (k + 1) by omega]; exact hb
      · cases hc

def asked (E : Env) (D Tb C : Nat) : List Oper → Nat → Bool
  | [], _ => true
  | o :: os, i => match (match D.testBit i with
      | false => true
      | true => match Tb.testBit i with
        | true => true
        | false => match reads E o with
          | false => true
          | true => match makes o with
            | true => true
            | false => C.testBit i) with
    | true => asked E D Tb C os (i + 1)
    | false => false

theorem asked_spec {E : Env} {D Tb C : Nat} : ∀ {os : List Oper} {i k : Nat} {o : Oper}, asked E D Tb C os i = true → os[k]? = some o → D.testBit (i + k) = true → Tb.testBit (i + k) = false → reads E o = true → makes o = false → C.testBit (i + k) = true
  | [], _, _, _, _, h, _, _, _, _ => by simp at h
  | x :: os, i, k, o, hc, h, hd, ht, hr, hm => by
    simp only [asked] at hc
    cases k with
    | zero =>
      simp at h
      subst h
      rw [Nat.add_zero] at hd ht ⊢
      simp only [hd, ht, hr, hm] at hc
      split at hc
      · assumption
      · cases hc
    | succ k =>
      split at hc
      · have := asked_spec hc (show os[k]? = some o by simpa using h) (by rw [show i + 1 + k = i + (k + 1) by omega]; exact hd) (by rw [show i + 1 + k = i + (k + 1) by omega]; exact ht) hr hm
        rwa [show i + 1 + k = i + (k + 1) by omega] at this
      · cases hc

def planF (E : Env) (all : List Oper) (T : List Nat) : Nat → Nat → List Stp → Bool
  | 0, _, _ => false
  | _ + 1, D, [] => Nat.beq D (Nat.sub (bt all.length) 1)
  | n + 1, D, .run i :: r => match all[i]? with
    | none => false
    | some o => match D.testBit i with
      | true => false
      | false => match subm (depE o.after.toList) D with
        | false => false
        | true => match o.dst with
          | none => false
          | some d => match Nat.beq (Nat.land (readM all d all 0) (Nat.lor D (bt i))) 0 with
            | true => planF E all T n (Nat.lor D (bt i)) r
            | false => false
  | n + 1, D, .bar i :: r => match all[i]? with
    | none => false
    | some o => match D.testBit i with
      | true => false
      | false => match subm (depE o.after.toList) D with
        | false => false
        | true => match complete' D i all 0 with
          | false => false
          | true => match asked E D (T.getD i 0) (chkMask r) all 0 with
            | false => false
            | true => planF E all T n (Nat.lor D (bt i)) (dropChk r)
  | _ + 1, _, .chk _ :: _ => false

def planOk (E : Env) (all : List Oper) (T : List Nat) (p : List Stp) : Bool := match opsOk all T all 0 with
  | true => planF E all T (p.length + 1) 0 p
  | false => false
end
end Go.AE
