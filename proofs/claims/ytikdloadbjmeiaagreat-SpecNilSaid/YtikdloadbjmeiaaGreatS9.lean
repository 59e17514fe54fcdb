import Derived.Test.YtikdloadbjmeiaaGreatS8
/- An evaluator over an abstract heap: regions whose order is drawn: a plan that is good stands for every order. -/
namespace Go.AE
open Go
noncomputable section
variable {U : Un}

def putS (s : St) (d : Option Tmp) (v : Value) : St := match d with
  | none => s
  | some d => ⟨s.tmps.set (d + 1) v, s.n, s.heap, s.defers, s.round⟩

theorem putS_get (s : St) (d : Option Tmp) (v : Value) (t : Nat) : (putS s d v).get t = if d = some t then v else s.get t := by
  cases d with
  | none => simp [putS]
  | some d =>
    unfold putS
    rw [St.get_set]
    by_cases h : t = d
    · subst h; simp
    · rw [if_neg h, if_neg (by simpa using Ne.symm h)]

theorem putS_heap (s : St) (d : Option Tmp) (v : Value) : (putS s d v).heap = s.heap := by cases d <;> rfl
theorem putS_n (s : St) (d : Option Tmp) (v : Value) : (putS s d v).n = s.n := by cases d <;> rfl
theorem putS_defers (s : St) (d : Option Tmp) (v : Value) : (putS s d v).defers = s.defers := by cases d <;> rfl
theorem putS_round (s : St) (d : Option Tmp) (v : Value) : (putS s d v).round = s.round := by cases d <;> rfl

theorem St.put_good {ω : Type} {good : ω → Prop} {bad : ω} (hbad : ¬ good bad) {s : St} {d : Option Tmp} {v : Value} {K : St → ω} (hg : good (St.put s d v bad K)) : (∀ t, d = some t → t < s.n) ∧ good (K (putS s d v)) := by
  unfold St.put at hg
  cases d with
  | none => exact ⟨fun t h => (by cases h), hg⟩
  | some d =>
    obtain ⟨t, n, h, ds, r⟩ := s
    simp only at hg
    cases hb : Nat.ble n d with
    | true => simp only [hb] at hg; exact absurd hg hbad
    | false => simp only [hb] at hg; exact ⟨fun t' ht => (by cases ht; exact not_ble hb), hg⟩

theorem on_get (s : St) (h : AH) (t : Nat) : (s.on h).get t = s.get t := by cases s; rfl
theorem on_heap (s : St) (h : AH) : (s.on h).heap = h := by cases s; rfl
theorem on_n (s : St) (h : AH) : (s.on h).n = s.n := by cases s; rfl
theorem on_defers (s : St) (h : AH) : (s.on h).defers = s.defers := by cases s; rfl
theorem on_round (s : St) (h : AH) : (s.on h).round = s.round := by cases s; rfl

theorem eval_same {s s' : St} {l : List Operand} (h : ∀ t ∈ opTmps l, s'.get t = s.get t) : ∀ x ∈ l, s'.eval x = s.eval x := by
  intro x hx
  cases x with
  | tmp t => exact h t (opTmps_mem hx)
  | _ => rfl

theorem aWanted_same {ops : List Oper} {s s' : St} {o : Oper} (h : ∀ t ∈ gdTmp ops o, s'.get t = s.get t) : aWanted ops s' o = aWanted ops s o := by
  unfold aWanted
  cases hg : o.guard with
  | none => rfl
  | some g =>
    obtain ⟨j, want⟩ := g
    simp only
    have : aYielded ops s' j = aYielded ops s j := by
      unfold aYielded
      cases ho : ops[j]? with
      | none => rfl
      | some o' =>
        simp only
        cases hd : o'.dst with
        | none => rfl
        | some d => simp only; rw [h d (by simp [gdTmp, hg, ho, hd])]
    rw [this]

theorem wanted_ok' {ops : Array Oper} {m : Mp} {s : St} {a : Act} {o : Oper} (h : ∀ t ∈ gdTmp ops.toList o, VRel m (s.get t) (a.tmps.getD t undef)) : Region.wanted o (yielded ops a.tmps) = aWanted ops.toList s o := by
  unfold Region.wanted aWanted
  cases hg : o.guard with
  | none => rfl
  | some g =>
    obtain ⟨j, want⟩ := g
    simp only
    have key : yielded ops a.tmps j = aYielded ops.toList s j := by
      unfold yielded aYielded
      rw [Array.getElem?_toList]
      cases ho : ops[j]? with
      | none => simp
      | some o' =>
        simp only [Option.bind_some]
        cases hd : o'.dst with
        | none => rfl
        | some d =>
          have hv := h d (by simp [gdTmp, hg, ho, hd])
          simp only [Option.bind_some]
          rw [Array.getD_eq_getD_getElem?] at hv
          cases hq : a.tmps[d]? with
          | none =>
            rw [hq] at hv
            simp only [Option.getD_none] at hv
            unfold undef at hv
            generalize s.get d = z at hv
            cases hv
            rfl
          | some y =>
            rw [hq] at hv
            simp only [Option.getD_some] at hv
            generalize s.get d = z at hv
            cases hv <;> rfl
    rw [key]
    cases aYielded ops.toList s j with
    | none => rfl
    | some b => cases b <;> cases want <;> rfl

/-! ### Blocks that are spoken for -/
abbrev Pd := List (Nat × Nat × Obj)

def unP (U0 : Un) : Pd → Un
  | [], b => U0 b
  | p :: ps, b => match Nat.beq p.2.1 b with
    | true => some p.2.2
    | false => unP U0 ps b

def rmP (c : Nat) : Pd → Pd
  | [] => []
  | p :: ps => match Nat.beq p.2.1 c with
    | true => rmP c ps
    | false => p :: rmP c ps

theorem rmP_mem {c : Nat} {q : Nat × Nat × Obj} : ∀ {ps : Pd}, q ∈ rmP c ps ↔ q ∈ ps ∧ q.2.1 ≠ c
  | [] => by simp [rmP]
  | p :: ps => by
    simp only [rmP]
    by_cases h : p.2.1 = c
    · rw [h, Nat.beq_refl]
      simp only
      rw [rmP_mem]
      constructor
      · rintro ⟨a, b⟩; exact ⟨List.mem_cons_of_mem _ a, b⟩
      · rintro ⟨a, b⟩
        rcases List.mem_cons.1 a with rfl | a
        · exact absurd h b
        · exact ⟨a, b⟩
    · rw [beq_f h]
      simp only [List.mem_cons]
      rw [rmP_mem]
      constructor
      · rintro (rfl | ⟨a, b⟩)
        · exact ⟨.inl rfl, h⟩
        · exact ⟨.inr a, b⟩
      · rintro ⟨rfl | a, b⟩
        · exact .inl rfl
        · exact .inr ⟨a, b⟩

theorem unP_none {U0 : Un} {b : Nat} : ∀ {ps : Pd}, (∀ p ∈ ps, p.2.1 ≠ b) → unP U0 ps b = U0 b
  | [], _ => rfl
  | p :: ps, h => by
    simp only [unP]
    rw [beq_f (h p (by simp))]
    exact unP_none fun q hq => h q (by simp [hq])

/-- Blocks apart. -/
def apartP : Pd → Prop
  | [] => True
  | p :: ps => (∀ q ∈ ps, q.2.1 ≠ p.2.1 ∧ q.1 ≠ p.1) ∧ apartP ps

theorem unP_some {U0 : Un} {p : Nat × Nat × Obj} : ∀ {ps : Pd}, apartP ps → p ∈ ps → unP U0 ps p.2.1 = some p.2.2
  | q :: ps, h, hp => by
    simp only [unP]
    rcases List.mem_cons.1 hp with rfl | hp
    · rw [Nat.beq_refl]
    · rw [beq_f (fun e => (h.1 p hp).1 e.symm)]
      exact unP_some h.2 hp

theorem unP_rm {U0 : Un} {c b : Nat} : ∀ {ps : Pd}, b ≠ c → unP U0 (rmP c ps) b = unP U0 ps b
  | [], _ => rfl
  | p :: ps, h => by
    simp only [rmP]
    by_cases hp : p.2.1 = c
    · rw [hp, Nat.beq_refl]
      simp only [unP]
      rw [hp, beq_f (Ne.symm h)]
      exact unP_rm h
    · rw [beq_f hp]
      simp only [unP]
      rw [unP_rm h]

theorem apartP_rm {c : Nat} : ∀ {ps : Pd}, apartP ps → apartP (rmP c ps)
  | [], _ => trivial
  | p :: ps, h => by
    simp only [rmP]
    cases Nat.beq p.2.1 c with
    | true => exact apartP_rm h.2
    | false => exact ⟨fun q hq => h.1 q (rmP_mem.1 hq).1, apartP_rm h.2⟩

theorem apartP_one {p q : Nat × Nat × Obj} : ∀ {ps : Pd}, apartP ps → p ∈ ps → q ∈ ps → p.2.1 = q.2.1 → p = q
  | x :: ps, h, hp, hq, e => by
    rcases List.mem_cons.1 hp with hp1 | hp1 <;> rcases List.mem_cons.1 hq with hq1 | hq1
    · rw [hp1, hq1]
    · rw [hp1] at e; exact absurd e.symm (h.1 q hq1).1
    · rw [hq1] at e; exact absurd e (h.1 p hp1).1
    · exact apartP_one h.2 hp1 hq1 e

theorem apartP_idx {p q : Nat × Nat × Obj} : ∀ {ps : Pd}, apartP ps → p ∈ ps → q ∈ ps → p.1 = q.1 → p = q
  | x :: ps, h, hp, hq, e => by
    rcases List.mem_cons.1 hp with hp1 | hp1 <;> rcases List.mem_cons.1 hq with hq1 | hq1
    · rw [hp1, hq1]
    · rw [hp1] at e; exact absurd e.symm (h.1 q hq1).2
    · rw [hq1] at e; exact absurd e (h.1 p hp1).2
    · exact apartP_idx h.2 hp1 hq1 e

/-- A block more is spoken for. -/
theorem HRel.reserve {m : Mp} {h : AH} {w : World} {pend : Pd} {U0 : Un} {i : Nat} {ob : Obj} (hr : HRel (unP U0 pend) m h w) (hn : h.get h.fresh = none) :
    HRel (unP U0 ((i, h.fresh, ob) :: pend)) m (aPush h ob) w where
  obj b o e u := by
    rw [aPush_get] at e
    simp only [unP] at u
    by_cases hb : b = h.fresh
    · subst hb; simp at u
    · rw [if_neg hb] at e
      rw [beq_f (Ne.symm hb)] at u
      exact hr.obj b o e u
  res b o u := by
    simp only [unP] at u
    rw [aPush_get]
    by_cases hb : b = h.fresh
    · subst hb
      simp only [Nat.beq_refl, Option.some.injEq] at u
      subst u
      exact ⟨by rw [if_pos rfl], hr.no _ hn⟩
    · rw [beq_f (Ne.symm hb)] at u
      rw [if_neg hb]
      exact hr.res b o u
  no b e := by
    rw [aPush_get] at e
    by_cases hb : b = h.fresh
    · rw [if_pos hb] at e; cases e
    · rw [if_neg hb] at e; exact hr.no b e
  inj := hr.inj

theorem without_get (h : AH) (c b : Nat) : (without h c).get b = if b = c then none else h.get b := by
  unfold without AH.get
  simp only [Tr.get_nil']
  by_cases hb : b = c
  · subst hb; simp
  · rw [beq_f hb, if_neg hb]

theorem HRel.release {m : Mp} {h : AH} {w : World} {pend : Pd} {U0 : Un} {p : Nat × Nat × Obj} (hr : HRel (unP U0 pend) m h w) (hap : apartP pend) (hp : p ∈ pend) (hu : U0 p.2.1 = none) :
    HRel (unP U0 (rmP p.2.1 pend)) m (without h p.2.1) w where
  obj b o e u := by
    rw [without_get] at e
    by_cases hb : b = p.2.1
    · rw [if_pos hb] at e; cases e
    · rw [if_neg hb] at e
      rw [unP_rm hb] at u
      exact hr.obj b o e u
  res b o u := by
    by_cases hb : b = p.2.1
    · subst hb
      rw [unP_none (fun q hq => (rmP_mem.1 hq).2), hu] at u
      cases u
    · rw [unP_rm hb] at u
      rw [without_get, if_neg hb]
      exact hr.res b o u
  no b e := by
    rw [without_get] at e
    by_cases hb : b = p.2.1
    · subst hb; exact (hr.res _ _ (unP_some hap hp)).2
    · rw [if_neg hb] at e; exact hr.no b e
  inj := hr.inj

section
variable {ω : Type} {E : Env} {A : Orc ω} {good : ω → Prop} {K : St → ω} {ops : Array Oper} {T : List Nat} {U0 : Un} {fl : Nat} {rd : Option Nat} {m0 : Mp} {w0 : World}

/-- An operation that the plan has behind it, and the run has not. -/
def Pend (E : Env) (ops : Array Oper) (pend : Pd) (s : St) (i : Nat) (o : Oper) : Prop :=
  ∃ d, o.dst = some d ∧ d < s.n ∧ ((aWanted ops.toList s o = false ∧ s.get d = undef) ∨ (aWanted ops.toList s o = true ∧ makes o = false ∧ aflt E o s.eval s.heap = some (s.get d)) ∨
    (aWanted ops.toList s o = true ∧ makes o = true ∧ ∃ c ob, (i, c, ob) ∈ pend ∧ ∀ h2 : AH, h2.fresh = c → h2.get c = none → aopX E o s.eval h2 = some (.value (s.get d), aPush h2 ob)))

structure PInv (E : Env) (A : Orc ω) (good : ω → Prop) (K : St → ω) (ops : Array Oper) (T : List Nat) (U0 : Un) (fl : Nat) (rd : Option Nat) (m0 : Mp) (w0 : World) (D S : Nat) (rest : List Stp) (pend : Pd) (s : St) (m : Mp) (a : Act) (w : World) : Prop where
  ok : ∃ n, planF E ops.toList T n D rest = true
  din : ∀ i, D.testBit i = true → i < ops.size
  dclosed : ∀ i j, D.testBit i = true → (T.getD i 0).testBit j = true → D.testBit j = true
  sclosed : ∀ i j, S.testBit i = true → (T.getD i 0).testBit j = true → S.testBit j = true
  sub : ∀ i, S.testBit i = true → D.testBit i = true
  size : a.tmps.size = s.n
  tmp : ∀ t, (∀ i o, D.testBit i = true → S.testBit i = false → ops[i]? = some o → o.dst ≠ some t) → VRel m (s.get t) (a.tmps.getD t undef)
  defers : DsRel m s.defers a.defers
  heap : HRel (unP U0 pend) m s.heap w
  pd : ∀ i o, D.testBit i = true → S.testBit i = false → ops[i]? = some o → Pend E ops pend s i o
  pb : ∀ p ∈ pend, D.testBit p.1 = true ∧ S.testBit p.1 = false ∧ ∀ o, ops[p.1]? = some o → makes o = true ∧ aWanted ops.toList s o = true
  pu : ∀ p ∈ pend, U0 p.2.1 = none
  pn : apartP pend
  ext : Ext m0 w0 fl m w
  floor : s.heap.floor = fl
  round : s.round = rd
  good : good (evPlan E A ops rest s K)
  pf : ∀ x ox d, D.testBit x = true → S.testBit x = false → ops[x]? = some ox → ox.dst = some d → ∀ i oi, (T.getD x 0).testBit i = true → ops[i]? = some oi → d ∉ opTmps oi.op.operands.toList ∧ d ∉ gdTmp ops.toList oi
  wf : ∀ X : Nat → Bool, (∃ i, D.testBit i = true ∧ X i = false) → ∃ i o, D.testBit i = true ∧ X i = false ∧ ops[i]? = some o ∧ ∀ k, (depE o.after.toList).testBit k = true → X k = true

variable {D S : Nat} {rest : List Stp} {pend : Pd} {s : St} {m : Mp} {a : Act} {w : World}

/-- The place of an operation that is not yet done is looked at by none that is and of which it is no successor. -/
theorem unseen (hst : ∀ i o, ops[i]? = some o → Stat ops T i o) (hdc : ∀ i j, D.testBit i = true → (T.getD i 0).testBit j = true → D.testBit j = true) {i j : Nat} {o oj : Oper} {d : Nat}
    (hi : D.testBit i = true) (ho : ops[i]? = some o) (hj : D.testBit j = false) (hoj : ops[j]? = some oj) (hd : oj.dst = some d) (hno : (T.getD j 0).testBit i = false ∨ (d ∉ opTmps o.op.operands.toList ∧ d ∉ gdTmp ops.toList o)) :
    d ∉ opTmps o.op.operands.toList ∧ d ∉ gdTmp ops.toList o ∧ o.dst ≠ some d := by
  have key : ∀ t, t = d → (t ∈ opTmps o.op.operands.toList ∨ t ∈ gdTmp ops.toList o) → False := by
    intro t e h
    subst e
    rcases (hst i o ho).sees t h j oj hoj hd with h1 | h1
    · have := hdc i j hi h1
      rw [hj] at this; cases this
    · rcases hno with hno | ⟨h2, h3⟩
      · rw [hno] at h1; cases h1
      · rcases h with h | h
        · exact h2 h
        · exact h3 h
  refine ⟨fun h => key d rfl (.inl h), fun h => key d rfl (.inr h), fun h => ?_⟩
  have := (hst i o ho).own d h j oj hoj hd
  subst this
  rw [hj] at hi; cases hi

theorem unread {d m k : Nat} {o : Oper} (h : Nat.beq (Nat.land (readM ops.toList d ops.toList 0) m) 0 = true) (hm : m.testBit k = true) (ho : ops[k]? = some o) : d ∉ opTmps o.op.operands.toList ∧ d ∉ gdTmp ops.toList o := by
  have h0 := Nat.eq_of_beq_eq_true h
  have key : (readM ops.toList d ops.toList 0).testBit k = false := by
    cases hr : (readM ops.toList d ops.toList 0).testBit k with
    | false => rfl
    | true =>
      have : (Nat.land (readM ops.toList d ops.toList 0) m).testBit k = true := by
        show Nat.testBit (readM ops.toList d ops.toList 0 &&& m) k = true
        rw [Nat.testBit_and, hr, hm]; rfl
      rw [h0] at this; simp at this
  have hol : ops.toList[k]? = some o := by simpa using ho
  refine ⟨fun hd => ?_, fun hd => ?_⟩
  · have := readM_spec (all := ops.toList) (j := 0) hol (.inl hd)
    rw [Nat.zero_add, key] at this; cases this
  · have := readM_spec (all := ops.toList) (j := 0) hol (.inr hd)
    rw [Nat.zero_add, key] at this; cases this

/-- What is kept when a place is filled at which none of the pending ones looks. -/
theorem Pend.keep {s s' : St} {i : Nat} {o : Oper} {pend pend' : Pd} (hp : Pend E ops pend s i o) (ht : ∀ t ∈ opTmps o.op.operands.toList, s'.get t = s.get t) (hg : ∀ t ∈ gdTmp ops.toList o, s'.get t = s.get t)
    (hd : ∀ d, o.dst = some d → s'.get d = s.get d) (hn : s'.n = s.n) (hf : ∀ d, o.dst = some d → makes o = false → aWanted ops.toList s o = true → aflt E o s.eval s.heap = some (s.get d) → aflt E o s.eval s'.heap = some (s.get d)) (hpp : ∀ c ob, (i, c, ob) ∈ pend → (i, c, ob) ∈ pend') :
    Pend E ops pend' s' i o := by
  obtain ⟨d, h1, h2, h3⟩ := hp
  have e1 : ∀ x ∈ o.op.operands, s'.eval x = s.eval x := fun x hx => eval_same ht x (by simpa using hx)
  have ew := aWanted_same hg
  refine ⟨d, h1, by rw [hn]; exact h2, ?_⟩
  rw [ew, hd d h1]
  rcases h3 with h3 | ⟨h3, h4, h5⟩ | ⟨h3, h4, c, ob, h5, h6⟩
  · exact .inl h3
  · exact .inr (.inl ⟨h3, h4, by rw [aflt_congr e1]; exact hf d h1 h4 h3 h5⟩)
  · exact .inr (.inr ⟨h3, h4, c, ob, hpp c ob h5, fun h2 e2 e3 => by rw [aopX_congr e1]; exact h6 h2 e2 e3⟩)

theorem bit_add {D i j : Nat} : (Nat.lor D (bt i)).testBit j = (D.testBit j || decide (i = j)) := by rw [testBit_lor, testBit_bt]

theorem wf_add {D i : Nat} {o : Oper} (hw : ∀ X : Nat → Bool, (∃ i, D.testBit i = true ∧ X i = false) → ∃ i o, D.testBit i = true ∧ X i = false ∧ ops[i]? = some o ∧ ∀ k, (depE o.after.toList).testBit k = true → X k = true)
    (ho : ops[i]? = some o) (hdep : ∀ k, (depE o.after.toList).testBit k = true → D.testBit k = true) :
    ∀ X : Nat → Bool, (∃ j, (Nat.lor D (bt i)).testBit j = true ∧ X j = false) → ∃ j o, (Nat.lor D (bt i)).testBit j = true ∧ X j = false ∧ ops[j]? = some o ∧ ∀ k, (depE o.after.toList).testBit k = true → X k = true := by
  rintro X ⟨j, hj, hXj⟩
  by_cases hD : ∃ i, D.testBit i = true ∧ X i = false
  · obtain ⟨x, ox, h1, h2, h3, h4⟩ := hw X hD
    exact ⟨x, ox, by rw [bit_add, h1]; rfl, h2, h3, h4⟩
  · have hall : ∀ k, D.testBit k = true → X k = true := by
      intro k hk
      cases hX : X k with
      | true => rfl
      | false => exact absurd ⟨k, hk, hX⟩ hD
    rw [bit_add, Bool.or_eq_true] at hj
    rcases hj with hj | hj
    · rw [hall j hj] at hXj; cases hXj
    · have : i = j := by simpa using hj
      subst this
      exact ⟨i, o, by rw [bit_add]; simp, hXj, ho, fun k hk => hall k (hdep k hk)⟩

/-- The plan goes on by one operation that the run need not have done. -/
theorem PInv.adv (hA : OrcOK E.P good A) (hst : ∀ i o, ops[i]? = some o → Stat ops T i o) {i : Nat} {r : List Stp} (h : PInv E A good K ops T U0 fl rd m0 w0 D S (.run i :: r) pend s m a w) :
    ∃ pend' s', PInv E A good K ops T U0 fl rd m0 w0 (Nat.lor D (bt i)) S r pend' s' m a w := by
  obtain ⟨n, hok⟩ := h.ok
  cases n with
  | zero => simp [planF] at hok
  | succ n =>
  simp only [planF] at hok
  have hgood := h.good
  simp only [evPlan] at hgood
  cases ho : ops[i]? with
  | none => simp only [ho] at hgood; exact absurd hgood hA.bad
  | some o =>
  have hol : ops.toList[i]? = some o := by simpa using ho
  simp only [hol] at hok
  simp only [ho] at hgood
  cases hDi : D.testBit i <;> simp only [hDi] at hok <;> try (cases hok; done)
  cases hsub : subm (depE o.after.toList) D <;> simp only [hsub] at hok <;> try (cases hok; done)
  cases hdst : o.dst with
  | none => simp [hdst] at hok
  | some d =>
  simp only [hdst] at hok
  cases hrm : Nat.beq (Nat.land (readM ops.toList d ops.toList 0) (Nat.lor D (bt i))) 0 <;> simp only [hrm] at hok <;> try (cases hok; done)
  have hdep := subm_spec.1 hsub
  have hSi : S.testBit i = false := by
    cases hs : S.testBit i with
    | false => rfl
    | true => have := h.sub i hs; rw [hDi] at this; cases this
  have hst' := hst i o ho
  have hself := unread (k := i) hrm (by rw [bit_add]; simp) ho
  have hlt : i < ops.size := (Array.getElem?_eq_some_iff.1 ho).1
  have hdin : ∀ j, (Nat.lor D (bt i)).testBit j = true → j < ops.size := by
    intro j hj
    rw [bit_add, Bool.or_eq_true] at hj
    rcases hj with hj | hj
    · exact h.din j hj
    · have : i = j := by simpa using hj
      omega
  have hdcl : ∀ x j, (Nat.lor D (bt i)).testBit x = true → (T.getD x 0).testBit j = true → (Nat.lor D (bt i)).testBit j = true := by
    intro x j hx hj
    rw [bit_add, Bool.or_eq_true] at hx ⊢
    rcases hx with hx | hx
    · exact .inl (h.dclosed x j hx hj)
    · have : i = x := by simpa using hx
      subst this
      obtain ⟨k, h1, h2⟩ := hst'.up j hj
      have hk := hdep k h1
      rcases h2 with rfl | h2
      · exact .inl hk
      · exact .inl (h.dclosed k j hk h2)
  have hsub' : ∀ j, S.testBit j = true → (Nat.lor D (bt i)).testBit j = true := by
    intro j hj; rw [bit_add, h.sub j hj]; rfl
  have hwant : ∀ (v : Value) (h' : AH), aWanted ops.toList (putS (s.on h') (some d) v) o = aWanted ops.toList s o := by
    intro v h'
    refine aWanted_same fun t ht => ?_
    rw [putS_get, if_neg (fun e => hself.2 (by cases e; exact ht)), on_get]
  -- what is the same for a state in which the place is filled
  have common : ∀ (v : Value) (h' : AH) (pend' : Pd), (∀ t, d = t → t < s.n) → good (evPlan E A ops r (putS (s.on h') (some d) v) K) → HRel (unP U0 pend') m h' w → h'.floor = s.heap.floor → AHle s.heap h' →
      (∀ p ∈ pend', p ∈ pend ∨ (p.1 = i ∧ makes o = true ∧ aWanted ops.toList s o = true)) → (∀ p ∈ pend, p ∈ pend') → (∀ p ∈ pend', U0 p.2.1 = none) → apartP pend' →
      Pend E ops pend' (putS (s.on h') (some d) v) i o → PInv E A good K ops T U0 fl rd m0 w0 (Nat.lor D (bt i)) S r pend' (putS (s.on h') (some d) v) m a w := by
    intro v h' pend' hdn hg hh hfl hle hp1 hp2 hp3 hp4 hpi
    refine ⟨⟨n, hok⟩, hdin, hdcl, h.sclosed, hsub', ?_, ?_, ?_, ?_, ?_, ?_, hp3, hp4, h.ext, ?_, ?_, hg, ?_, wf_add h.wf ho hdep⟩
    · rw [putS_n, on_n]; exact h.size
    · intro t ht
      have hdt : d ≠ t := fun e => ht i o (by rw [bit_add]; simp) hSi ho (by rw [hdst, e])
      rw [putS_get, if_neg (by simpa using hdt), on_get]
      exact h.tmp t fun x ox hx hSx hox => ht x ox (by rw [bit_add, hx]; rfl) hSx hox
    · rw [putS_defers, on_defers]; exact h.defers
    · rw [putS_heap, on_heap]; exact hh
    · intro x ox hx hSx hox
      rw [bit_add, Bool.or_eq_true] at hx
      by_cases hxi : i = x
      · subst hxi
        rw [ho] at hox; cases hox
        exact hpi
      · have hx' : D.testBit x = true := by
          rcases hx with hx | hx
          · exact hx
          · exact absurd (by simpa using hx) hxi
        have hu := unseen hst h.dclosed hx' hox hDi ho hdst (.inr (unread hrm (by rw [bit_add, hx']; rfl) hox))
        have hget : ∀ t, t ≠ d → (putS (s.on h') (some d) v).get t = s.get t := by
          intro t ht; rw [putS_get, if_neg (by simpa using Ne.symm ht), on_get]
        refine (h.pd x ox hx' hSx hox).keep ?_ ?_ ?_ ?_ ?_ ?_
        · intro t ht; exact hget t fun e => hu.1 (e ▸ ht)
        · intro t ht; exact hget t fun e => hu.2.1 (e ▸ ht)
        · intro d' hd'; exact hget d' fun e => hu.2.2 (e ▸ hd')
        · rw [putS_n, on_n]
        · intro u _ _ _ he
          rw [putS_heap, on_heap]
          exact aflt_mono hle he
        · intro c ob hm; exact hp2 _ hm
    · intro p hp
      rcases hp1 p hp with hp | ⟨hp, hp5, hp6⟩
      · obtain ⟨q1, q2, q3⟩ := h.pb p hp
        refine ⟨by rw [bit_add, q1]; rfl, q2, fun ox hox => ⟨(q3 ox hox).1, ?_⟩⟩
        rw [← (q3 ox hox).2]
        have hu := unseen hst h.dclosed q1 hox hDi ho hdst (.inr (unread hrm (by rw [bit_add, q1]; rfl) hox))
        refine aWanted_same fun t ht => ?_
        rw [putS_get, if_neg (fun e => hu.2.1 (by cases e; exact ht)), on_get]
      · rw [hp]
        refine ⟨by rw [bit_add]; simp, hSi, fun ox hox => ?_⟩
        rw [ho] at hox; cases hox
        exact ⟨hp5, by rw [hwant]; exact hp6⟩
    · rw [putS_heap, on_heap, hfl]; exact h.floor
    · rw [putS_round, on_round]; exact h.round
    · intro x ox dx hx hSx hox hdx k ok hk hok'
      rw [bit_add, Bool.or_eq_true] at hx
      by_cases hxi : i = x
      · subst hxi
        rw [ho] at hox; cases hox
        rw [hdst] at hdx; cases hdx
        exact unread hrm (hdcl i k (by rw [bit_add]; simp) hk) hok'
      · have hx' : D.testBit x = true := by
          rcases hx with hx | hx
          · exact hx
          · exact absurd (by simpa using hx) hxi
        exact h.pf x ox dx hx' hSx hox hdx k ok hk hok'
  have heval : ∀ (v : Value) (h' : AH), ∀ x ∈ o.op.operands, (putS (s.on h') (some d) v).eval x = s.eval x := by
    intro v h' x hx
    refine eval_same (fun t ht => ?_) x (show x ∈ o.op.operands.toList by simpa using hx)
    rw [putS_get, if_neg (fun e => hself.1 (by cases e; exact ht)), on_get]
  have hown : ∀ (v : Value) (h' : AH), (putS (s.on h') (some d) v).get d = v := by
    intro v h'; rw [putS_get, if_pos rfl]
  have hons : s.on s.heap = s := by cases s; rfl
  cases hw : aWanted ops.toList s o with
  | false =>
    simp only [hw, hdst] at hgood
    obtain ⟨g1, g2⟩ := St.put_good hA.bad hgood
    rw [← hons] at g2
    refine ⟨pend, _, common undef s.heap pend (fun t e => g1 t (by rw [e])) g2 h.heap rfl (.refl _) (fun p hp => .inl hp) (fun p hp => hp) h.pu h.pn ?_⟩
    exact ⟨d, hdst, by rw [putS_n, on_n]; exact g1 d rfl, .inl ⟨by rw [hwant]; exact hw, hown ..⟩⟩
  | true =>
    simp only [hw] at hgood
    cases hf : evFl E o s.eval s.heap with
    | none => simp only [hf] at hgood; exact absurd hgood hA.bad
    | some q =>
    obtain ⟨v, h'⟩ := q
    simp only [hf, hdst] at hgood
    obtain ⟨g1, g2⟩ := St.put_good hA.bad hgood
    have g1' : ∀ t, d = t → t < s.n := fun t e => by have := g1 t (by rw [e]); rwa [on_n] at this
    unfold evFl at hf
    cases hm : makes o with
    | false =>
      simp only [hm] at hf
      cases hfl : aflt E o s.eval s.heap with
      | none => simp [hfl] at hf
      | some v' =>
      simp only [hfl, Option.some.injEq, Prod.mk.injEq] at hf
      obtain ⟨rfl, rfl⟩ := hf
      refine ⟨pend, _, common v' s.heap pend g1' g2 h.heap rfl (.refl _) (fun p hp => .inl hp) (fun p hp => hp) h.pu h.pn ?_⟩
      refine ⟨d, hdst, by rw [putS_n, on_n]; exact g1' d rfl, .inr (.inl ⟨by rw [hwant]; exact hw, hm, ?_⟩)⟩
      rw [hown, putS_heap, on_heap, aflt_congr (heval _ _)]
      exact hfl
    | true =>
      simp only [hm] at hf
      cases hx : aopX E o s.eval s.heap with
      | none => simp [hx] at hf
      | some q =>
      obtain ⟨nx, h1⟩ := q
      obtain ⟨v', ob, rfl, e1, rfl, e3⟩ := makes_at hm hx
      simp only [hx, Option.some.injEq, Prod.mk.injEq] at hf
      obtain ⟨rfl, rfl⟩ := hf
      have hfresh : ∀ p ∈ pend, p.2.1 ≠ s.heap.fresh := by
        intro p hp e
        have := (h.heap.res _ _ (unP_some h.pn hp)).1
        rw [e, e1] at this; cases this
      have hU : U0 s.heap.fresh = none := by
        have := h.heap.un' e1
        rwa [unP_none hfresh] at this
      refine ⟨(i, s.heap.fresh, ob) :: pend, _, common v' (aPush s.heap ob) ((i, s.heap.fresh, ob) :: pend) g1' g2 (h.heap.reserve e1) rfl (aPush_le ob e1) ?_ ?_ ?_ ?_ ?_⟩
      · intro p hp
        rcases List.mem_cons.1 hp with rfl | hp
        · exact .inr ⟨rfl, hm, hw⟩
        · exact .inl hp
      · intro p hp; exact List.mem_cons_of_mem _ hp
      · intro p hp
        rcases List.mem_cons.1 hp with rfl | hp
        · exact hU
        · exact h.pu p hp
      · refine ⟨fun q hq => ⟨hfresh q hq, fun e => ?_⟩, h.pn⟩
        have := (h.pb q hq).1
        rw [e, hDi] at this; cases this
      · refine ⟨d, hdst, by rw [putS_n, on_n]; exact g1' d rfl, .inr (.inr ⟨by rw [hwant]; exact hw, hm, s.heap.fresh, ob, by simp, ?_⟩)⟩
        intro h2 e4 e5
        rw [hown, aopX_congr (heval _ _)]
        exact e3 h2 e4 e5

def normal : List Stp → Prop
  | .run _ :: _ => False
  | _ => True

theorem PInv.norm (hA : OrcOK E.P good A) (hst : ∀ i o, ops[i]? = some o → Stat ops T i o) : ∀ (rest : List Stp) (D : Nat) (pend : Pd) (s : St), PInv E A good K ops T U0 fl rd m0 w0 D S rest pend s m a w →
    ∃ D' rest' pend' s', normal rest' ∧ PInv E A good K ops T U0 fl rd m0 w0 D' S rest' pend' s' m a w
  | [], D, pend, s, h => ⟨D, [], pend, s, trivial, h⟩
  | .bar i :: r, D, pend, s, h => ⟨D, .bar i :: r, pend, s, trivial, h⟩
  | .chk i :: r, D, pend, s, h => ⟨D, .chk i :: r, pend, s, trivial, h⟩
  | .run i :: r, D, pend, s, h => by
    obtain ⟨pend', s', h'⟩ := h.adv hA hst
    exact PInv.norm hA hst r _ pend' s' h'
end
end
end Go.AE
