import Derived.Test.YtikdloadbjmeiaaGreatS9
/- An evaluator over an abstract heap: regions whose order is drawn: a plan that is good stands for every order, the rest. -/
namespace Go.AE
open Go
noncomputable section

section
variable {ω : Type} {E : Env} {A : Orc ω} {good : ω → Prop} {K : St → ω} {ops : Array Oper} {T : List Nat} {U0 : Un} {fl : Nat} {rd : Option Nat} {m0 : Mp} {w0 : World}
variable {D S : Nat} {rest : List Stp} {pend : Pd} {s : St} {m : Mp} {a : Act} {w : World}

theorem put_getD (a : Act) (d : Option Tmp) (v : Value) (t : Nat) : (a.put d v).tmps.getD t undef = if d = some t ∧ t < a.tmps.size then v else a.tmps.getD t undef := by
  cases d with
  | none => simp [Act.put]
  | some d =>
    simp only [Act.put, Array.getD_eq_getD_getElem?, Array.getElem?_setIfInBounds]
    by_cases h : d = t
    · subst h
      by_cases h2 : d < a.tmps.size
      · simp [h2]
      · simp [h2]
    · simp [h]

theorem put_size (a : Act) (d : Option Tmp) (v : Value) : (a.put d v).tmps.size = a.tmps.size := by cases d <;> simp [Act.put]
theorem put_defers (a : Act) (d : Option Tmp) (v : Value) : (a.put d v).defers = a.defers := by cases d <;> rfl

/-- The operands of an operation whose forerunners are all done. -/
theorem PInv.operands (hst : ∀ i o, ops[i]? = some o → Stat ops T i o) (h : PInv E A good K ops T U0 fl rd m0 w0 D S rest pend s m a w) {i : Nat} {o : Oper} (ho : ops[i]? = some o)
    (hanc : ∀ j, (T.getD i 0).testBit j = true → S.testBit j = true) : (∀ x ∈ o.op.operands, VRel m (s.eval x) (a.eval x)) ∧ Region.wanted o (yielded ops a.tmps) = aWanted ops.toList s o := by
  have hst' := hst i o ho
  have key : ∀ t, (t ∈ opTmps o.op.operands.toList ∨ t ∈ gdTmp ops.toList o) → VRel m (s.get t) (a.tmps.getD t undef) := by
    intro t ht
    refine h.tmp t fun x ox hDx hSx hox hd => ?_
    rcases hst'.sees t ht x ox hox hd with h1 | h1
    · have := hanc x h1
      rw [hSx] at this; cases this
    · obtain ⟨k1, k2⟩ := h.pf x ox t hDx hSx hox hd i o h1 ho
      rcases ht with ht | ht
      · exact k1 ht
      · exact k2 ht
  refine ⟨fun x hx => ?_, wanted_ok' fun t ht => key t (.inr ht)⟩
  have hok := okAll hst'.ok x hx
  cases x with
  | tmp t => exact key t (.inl (opTmps_mem (by simpa using hx)))
  | const v =>
    have hp : plain v = true := hok
    show VRel m (match plain v with | true => v | false => undef) v
    rw [hp]; exact .of_plain m v hp
  | global g => cases hok
  | func f => exact .func rfl .nil .nil

/-- A pending operation is done. -/
theorem PInv.done (h : PInv E A good K ops T U0 fl rd m0 w0 D S rest pend s m a w) {i : Nat} {o : Oper} {d : Nat} {m' : Mp} {v' : Value} {w' : World} {pend' : Pd}
    (ho : ops[i]? = some o) (hD : D.testBit i = true) (hd : o.dst = some d) (hdn : d < s.n) (hanc : ∀ j, (T.getD i 0).testBit j = true → S.testBit j = true)
    (hx : Ext m w fl m' w') (hh : HRel (unP U0 pend') m' s.heap w') (hv : VRel m' (s.get d) v') (hp1 : ∀ p ∈ pend', p ∈ pend ∧ p.1 ≠ i) (hp2 : ∀ p ∈ pend, p.1 ≠ i → p ∈ pend') (hp3 : apartP pend') :
    PInv E A good K ops T U0 fl rd m0 w0 D (Nat.lor S (bt i)) rest pend' s m' (a.put o.dst v') w' := by
  refine ⟨h.ok, h.din, h.dclosed, ?_, ?_, ?_, ?_, ?_, hh, ?_, ?_, fun p hp => h.pu p (hp1 p hp).1, hp3, h.ext.trans hx, h.floor, h.round, h.good, ?_, h.wf⟩
  · intro x j hx hj
    rw [bit_add, Bool.or_eq_true] at hx ⊢
    rcases hx with hx | hx
    · exact .inl (h.sclosed x j hx hj)
    · have : i = x := by simpa using hx
      subst this
      exact .inl (hanc j hj)
  · intro x hx
    rw [bit_add, Bool.or_eq_true] at hx
    rcases hx with hx | hx
    · exact h.sub x hx
    · have : i = x := by simpa using hx
      subst this; exact hD
  · rw [put_size]; exact h.size
  · intro t ht
    rw [put_getD, hd]
    by_cases hdt : d = t
    · subst hdt
      rw [if_pos ⟨rfl, by rw [h.size]; exact hdn⟩]
      exact hv
    · rw [if_neg (by simp [hdt])]
      refine (h.tmp t fun x ox hx hSx hox => ?_).mono hx.le
      by_cases hxi : i = x
      · subst hxi
        rw [ho] at hox; cases hox
        rw [hd]; simpa using hdt
      · exact ht x ox hx (by rw [bit_add, hSx]; simpa using hxi) hox
  · rw [put_defers]; exact h.defers.mono hx.le
  · intro x ox hx hSx hox
    rw [bit_add, Bool.or_eq_false_iff] at hSx
    obtain ⟨hSx, hxi⟩ := hSx
    have hxi : i ≠ x := by simpa using hxi
    refine (h.pd x ox hx hSx hox).keep (fun _ _ => rfl) (fun _ _ => rfl) (fun _ _ => rfl) rfl (fun _ _ _ _ e => e) ?_
    intro c ob hm
    exact hp2 _ hm (Ne.symm hxi)
  · intro p hp
    obtain ⟨q1, q2⟩ := hp1 p hp
    obtain ⟨q3, q4, q5⟩ := h.pb p q1
    exact ⟨q3, by rw [bit_add, q4]; simpa using Ne.symm q2, q5⟩
  · intro x ox dx hx hSx hox hdx
    rw [bit_add, Bool.or_eq_false_iff] at hSx
    exact h.pf x ox dx hx hSx.1 hox hdx

/-- A step of the run at a pending operation. -/
theorem PInv.stepPend (hE : EnvOK E) (hst : ∀ i o, ops[i]? = some o → Stat ops T i o) (h : PInv E A good K ops T U0 fl rd m0 w0 D S rest pend s m a w) {i : Nat} {o : Oper} {ro : Option Nat} {Q : Exit → Act → World → Prop} {next : Act → World → Prop}
    (ho : ops[i]? = some o) (hD : D.testBit i = true) (hS : S.testBit i = false) (hanc : ∀ j, (T.getD i 0).testBit j = true → S.testBit j = true)
    (hnext : ∀ pend' m' a' w', PInv E A good K ops T U0 fl rd m0 w0 D (Nat.lor S (bt i)) rest pend' s m' a' w' → next a' w') : wpOpIn (Fr ro) 0 E.P ops Q i next a w := by
  obtain ⟨d, hd, hdn, hcase⟩ := h.pd i o hD hS ho
  obtain ⟨hops, hwant⟩ := h.operands hst ho hanc
  unfold wpOpIn
  simp only [ho]
  rw [hwant]
  -- where no block is spoken for by it
  have none' : (makes o = false ∨ aWanted ops.toList s o = false) → ∀ p ∈ pend, p ∈ pend ∧ p.1 ≠ i := by
    intro hc p hp
    refine ⟨hp, fun e => ?_⟩
    obtain ⟨q1, q2⟩ := (h.pb p hp).2.2 o (by rw [e]; exact ho)
    rcases hc with hc | hc
    · rw [hc] at q1; cases q1
    · rw [hc] at q2; cases q2
  have nodef : ∀ nx h', aopX E o s.eval s.heap = some (.value nx, h') → ∀ c, o.op ≠ .defer c := by
    intro nx h' hx c hc
    unfold aopX at hx
    simp only [hc] at hx
    unfold aopF aop at hx
    simp only [hc] at hx
    split at hx <;> (try split at hx) <;> cases hx
  rcases hcase with ⟨c1, c2⟩ | ⟨c1, c2, c3⟩ | ⟨c1, c2, c, ob, c3, c4⟩
  · rw [c1, if_neg (by simp)]
    refine ⟨fun _ _ => trivial, ?_⟩
    exact hnext _ m _ w (h.done ho hD hd hdn hanc (.refl ..) h.heap (by rw [c2]; exact vrel_undef) (none' (.inr c1)) (fun p hp _ => hp) h.pn)
  · rw [c1, if_pos rfl]
    refine ⟨fun f _ => trivial, ?_⟩
    have hx := aflt_op c3
    rw [Oper.semAt_eq _ _ _ (nodef _ _ hx)]
    obtain ⟨m', nx', w', r1, r2, r3, r4, r5⟩ := aopX_run' hE h.heap hops hx
    rw [r1]
    cases nx' <;> try (exact r4.elim)
    rw [Oper.uponIn_value]
    exact hnext _ m' _ w' (h.done ho hD hd hdn hanc (by rw [← h.floor]; exact r2) r3 r4 (none' (.inl c2)) (fun p hp _ => hp) h.pn)
  · rw [c1, if_pos rfl]
    refine ⟨fun f _ => trivial, ?_⟩
    have hu := h.pu _ c3
    have hr := h.heap.release h.pn c3 hu
    simp only at hr
    have hfr : (without s.heap c).fresh = c := rfl
    have hgn : (without s.heap c).get c = none := by rw [without_get, if_pos rfl]
    have hx := c4 (without s.heap c) hfr hgn
    have hnd : ∀ c', o.op ≠ .defer c' := by
      intro c' hc'
      unfold makes at c2
      simp [hc'] at c2
    rw [Oper.semAt_eq _ _ _ hnd]
    obtain ⟨m', nx', w', r1, r2, r3, r4, r5⟩ := aopX_run' hE hr hops hx
    rw [r1]
    cases nx' <;> try (exact r4.elim)
    rw [Oper.uponIn_value]
    have hob := (h.heap.res _ _ (unP_some h.pn c3)).1
    simp only at hob
    have hh : HRel (unP U0 (rmP c pend)) m' s.heap w' := by
      refine HRel.same r3 (fun x => ?_) rfl
      rw [aPush_get, hfr, without_get]
      by_cases hxc : x = c
      · subst hxc; rw [if_pos rfl, hob]
      · rw [if_neg hxc, if_neg hxc]
    have hfl : (without s.heap c).floor = fl := h.floor
    refine hnext (rmP c pend) m' _ w' (h.done ho hD hd hdn hanc (by rw [← hfl]; exact r2) hh r4 ?_ ?_ (apartP_rm h.pn))
    · intro p hp
      obtain ⟨p1, p2⟩ := rmP_mem.1 hp
      refine ⟨p1, fun e => p2 ?_⟩
      rw [apartP_idx h.pn p1 c3 e]
    · intro p hp hpi
      refine rmP_mem.2 ⟨hp, fun e => hpi ?_⟩
      rw [apartP_one h.pn hp c3 e]

theorem chk_good (hA : OrcOK E.P good A) : ∀ {r : List Stp} {s : St}, good (evPlan E A ops r s K) → good (evPlan E A ops (dropChk r) s K) ∧
    ∀ i o, (chkMask r).testBit i = true → ops[i]? = some o → ∀ d, o.dst = some d → aWanted ops.toList s o = true → aflt E o s.eval s.heap = some (s.get d)
  | [], s, h => ⟨h, fun i o hm => by simp [chkMask] at hm⟩
  | .run i :: r, s, h => ⟨h, fun i o hm => by simp [chkMask] at hm⟩
  | .bar i :: r, s, h => ⟨h, fun i o hm => by simp [chkMask] at hm⟩
  | .chk i :: r, s, h => by
    simp only [evPlan] at h
    cases ho : ops[i]? with
    | none => simp only [ho] at h; exact absurd h hA.bad
    | some o =>
    simp only [ho] at h
    cases hd : o.dst with
    | none => simp only [hd] at h; exact absurd h hA.bad
    | some d =>
    simp only [hd] at h
    cases hw : aWanted ops.toList s o with
    | false =>
      simp only [hw] at h
      obtain ⟨h1, h2⟩ := chk_good hA h
      refine ⟨h1, fun x ox hm hox dx hdx hwx => ?_⟩
      simp only [chkMask] at hm
      rw [testBit_lor, testBit_bt, Bool.or_eq_true] at hm
      rcases hm with hm | hm
      · have : i = x := by simpa using hm
        subst this
        rw [ho] at hox; cases hox
        rw [hw] at hwx; cases hwx
      · exact h2 x ox hm hox dx hdx hwx
    | true =>
      simp only [hw] at h
      cases hf : aflt E o s.eval s.heap with
      | none => simp only [hf] at h; exact absurd h hA.bad
      | some v =>
      simp only [hf] at h
      obtain ⟨e, h'⟩ := hA.same _ _ _ h
      obtain ⟨h1, h2⟩ := chk_good hA h'
      refine ⟨h1, fun x ox hm hox dx hdx hwx => ?_⟩
      simp only [chkMask] at hm
      rw [testBit_lor, testBit_bt, Bool.or_eq_true] at hm
      rcases hm with hm | hm
      · have : i = x := by simpa using hm
        subst this
        rw [ho] at hox; cases hox
        rw [hd] at hdx; cases hdx
        rw [hf, e]
      · exact h2 x ox hm hox dx hdx hwx

/-- A step of the run at the operation at which the plan waits. -/
theorem PInv.stepBar (hE : EnvOK E) (hA : OrcOK E.P good A) (hst : ∀ i o, ops[i]? = some o → Stat ops T i o) {i : Nat} {o : Oper} {r : List Stp} (h : PInv E A good K ops T U0 fl rd m0 w0 D S (.bar i :: r) pend s m a w) {ro : Option Nat} {Q : Exit → Act → World → Prop} {next : Act → World → Prop}
    (ho : ops[i]? = some o) (hanc : ∀ j, (T.getD i 0).testBit j = true → S.testBit j = true)
    (hnext : ∀ s' m' a' w', PInv E A good K ops T U0 fl rd m0 w0 (Nat.lor D (bt i)) (Nat.lor S (bt i)) (dropChk r) pend s' m' a' w' → next a' w') : wpOpIn (Fr ro) 0 E.P ops Q i next a w := by
  obtain ⟨n, hok⟩ := h.ok
  cases n with
  | zero => simp [planF] at hok
  | succ n =>
  simp only [planF] at hok
  have hgood := h.good
  simp only [evPlan, ho] at hgood
  have hol : ops.toList[i]? = some o := by simpa using ho
  simp only [hol] at hok
  cases hDi : D.testBit i <;> simp only [hDi] at hok <;> try (cases hok; done)
  cases hsub : subm (depE o.after.toList) D <;> simp only [hsub] at hok <;> try (cases hok; done)
  cases hcm : complete' D i ops.toList 0 <;> simp only [hcm] at hok <;> try (cases hok; done)
  cases has : asked E D (T.getD i 0) (chkMask r) ops.toList 0 <;> simp only [has] at hok <;> try (cases hok; done)
  have hdep := subm_spec.1 hsub
  have hst' := hst i o ho
  have hSi : S.testBit i = false := by
    cases hs : S.testBit i with
    | false => rfl
    | true => have := h.sub i hs; rw [hDi] at this; cases this
  obtain ⟨hops, hwant⟩ := h.operands hst ho hanc
  have hlt : i < ops.size := (Array.getElem?_eq_some_iff.1 ho).1
  have fin : ∀ (m' : Mp) (v v' : Value) (h' : AH) (w' : World), Ext m w fl m' w' → HRel (unP U0 pend) m' h' w' → VRel m' v v' → h'.floor = fl → (∀ t, o.dst = some t → t < s.n) → good (evPlan E A ops r (putS (s.on h') o.dst v) K) → next (a.put o.dst v') w' := by
    intro m' v v' h' w' hx hh hv hf hdn hg
    obtain ⟨hg1, hg2⟩ := chk_good hA hg
    have hother : ∀ x ox, D.testBit x = true → S.testBit x = false → ops[x]? = some ox → (∀ t ∈ opTmps ox.op.operands.toList, (putS (s.on h') o.dst v).get t = s.get t) ∧ (∀ t ∈ gdTmp ops.toList ox, (putS (s.on h') o.dst v).get t = s.get t) ∧
        (∀ d, ox.dst = some d → (putS (s.on h') o.dst v).get d = s.get d) := by
      intro x ox hx hSx hox
      cases hd : o.dst with
      | none => exact ⟨fun t _ => on_get .., fun t _ => on_get .., fun t _ => on_get ..⟩
      | some d =>
        have hu := unseen hst h.dclosed hx hox hDi ho hd (.inl (by
          cases ht : (T.getD i 0).testBit x with
          | false => rfl
          | true => have := hanc x ht; rw [hSx] at this; cases this))
        refine ⟨fun t ht => ?_, fun t ht => ?_, fun t ht => ?_⟩
        · rw [putS_get, if_neg (fun e => hu.1 (by cases e; exact ht)), on_get]
        · rw [putS_get, if_neg (fun e => hu.2.1 (by cases e; exact ht)), on_get]
        · rw [putS_get, if_neg (fun e => hu.2.2 (by cases e; exact ht)), on_get]
    refine hnext (putS (s.on h') o.dst v) m' _ w' ⟨⟨n, hok⟩, ?_, ?_, ?_, ?_, ?_, ?_, ?_, ?_, ?_, ?_, h.pu, h.pn, h.ext.trans hx, ?_, ?_, hg1, ?_, wf_add h.wf ho hdep⟩
    · intro j hj
      rw [bit_add, Bool.or_eq_true] at hj
      rcases hj with hj | hj
      · exact h.din j hj
      · have : i = j := by simpa using hj
        omega
    · intro x j hx hj
      rw [bit_add, Bool.or_eq_true] at hx ⊢
      rcases hx with hx | hx
      · exact .inl (h.dclosed x j hx hj)
      · have : i = x := by simpa using hx
        subst this
        exact .inl (h.sub j (hanc j hj))
    · intro x j hx hj
      rw [bit_add, Bool.or_eq_true] at hx ⊢
      rcases hx with hx | hx
      · exact .inl (h.sclosed x j hx hj)
      · have : i = x := by simpa using hx
        subst this
        exact .inl (hanc j hj)
    · intro x hx
      rw [bit_add, Bool.or_eq_true] at hx ⊢
      rcases hx with hx | hx
      · exact .inl (h.sub x hx)
      · exact .inr hx
    · rw [put_size, putS_n, on_n]; exact h.size
    · intro t ht
      rw [put_getD, putS_get]
      by_cases hdt : o.dst = some t
      · rw [if_pos hdt, if_pos ⟨hdt, by rw [h.size]; exact hdn t hdt⟩]
        exact hv
      · rw [if_neg hdt, if_neg (fun e => hdt e.1), on_get]
        refine (h.tmp t fun x ox hx hSx hox => ht x ox (by rw [bit_add, hx]; rfl) ?_ hox).mono hx.le
        rw [bit_add, hSx]
        have : i ≠ x := fun e => by subst e; rw [hDi] at hx; cases hx
        simpa using this
    · rw [put_defers, putS_defers, on_defers]; exact h.defers.mono hx.le
    · rw [putS_heap, on_heap]; exact hh
    · intro x ox hx hSx hox
      rw [bit_add, Bool.or_eq_false_iff] at hSx
      obtain ⟨hSx, hix⟩ := hSx
      have hix : i ≠ x := by simpa using hix
      have hx' : D.testBit x = true := by
        rw [bit_add, Bool.or_eq_true] at hx
        rcases hx with hx | hx
        · exact hx
        · exact absurd (by simpa using hx) hix
      obtain ⟨k1, k2, k3⟩ := hother x ox hx' hSx hox
      refine (h.pd x ox hx' hSx hox).keep k1 k2 k3 (by rw [putS_n, on_n]) ?_ (fun c ob hm => hm)
      intro d hd hmk hw he
      have e1 : ∀ y ∈ ox.op.operands, (putS (s.on h') o.dst v).eval y = s.eval y := fun y hy => eval_same k1 y (by simpa using hy)
      cases hrd : reads E ox with
      | false => exact aflt_pure hrd he
      | true =>
        have hTx : (T.getD i 0).testBit x = false := by
          cases ht : (T.getD i 0).testBit x with
          | false => rfl
          | true => have := hanc x ht; rw [hSx] at this; cases this
        have hC := asked_spec (i := 0) (k := x) has (show ops.toList[x]? = some ox by simpa using hox) (by rw [Nat.zero_add]; exact hx') (by rw [Nat.zero_add]; exact hTx) hrd hmk
        rw [Nat.zero_add] at hC
        have := hg2 x ox hC hox d hd (by rw [aWanted_same k2]; exact hw)
        rw [aflt_congr e1, k3 d hd] at this
        exact this
    · intro p hp
      obtain ⟨q1, q2, q3⟩ := h.pb p hp
      refine ⟨by rw [bit_add, q1]; rfl, ?_, fun ox hox => ⟨(q3 ox hox).1, ?_⟩⟩
      · rw [bit_add, q2]
        have : i ≠ p.1 := fun e => by rw [← e, hDi] at q1; cases q1
        simpa using this
      · rw [← (q3 ox hox).2]
        exact aWanted_same (hother p.1 ox q1 q2 hox).2.1
    · rw [putS_heap, on_heap]; exact hf
    · rw [putS_round, on_round]; exact h.round
    · intro x ox dx hx hSx hox hdx
      rw [bit_add, Bool.or_eq_false_iff] at hSx
      have hx' : D.testBit x = true := by
        rw [bit_add, Bool.or_eq_true] at hx
        rcases hx with hx | hx
        · exact hx
        · rw [hx] at hSx; exact absurd hSx.2 (by simp)
      exact h.pf x ox dx hx' hSx.1 hox hdx
  have hons : s.on s.heap = s := by cases s; rfl
  unfold wpOpIn
  simp only [ho]
  rw [hwant]
  cases hw : aWanted ops.toList s o with
  | false =>
    simp only [hw] at hgood
    obtain ⟨g1, g2⟩ := St.put_good hA.bad hgood
    rw [← hons] at g2
    rw [if_neg (by simp)]
    exact ⟨fun _ _ => trivial, fin m undef undef s.heap w (.refl ..) h.heap vrel_undef h.floor g1 g2⟩
  | true =>
    simp only [hw] at hgood
    rw [if_pos rfl]
    refine evV_ok hE hA hgood h.heap hops ?_
    intro m' v v' h' w' r1 r2 r3 r4 r5
    obtain ⟨g1, g2⟩ := St.put_good hA.bad r5
    exact fin m' v v' h' w' (by rw [← h.floor]; exact r1) r2 r3 (r4.trans h.floor) (fun t e => by have := g1 t e; rwa [on_n] at this) g2

/-- How many are not yet done. -/
def undone (n S : Nat) : Nat := ((List.range n).filter fun i => !S.testBit i).length

theorem filter_lt {p q : Nat → Bool} (hpq : ∀ j, q j = true → p j = true) : ∀ {l : List Nat} {i : Nat}, i ∈ l → p i = true → q i = false → (l.filter q).length < (l.filter p).length := by
  have hle : ∀ l : List Nat, (l.filter q).length ≤ (l.filter p).length := by
    intro l
    induction l with
    | nil => simp
    | cons y l ih =>
      simp only [List.filter_cons]
      cases hq : q y
      · cases hp : p y
        · simpa using ih
        · simp; omega
      · rw [hpq y hq]; simpa using ih
  intro l
  induction l with
  | nil => intro i h; simp at h
  | cons y l ih =>
    intro i hm hp hq
    simp only [List.filter_cons]
    rcases List.mem_cons.1 hm with rfl | hm
    · rw [hp, hq]
      have := hle l
      simp; omega
    · have := ih hm hp hq
      cases hqy : q y
      · cases hpy : p y
        · simpa using this
        · simp; omega
      · rw [hpq y hqy]; simpa using this

theorem undone_lt {n S i : Nat} (hi : i < n) (hS : S.testBit i = false) : undone n (Nat.lor S (bt i)) < undone n S := by
  unfold undone
  refine filter_lt (i := i) ?_ (by simpa using hi) (by simp [hS]) (by simp only [bit_add]; simp)
  intro j hj
  simp only [bit_add, Bool.not_eq_true', Bool.or_eq_false_iff] at hj
  simp [hj.1]

theorem undone_zero {n S i : Nat} (h : undone n S = 0) (hi : i < n) : S.testBit i = true := by
  unfold undone at h
  have h0 := List.eq_nil_of_length_eq_zero h
  cases hS : S.testBit i with
  | true => rfl
  | false =>
    have : i ∈ (List.range n).filter fun i => !S.testBit i := by simp [hi, hS]
    rw [h0] at this; simp at this

/-- All is done. -/
theorem PInv.last {Q : Exit → Act → World → Prop} (hfin : ∀ m' s' a' w', Ext m0 w0 fl m' w' → SRel U0 m' s' a' w' → s'.heap.floor = fl → s'.round = rd → good (K s') → Q .normal a' w') (hn : normal rest)
    (h : PInv E A good K ops T U0 fl rd m0 w0 D S rest pend s m a w) (hall : ∀ i, i < ops.size → S.testBit i = true) : Q .normal a w := by
  obtain ⟨n, hok⟩ := h.ok
  have hpend : pend = [] := by
    cases pend with
    | nil => rfl
    | cons p ps =>
      obtain ⟨h1, h2, _⟩ := h.pb p (by simp)
      rw [hall _ (h.din _ h1)] at h2
      cases h2
  subst hpend
  cases n with
  | zero => simp [planF] at hok
  | succ n =>
  cases rest with
  | nil =>
    have hg := h.good
    simp only [evPlan] at hg
    refine hfin m s a w h.ext ⟨h.size, fun t => h.tmp t fun i o hD hS _ => ?_, h.defers, h.heap⟩ h.floor h.round hg
    rw [hall i (h.din i hD)] at hS; cases hS
  | cons x r =>
    cases x with
    | run i => exact hn.elim
    | chk i => simp [planF] at hok
    | bar i =>
      simp only [planF] at hok
      cases ho : ops.toList[i]? with
      | none => simp [ho] at hok
      | some o =>
        simp only [ho] at hok
        have hlt : i < ops.size := by
          have := (List.getElem?_eq_some_iff.1 ho).1
          simpa using this
        rw [h.sub i (hall i hlt)] at hok
        cases hok

theorem testBit_full (n i : Nat) : (Nat.sub (bt n) 1).testBit i = decide (i < n) := by
  show ((bt n) - 1).testBit i = _
  unfold bt
  show ((1 <<< n) - 1).testBit i = _
  rw [Nat.one_shiftLeft]
  exact Nat.testBit_two_pow_sub_one ..

/-- The run, in whatever order. -/
theorem PInv.any (hE : EnvOK E) (hA : OrcOK E.P good A) (hst : ∀ i o, ops[i]? = some o → Stat ops T i o) {ro : Option Nat} {Q : Exit → Act → World → Prop}
    (hfin : ∀ m' s' a' w', Ext m0 w0 fl m' w' → SRel U0 m' s' a' w' → s'.heap.floor = fl → s'.round = rd → good (K s') → Q .normal a' w') :
    ∀ (fuel : Nat) (listed : Array Bool) (D S : Nat) (rest : List Stp) (pend : Pd) (s : St) (m : Mp) (a : Act) (w : World), listed.size = ops.size → (∀ i, i < ops.size → listed.getD i false = S.testBit i) → undone ops.size S ≤ fuel →
      PInv E A good K ops T U0 fl rd m0 w0 D S rest pend s m a w → wpAnyIn (Fr ro) 0 E.P .any ops Q fuel listed a w := by
  have hready : ∀ (listed : Array Bool) (S : Nat), listed.size = ops.size → (∀ i, i < ops.size → listed.getD i false = S.testBit i) → ∀ i, i ∈ Region.ready .any ops listed ↔
      ∃ o, ops[i]? = some o ∧ S.testBit i = false ∧ ∀ e ∈ o.after.toList, Region.binds .any e = true → e.on < ops.size ∧ S.testBit e.on = true := by
    intro listed S hls hl i
    unfold Region.ready
    rw [List.mem_filter, List.mem_range, Bool.and_eq_true]
    constructor
    · rintro ⟨h1, h2, h3⟩
      have ho : ops[i]? = some ops[i] := by simp [h1]
      refine ⟨ops[i], ho, ?_, ?_⟩
      · rw [← hl i h1]
        have : i < listed.size := by omega
        simp [Array.getD, this] at h2 ⊢
        exact h2
      · rw [ho] at h3
        simp only [Option.map_some, Option.getD_some, Array.all_eq_true'] at h3
        intro e he hb
        have := h3 e (by simpa using he)
        rw [hb] at this
        have h4 : listed.getD e.on false = true := by simpa using this
        have h5 : e.on < ops.size := by
          rcases Nat.lt_or_ge e.on ops.size with hlt | hge
          · exact hlt
          · rw [Array.getD_eq_getD_getElem?, Array.getElem?_eq_none (by omega)] at h4
            cases h4
        exact ⟨h5, by rw [← hl _ h5]; exact h4⟩
    · rintro ⟨o, ho, h2, h3⟩
      have h1 := (Array.getElem?_eq_some_iff.1 ho).1
      refine ⟨h1, ?_, ?_⟩
      · rw [← hl i h1] at h2
        have : i < listed.size := by omega
        simp [Array.getD, this] at h2 ⊢
        exact h2
      · rw [ho]
        simp only [Option.map_some, Option.getD_some, Array.all_eq_true']
        intro e he
        cases hb : Region.binds .any e with
        | false => rfl
        | true =>
          obtain ⟨h5, h6⟩ := h3 e (by simpa using he) hb
          rw [hl _ h5, h6]; rfl
  intro fuel
  induction fuel with
  | zero =>
    intro listed D S rest pend s m a w hls hl hu h0
    obtain ⟨D, rest, pend, s, hn, h⟩ := h0.norm hA hst
    have hall : ∀ i, i < ops.size → S.testBit i = true := fun i hi => undone_zero (Nat.le_zero.1 hu) hi
    refine ⟨?_, PInv.last (Q := Q) hfin hn h hall⟩
    apply List.eq_nil_iff_forall_not_mem.2
    intro i hi
    obtain ⟨o, h1, h2, _⟩ := (hready listed S hls hl i).1 hi
    rw [hall i (Array.getElem?_eq_some_iff.1 h1).1] at h2
    cases h2
  | succ fuel ih =>
    intro listed D S rest pend s m a w hls hl hu h0
    obtain ⟨D, rest, pend, s, hn, h⟩ := h0.norm hA hst
    refine ⟨fun hr => ?_, fun i hi => ?_⟩
    · -- nothing may come: all is done
      have hno : ∀ i o, ops[i]? = some o → (∀ k, (depE o.after.toList).testBit k = true → S.testBit k = true) → S.testBit i = true := by
        intro i o ho hd
        cases hS : S.testBit i with
        | true => rfl
        | false =>
          have : i ∈ Region.ready .any ops listed := by
            refine (hready listed S hls hl i).2 ⟨o, ho, hS, fun e he hb => ?_⟩
            have := hd e.on (depE_spec.2 ⟨e, he, hb, rfl⟩)
            exact ⟨h.din _ (h.sub _ this), this⟩
          rw [hr] at this; cases this
      have hDS : ∀ i, D.testBit i = true → S.testBit i = true := by
        intro i hi
        cases hS : S.testBit i with
        | true => rfl
        | false =>
          obtain ⟨x, ox, h1, h2, h3, h4⟩ := h.wf (fun j => S.testBit j) ⟨i, hi, hS⟩
          have := hno x ox h3 h4
          rw [this] at h2; cases h2
      have hfull : ∀ i, i < ops.size → D.testBit i = true := by
        obtain ⟨n, hok⟩ := h.ok
        cases n with
        | zero => simp [planF] at hok
        | succ n =>
        cases rest with
        | nil =>
          simp only [planF] at hok
          intro i hi
          rw [Nat.eq_of_beq_eq_true hok, testBit_full]
          simpa using hi
        | cons x r =>
          cases x with
          | run i => exact hn.elim
          | chk i => simp [planF] at hok
          | bar b =>
            exfalso
            simp only [planF] at hok
            cases ho : ops.toList[b]? with
            | none => simp [ho] at hok
            | some o =>
              simp only [ho] at hok
              cases hDb : D.testBit b <;> simp only [hDb] at hok <;> try (cases hok; done)
              cases hsub : subm (depE o.after.toList) D <;> simp only [hsub] at hok <;> try (cases hok; done)
              have := hno b o (by simpa using ho) fun k hk => hDS k (subm_spec.1 hsub k hk)
              rw [h.sub b this] at hDb; cases hDb
      exact PInv.last (Q := Q) hfin hn h fun i hi => hDS i (hfull i hi)
    · obtain ⟨o, ho, hS, hdeps⟩ := (hready listed S hls hl i).1 hi
      have hlt := (Array.getElem?_eq_some_iff.1 ho).1
      have hdep : ∀ k, (depE o.after.toList).testBit k = true → S.testBit k = true := by
        intro k hk
        obtain ⟨e, e1, e2, e3⟩ := depE_spec.1 hk
        rw [← e3]; exact (hdeps e e1 e2).2
      have hanc : ∀ j, (T.getD i 0).testBit j = true → S.testBit j = true := by
        intro j hj
        obtain ⟨k, h1, h2⟩ := (hst i o ho).up j hj
        rcases h2 with rfl | h2
        · exact hdep _ h1
        · exact h.sclosed k j (hdep k h1) h2
      have hls' : (listed.setIfInBounds i true).size = ops.size := by simpa using hls
      have hl' : ∀ j, j < ops.size → (listed.setIfInBounds i true).getD j false = (Nat.lor S (bt i)).testBit j := by
        intro j hj
        rw [bit_add, Array.getD_eq_getD_getElem?, Array.getElem?_setIfInBounds]
        by_cases hij : i = j
        · subst hij
          have : i < listed.size := by omega
          simp [this]
        · have := hl j hj
          rw [Array.getD_eq_getD_getElem?] at this
          simp [hij, this]
      have hu' : undone ops.size (Nat.lor S (bt i)) ≤ fuel := by
        have := undone_lt hlt hS; omega
      cases hD : D.testBit i with
      | true =>
        refine h.stepPend hE hst ho hD hS hanc ?_
        intro pend' m' a' w' h'
        exact ih _ _ _ _ _ _ _ _ _ hls' hl' hu' h'
      | false =>
        obtain ⟨n, hok⟩ := h.ok
        cases n with
        | zero => simp [planF] at hok
        | succ n =>
        cases rest with
        | nil =>
          simp only [planF] at hok
          rw [Nat.eq_of_beq_eq_true hok, testBit_full] at hD
          simp at hD; omega
        | cons x r =>
          cases x with
          | run j => exact hn.elim
          | chk j => simp [planF] at hok
          | bar b =>
            have hib : i = b := by
              by_cases hib : i = b
              · exact hib
              · exfalso
                simp only [planF] at hok
                cases hob : ops.toList[b]? with
                | none => simp [hob] at hok
                | some ob =>
                  simp only [hob] at hok
                  cases hDb : D.testBit b <;> simp only [hDb] at hok <;> try (cases hok; done)
                  cases hsub : subm (depE ob.after.toList) D <;> simp only [hsub] at hok <;> try (cases hok; done)
                  cases hcm : complete' D b ops.toList 0 <;> simp only [hcm] at hok <;> try (cases hok; done)
                  have := complete_spec (j := 0) (k := i) hcm (show ops.toList[i]? = some o by simpa using ho) (by rw [Nat.zero_add]; exact hD) (by rw [Nat.zero_add]; exact hib)
                  rw [subm_spec.2 fun k hk => h.sub k (hdep k hk)] at this
                  cases this
            subst hib
            refine h.stepBar hE hA hst ho hanc ?_
            intro s' m' a' w' h'
            exact ih _ _ _ _ _ _ _ _ _ hls' hl' hu' h'

/-- A region whose order is drawn, by a plan. -/
theorem Wc.draw (hE : EnvOK E) (hA : OrcOK E.P good A) (hm : E.P.follows .mixedOrders = true) {id : Nat} {s : St} (p : List Stp) (hp : planOk E ops.toList T p = true) (hg : good (evPlan E A ops p s K)) :
    Wc E.P (.region id ops true) s (andThen (fun s' => good (K s')) fun _ _ => False) := by
  intro U m a w ro hs hr
  unfold planOk at hp
  cases hop : opsOk ops.toList T ops.toList 0 with
  | false => simp [hop] at hp
  | true =>
  simp only [hop] at hp
  have hst : ∀ i o, ops[i]? = some o → Stat ops T i o := by
    intro i o ho
    have := opsOk_spec hop (show ops.toList[i]? = some o by simpa using ho)
    rwa [Nat.zero_add] at this
  have hx0 : Ext m w s.heap.floor m { w with drawn := w.drawn + 1 } := Ext.same rfl
  have hh0 : HRel U m s.heap { w with drawn := w.drawn + 1 } := HRel.same hs.heap (fun _ => rfl) rfl
  refine wpIn_region_any hm ?_
  have h0 : PInv E A good K ops T U s.heap.floor s.round m w 0 0 p [] s m a { w with drawn := w.drawn + 1 } := by
    refine ⟨⟨_, hp⟩, ?_, ?_, ?_, ?_, hs.size, fun t _ => hs.tmp t, hs.defers, hh0, ?_, ?_, ?_, trivial, hx0, rfl, rfl, hg, ?_, ?_⟩
    · intro i hi; simp at hi
    · intro i j hi; simp at hi
    · intro i j hi; simp at hi
    · intro i hi; exact hi
    · intro i o hi; simp at hi
    · intro q hq; cases hq
    · intro q hq; cases hq
    · intro x ox d hx; simp at hx
    · rintro X ⟨i, hi, _⟩; simp at hi
  refine PInv.any hE hA hst (fun m' s' a' w' e1 e2 e3 e4 e5 => ⟨m', s', ⟨e1, e2, e3, e4⟩, e5⟩) ops.size (Array.replicate ops.size false) 0 0 p [] s m a _ (by simp) ?_ ?_ h0
  · intro i hi
    simp [Array.getD, hi]
  · unfold undone
    exact Nat.le_trans (List.length_filter_le ..) (by simp)
end
end
end Go.AE
