import Derived.Test.YtikdloadbjmeiaaGreatS3
/- An evaluator over an abstract heap: what it is that a piece of code comes to, over whatever memory for which a state stands; the rules. -/
namespace Go.AE
open Go
noncomputable section
variable {U : Un}

/-- One state, with its memory, behind another. -/
structure Rch (U : Un) (m : Mp) (s : St) (w : World) (m' : Mp) (s' : St) (a' : Act) (w' : World) : Prop where
  ext : Ext m w s.heap.floor m' w'
  rel : SRel U m' s' a' w'
  floor : s'.heap.floor = s.heap.floor
  round : s'.round = s.round

theorem Rch.refl {m : Mp} {s : St} {a : Act} {w : World} (hs : SRel U m s a w) : Rch U m s w m s a w := ⟨.refl .., hs, rfl, rfl⟩

theorem Rch.trans {m m1 m2 : Mp} {s s1 s2 : St} {a1 a2 : Act} {w w1 w2 : World} (h : Rch U m s w m1 s1 a1 w1) (h' : Rch U m1 s1 w1 m2 s2 a2 w2) : Rch U m s w m2 s2 a2 w2 :=
  ⟨h.ext.trans (by have := h'.ext; rwa [h.floor] at this), h'.rel, h'.floor.trans h.floor, h'.round.trans h.round⟩

def Pst (U : Un) (m : Mp) (s : St) (w : World) (K : Exit → St → Prop) (e : Exit) (a' : Act) (w' : World) : Prop := ∃ m' s', Rch U m s w m' s' a' w' ∧ K e s'

theorem Pst.trans {m m1 : Mp} {s s1 : St} {a1 : Act} {w w1 : World} {K : Exit → St → Prop} (h : Rch U m s w m1 s1 a1 w1) {e : Exit} {a2 : Act} {w2 : World} (h' : Pst U m1 s1 w1 K e a2 w2) : Pst U m s w K e a2 w2 := by
  obtain ⟨m', s', r, k⟩ := h'
  exact ⟨m', s', h.trans r, k⟩

theorem Pst.mono {m : Mp} {s : St} {w : World} {K K' : Exit → St → Prop} (hk : ∀ e s', K e s' → K' e s') {e : Exit} {a' : Act} {w' : World} (h : Pst U m s w K e a' w') : Pst U m s w K' e a' w' := by
  obtain ⟨m', s', r, k⟩ := h
  exact ⟨m', s', r, hk _ _ k⟩

/-- What a piece of code comes to; of a loop: from the state behind its first step. -/
def Wc (P : Program) (c : Code) (s : St) (K : Exit → St → Prop) : Prop :=
  ∀ (U : Un) (m : Mp) (a : Act) (w : World) (ro : Option Nat), SRel U m s a w → RoRel m s.round ro → WP ro P c (Pst U m s w K) a w

theorem loopIn_mono {F : Fence} {n : Nat} {P : Program} {c : Code} {Q Q' : Exit → Act → World → Prop} {a : Act} {w : World} (h : LoopIn F n P c Q a w) (hq : ∀ e a w, Q e a w → Q' e a w) : LoopIn F n P c Q' a w :=
  fun b k cs h1 h2 h3 => let ⟨e, a', w', q, r⟩ := h b k cs h1 h2 h3; ⟨e, a', w', hq _ _ _ q, r⟩

theorem WP.mono {ro : Option Nat} {P : Program} {c : Code} {Q Q' : Exit → Act → World → Prop} {a : Act} {w : World} (h : WP ro P c Q a w) (hq : ∀ e a w, Q e a w → Q' e a w) : WP ro P c Q' a w := by
  cases c <;> first | exact wpIn_mono h hq | exact loopIn_mono h hq

section
variable {P : Program} {s : St} {K K' : Exit → St → Prop}

theorem Wc.mono {c : Code} (h : Wc P c s K) (hk : ∀ e s', K e s' → K' e s') : Wc P c s K' :=
  fun U m a w ro hs hr => (h U m a w ro hs hr).mono fun _ _ _ p => p.mono hk

theorem Wc.skip (h : K .normal s) : Wc P .skip s K := fun _ m _ _ _ hs _ => wpIn_skip ⟨m, s, .refl hs, h⟩
theorem Wc.label {l : Nat} (h : K .normal s) : Wc P (.label l) s K := fun _ m _ _ _ hs _ => wpIn_label ⟨m, s, .refl hs, h⟩
theorem Wc.exit {id : Nat} (h : K (.exit id) s) : Wc P (.exit id) s K := fun _ m _ _ _ hs _ => wpIn_exit ⟨m, s, .refl hs, h⟩
theorem Wc.ret (h : K .ret s) : Wc P .ret s K := fun _ m _ _ _ hs _ => wpIn_ret ⟨m, s, .refl hs, h⟩

/-- Behind a first part. -/
def andThen (J : St → Prop) (K : Exit → St → Prop) : Exit → St → Prop
  | .normal, s => J s
  | e, s => K e s

theorem Wc.seq {x y : Code} (h : Wc P x s (andThen (fun s' => Wc P y s' K) K)) : Wc P (.seq x y) s K := by
  intro U m a w ro hs hr
  refine wpIn_seq (wpIn_mono (h U m a w ro hs hr).wpIn ?_)
  rintro e a1 w1 ⟨m1, s1, r, hk⟩
  cases e with
  | normal => exact wpIn_mono (hk U m1 a1 w1 ro r.rel (by rw [r.round]; exact hr.mono r.ext.le)).wpIn fun _ _ _ q => q.trans r
  | _ => exact ⟨m1, s1, r, hk⟩

theorem Wc.cond {c : Operand} {x y : Code} (t : Bool) (hok : okOperand c = true) (hc : s.eval c = .bool t) (h : Wc P (match t with | true => x | false => y) s K) : Wc P (.cond c x y) s K := by
  intro U m a w ro hs hr
  have e1 := St.eval_ok hs hok
  rw [hc] at e1
  have e2 : a.eval c = .bool t := e1.plain rfl
  refine wpIn_cond e2 ?_
  cases t
  · simpa using (h U m a w ro hs hr).wpIn
  · simpa using (h U m a w ro hs hr).wpIn

def inBlk (id : Nat) (K : Exit → St → Prop) : Exit → St → Prop
  | .exit i, s => match Nat.beq i id with
    | true => K .normal s
    | false => K (.exit i) s
  | e, s => K e s

theorem Wc.block {id : Nat} {x : Code} (h : Wc P x s (inBlk id K)) : Wc P (.block id x) s K := by
  intro U m a w ro hs hr
  refine wpIn_block (wpIn_mono (h U m a w ro hs hr).wpIn ?_)
  rintro e a1 w1 ⟨m1, s1, r, hk⟩
  cases e with
  | exit i =>
    simp only [Exit.inBlock]
    by_cases hid : i = id
    · rw [if_pos hid]
      subst hid
      simp only [inBlk, Nat.beq_refl] at hk
      exact ⟨m1, s1, r, hk⟩
    · rw [if_neg hid]
      simp only [inBlk, beq_f hid] at hk
      exact ⟨m1, s1, r, hk⟩
  | _ => exact ⟨m1, s1, r, hk⟩

def noGo (K : Exit → St → Prop) : Exit → St → Prop
  | .goto _, _ => False
  | e, s => K e s

theorem Wc.scope {x : Code} (h : Wc P x s (noGo K)) : Wc P (.scope x) s K := by
  intro U m a w ro hs hr
  refine wpIn_scope (wpIn_mono (h U m a w ro hs hr).wpIn ?_)
  rintro e a1 w1 ⟨m1, s1, r, hk⟩
  cases e with
  | goto l => exact hk.elim
  | _ => exact ⟨m1, s1, r, hk⟩

/-- One round, and the loop again. -/
theorem Wc.unroll {x : Code} (h : Wc P x s (andThen (fun s' => Wc P (.loop x) s' K) K)) : Wc P (.loop x) s K := by
  intro U m a w ro hs hr
  refine loopIn_of (wpIn_mono (h U m a w ro hs hr).wpIn ?_)
  rintro e a1 w1 ⟨m1, s1, r, hk⟩
  cases e with
  | normal =>
    intro b k cs q1 q2 q3
    obtain ⟨e2, a2, w2, p1, p2⟩ := hk U m1 a1 w1 ro r.rel (by rw [r.round]; exact hr.mono r.ext.le) b k cs q1 q2 q3
    exact ⟨e2, a2, w2, p1.trans r, p2⟩
  | _ => exact ⟨m1, s1, r, hk⟩

/-- A loop by what holds at each round's head. -/
theorem Wc.loop {x : Code} (I : Nat → St → Prop) (n : Nat) (h0 : I n s) (hr : ∀ n s, I n s → Wc P x s (andThen (fun s' => ∃ k, k < n ∧ I k s') K)) : Wc P (.loop x) s K := by
  induction n using Nat.strongRecOn generalizing s with
  | _ n ih =>
    refine .unroll ((hr n s h0).mono ?_)
    intro e s' hk
    cases e with
    | normal =>
      obtain ⟨k, h1, h2⟩ := hk
      exact ih k h1 h2
    | _ => exact hk
end

/-! ### Regions in the order of the text -/
section
variable {ω : Type} (E : Env) (A : Orc ω)

def evO (o : Oper) (s : St) (K : St → ω) : ω := match o.op with
  | .defer _ => match s.round with
    | none => match aopX E o s.eval s.heap with
      | some (.defer d, h) => St.put { s with heap := h, defers := d :: s.defers } o.dst undef A.bad K
      | _ => A.bad
    | some _ => A.bad
  | _ => evV E A o s.eval s.heap fun v h => St.put (s.on h) o.dst v A.bad K

def evTxt (ops : List Oper) : List Oper → St → (St → ω) → ω
  | [], s, K => K s
  | o :: rest, s, K => match o.op.operands.toList.all okOperand with
    | true => match aWanted ops s o with
      | true => evO E A o s fun s' => evTxt ops rest s' K
      | false => St.put s o.dst undef A.bad fun s' => evTxt ops rest s' K
    | false => A.bad

variable {E A} {good : ω → Prop}

theorem DRel.mono {m m' : Mp} {d d' : Deferred} (h : DRel m d d') (hm : Mle m m') : DRel m' d d' := by
  obtain ⟨h1, h2⟩ := h
  refine ⟨?_, VsRel.mono h2 hm⟩
  unfold TRel at h1 ⊢
  split at h1
  · exact ⟨h1.1.mono hm, VsRel.mono h1.2 hm⟩
  · exact h1.mono hm
  · exact h1.elim

theorem DsRel.mono {m m' : Mp} : ∀ {ds ds' : List Deferred}, DsRel m ds ds' → Mle m m' → DsRel m' ds ds'
  | [], [], _, _ => trivial
  | [], _ :: _, h, _ => h.elim
  | _ :: _, [], h, _ => h.elim
  | _ :: _, _ :: _, ⟨h1, h2⟩, hm => ⟨h1.mono hm, DsRel.mono h2 hm⟩

theorem SRel.on {m m' : Mp} {s : St} {a : Act} {w w' : World} {h' : AH} (hs : SRel U m s a w) (hm : Mle m m') (hh : HRel U m' h' w') : SRel U m' (s.on h') a w' := by
  obtain ⟨t, n, h, ds, r⟩ := s
  exact ⟨hs.size, fun i => (hs.tmp i).mono hm, hs.defers.mono hm, hh⟩

theorem okAll {o : Oper} (h : o.op.operands.toList.all okOperand = true) : ∀ x ∈ o.op.operands, okOperand x = true := by
  intro x hx
  rw [List.all_eq_true] at h
  exact h x (by simpa using hx)

theorem operands_ok {m : Mp} {s : St} {a : Act} {w : World} {o : Oper} (hs : SRel U m s a w) (h : o.op.operands.toList.all okOperand = true) : ∀ x ∈ o.op.operands, VRel m (s.eval x) (a.eval x) :=
  fun x hx => St.eval_ok hs (okAll h x hx)

theorem put_ok' {bad : ω} (hbad : ¬ good bad) {m : Mp} {s : St} {a : Act} {w : World} {d : Option Tmp} {v v' : Value} {K : St → ω} (hs : SRel U m s a w) (hv : VRel m v v') (hg : good (St.put s d v bad K)) :
    ∃ s', SRel U m s' (a.put d v') w ∧ s'.heap = s.heap ∧ s'.round = s.round ∧ good (K s') :=
  put_ok (A := { bad := bad, both := fun _ => bad }) hbad hs hv hg

theorem evO_ok (hE : EnvOK E) (hA : OrcOK E.P good A) {o : Oper} {s : St} {K : St → ω} {m : Mp} {a : Act} {w : World} {ro : Option Nat} {next : Act → World → Prop} {Q : Exit → Act → World → Prop}
    (hg : good (evO E A o s K)) (hs : SRel U m s a w) (hro : RoRel m s.round ro) (hok : o.op.operands.toList.all okOperand = true)
    (hn : ∀ m' s' a' w', Rch U m s w m' s' a' w' → good (K s') → next a' w') : o.wpIn (Fr ro) 0 E.P a w next Q := by
  have hρ := operands_ok hs hok
  have key : good (evV E A o s.eval s.heap fun v h => St.put (s.on h) o.dst v A.bad K) → o.wpIn (Fr ro) 0 E.P a w next Q := by
    intro hg
    refine evV_ok hE hA hg hs.heap hρ ?_
    intro m' v v' h' w' r1 r2 r3 r4 r5
    obtain ⟨s', q1, q2, q3, q4⟩ := put_ok' hA.bad (hs.on r1.le r2) r3 r5
    obtain ⟨t, n, h, ds, r⟩ := s
    exact hn m' s' _ w' ⟨r1, q1, by rw [q2]; exact r4, q3⟩ q4
  unfold evO at hg
  cases ho : o.op <;> simp only [ho] at hg <;> try (exact key hg)
  case defer c =>
    cases hrd : s.round with
    | some l => simp only [hrd] at hg; exact absurd hg hA.bad
    | none =>
      simp only [hrd] at hg hro
      cases ro with
      | some l => exact hro.elim
      | none =>
        cases hx : aopX E o s.eval s.heap with
        | none => simp only [hx] at hg; exact absurd hg hA.bad
        | some q =>
          obtain ⟨nx, h1⟩ := q
          simp only [hx] at hg
          cases nx <;> simp only at hg <;> try (exact absurd hg hA.bad)
          rename_i d
          obtain ⟨m1, nx', w1, r1, r2, r3, r4, r5⟩ := aopX_run' hE hs.heap hρ hx
          cases nx' <;> try (exact r4.elim)
          rename_i d'
          refine ⟨fun f _ => trivial, ?_⟩
          have e1 : (o.semAt (Fr none).round a.eval) = execOp a.eval o := Oper.semAt_none ..
          rw [e1, r1, Oper.uponIn_defer]
          have hs1 : SRel U m1 ⟨s.tmps, s.n, h1, d :: s.defers, none⟩ { a with defers := d' :: a.defers } w1 := by
            refine ⟨hs.size, fun i => (hs.tmp i).mono r2.le, ⟨r4, hs.defers.mono r2.le⟩, r3⟩
          obtain ⟨s', q1, q2, q3, q4⟩ := put_ok' hA.bad hs1 (.tuple .nil) hg
          exact hn m1 s' _ w1 ⟨r2, q1, by rw [q2]; exact r5, by rw [q3, hrd]⟩ q4

theorem evTxt_ok (hE : EnvOK E) (hA : OrcOK E.P good A) {ops : Array Oper} {K : St → ω} {ro : Option Nat} {Q : Exit → Act → World → Prop} : ∀ (rest : List Oper) (i : Nat) (s : St) (m : Mp) (a : Act) (w : World),
    ops.toList.drop i = rest → good (evTxt E A ops.toList rest s K) → SRel U m s a w → RoRel m s.round ro →
    (∀ m' s' a' w', Rch U m s w m' s' a' w' → good (K s') → Q .normal a' w') → wpOpsIn (Fr ro) 0 E.P ops Q (List.range' i rest.length) a w := by
  intro rest
  induction rest with
  | nil =>
    intro i s m a w _ hg hs _ hn
    exact hn m s a w (.refl hs) hg
  | cons o rest ih =>
    intro i s m a w hd hg hs hro hn
    have hi : ops[i]? = some o := by
      have := congrArg (fun l => l[0]?) hd
      simpa [List.getElem?_drop] using this
    have hd' : ops.toList.drop (i + 1) = rest := by
      have := congrArg List.tail hd
      simpa using this
    have hcont : ∀ m' s' a' w', Rch U m s w m' s' a' w' → good (evTxt E A ops.toList rest s' K) → wpOpsIn (Fr ro) 0 E.P ops Q (List.range' (i + 1) rest.length) a' w' := by
      intro m' s' a' w' r hg'
      exact ih (i + 1) s' m' a' w' hd' hg' r.rel (by rw [r.round]; exact hro.mono r.ext.le) fun m2 s2 a2 w2 r2 hk => hn m2 s2 a2 w2 (r.trans r2) hk
    simp only [evTxt] at hg
    cases hok : o.op.operands.toList.all okOperand with
    | false => simp only [hok] at hg; exact absurd hg hA.bad
    | true =>
      simp only [hok] at hg
      rw [show (o :: rest).length = rest.length + 1 from rfl, List.range'_succ]
      simp only [wpOpsIn, hi]
      rw [wanted_ok hs]
      cases hw : aWanted ops.toList s o with
      | true =>
        simp only [hw] at hg
        rw [if_pos rfl]
        exact evO_ok hE hA hg hs hro hok hcont
      | false =>
        simp only [hw] at hg
        rw [if_neg (by simp)]
        refine ⟨fun _ _ => trivial, ?_⟩
        obtain ⟨s', q1, q2, q3, q4⟩ := put_ok' hA.bad hs (VRel.tuple .nil : VRel m undef undef) hg
        exact hcont m s' _ w ⟨.refl .., q1, by rw [q2], q3⟩ q4

theorem Wc.txt (hE : EnvOK E) (hA : OrcOK E.P good A) {id : Nat} {ops : Array Oper} {s : St} {K : St → ω} (hg : good (evTxt E A ops.toList ops.toList s K)) :
    Wc E.P (.region id ops false) s (andThen (fun s' => good (K s')) fun _ _ => False) := by
  intro U m a w ro hs hr
  refine wpIn_region ?_
  have := evTxt_ok (Q := Pst U m s w (andThen (fun s' => good (K s')) fun _ _ => False)) hE hA ops.toList 0 s m a w rfl hg hs hr (fun m' s' a' w' r hk => ⟨m', s', r, hk⟩)
  rw [show List.range ops.size = List.range' 0 ops.toList.length by simp [List.range_eq_range']]
  exact this
end
end
end Go.AE
