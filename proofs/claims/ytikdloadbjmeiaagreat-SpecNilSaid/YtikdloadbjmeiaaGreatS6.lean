import Derived.Test.YtikdloadbjmeiaaGreatS5
/- An evaluator over an abstract heap: ranges over functions. -/
namespace Go.AE
open Go
noncomputable section
variable {U : Un}

section
variable {P : Program} {m : Mp} {h : AH} {w : World}

theorem loop_at (hr : HRel U m h w) {l l' : Nat} {r : Loop} (hl : RefRel m l l') (hg : h.get l = some (.loop r)) :
    m l = some (some (l', o0)) ∧ ∃ r', w.heap[l']? = some (.loop r') ∧ r'.state = r.state ∧ r'.pending = r.pending ∧ VsRel m r.tmps.toList r'.tmps.toList ∧ r'.params = r.params ∧ r'.assign = r.assign ∧ r'.body = r.body ∧ RefRel m r.defers r'.defers := by
  rcases hr.obj l _ hg (hr.unR hl) with ⟨hd, _⟩ | ⟨c, s, o', h0, h1, h2⟩
  · cases hd
  · have hl0 : m l = some (some (l', o0)) := by
      rcases hl with hl | hl
      · exact hl
      · rw [hl] at h0; cases h0
    rw [hl0] at h0; cases h0
    cases o' <;> try (exact h2.elim)
    rename_i r'
    obtain ⟨_, h2⟩ := h2
    exact ⟨hl0, r', h1, h2⟩

theorem loop_set (hr : HRel U m h w) {l l' : Nat} {r q : Loop} (hf : h.floor ≤ l) (hl : RefRel m l l') (hg : h.get l = some (.loop r)) (q' : Loop → Loop)
    (hq : ∀ r', r'.state = r.state → r'.pending = r.pending → VsRel m r.tmps.toList r'.tmps.toList → r'.params = r.params → r'.assign = r.assign → r'.body = r.body → RefRel m r.defers r'.defers → ORel m o0 (.loop q) (.loop (q' r'))) :
    ∃ r' w', w.heap[l']? = some (.loop r') ∧ r'.state = r.state ∧ r'.pending = r.pending ∧ (Go.setObj l' (.loop (q' r'))).run P w = .ok () w' ∧ Ext m w h.floor m w' ∧ HRel U m (h.put l (.loop q)) w' := by
  obtain ⟨h0, r', h1, e1, e2, e3, e4, e5, e6, e7⟩ := loop_at hr hl hg
  have hsz : l' < w.heap.size := (Array.getElem?_eq_some_iff.1 h1).1
  refine ⟨r', { w with heap := w.heap.setIfInBounds l' (.loop (q' r')) }, h1, e1, e2, ?_, ?_, ?_⟩
  · simp only [Go.setObj, Sem.run, h1]
  · exact Ext.change h0 hf (by simp) fun c' hc => by simp [Ne.symm hc]
  · exact HRel.change (o' := .loop (q' r')) hr h0 (fun x => AH.get_put ..) (by simp [hsz]) (hq r' e1 e2 e3 e4 e5 e6 e7) fun c' hc => by simp [Ne.symm hc]

theorem run_getLoop {l : Nat} {r : Loop} (hw : w.heap[l]? = some (.loop r)) : (Instr.getLoop l).run P w = .ok r w := by
  unfold Instr.getLoop
  rw [run_bind', rg hw (by simp)]
  rfl

/-- At a round's end. -/
def EndR (l : Nat) (jump : Option Code) (h : AH) (R : Value → AH → Prop) : Prop :=
  h.floor ≤ l ∧ ∃ r, h.get l = some (.loop r) ∧ R (.bool jump.isNone) (h.put l (.loop { r with state := if jump.isNone then .ready else .done, pending := jump }))

theorem EndR.run {l l' : Nat} {jump : Option Code} {R : Value → AH → Prop} {m0 : Mp} {w0 : World} {h0 : AH} (he : EndR l jump h R) (hr : HRel U m h w) (hl : RefRel m l l') (hx : Ext m0 w0 h0.floor m w) (hf : h.floor = h0.floor) :
    ∃ v w', (Instr.endRound l' jump).run P w = .ok v w' ∧ CallPost U m0 w0 h0 R (.returned v) w' := by
  obtain ⟨h1, r, h2, h3⟩ := he
  obtain ⟨r', w', k1, _, _, k4, k5, k6⟩ := loop_set (P := P) (q := { r with state := if jump.isNone then .ready else .done, pending := jump }) hr h1 hl h2 (fun r' => { r' with state := if jump.isNone then .ready else .done, pending := jump })
    (fun r' _ _ e3 e4 e5 e6 e7 => ⟨rfl, rfl, rfl, e3, e4, e5, e6, e7⟩)
  refine ⟨.bool jump.isNone, w', ?_, _, m, _, hx.trans (by rw [← hf]; exact k5), k6, .bool _, hf, h3⟩
  unfold Instr.endRound
  rw [run_bind', run_getLoop k1]
  simp only
  rw [run_bind', k4]
  rfl

def rndPost (l : Nat) (R : Value → AH → Prop) : Exit → St → Prop
  | .normal, s => EndR l none s.heap R
  | .ret, s => EndR l (some .ret) s.heap R
  | .exit id, s => EndR l (some (.exit id)) s.heap R
  | _, _ => False

/-- The state in which a round begins. -/
def stR (l : Nat) (tmps : Array Value) (h : AH) : St := { tmps := enter tmps.toList 0 .nil, n := tmps.size, heap := h, defers := [], round := some l }

theorem stR_rel {l : Nat} {tmps tmps' : Array Value} (hr : HRel U m h w) (ha : ArrRel m tmps tmps') : SRel U m (stR l tmps h) { tmps := tmps', defers := [] } w := by
  have hs : tmps'.size = tmps.size := VsRel.size ha
  refine ⟨hs, fun i => ?_, trivial, hr⟩
  exact enter_rel (tmps' := tmps'.toList) ha (fun _ _ => rfl) (fun i hi => .inl (by simpa using hi)) tmps.size h [] (some l) i

def begun (l : Nat) (P : Program) (body : Code) (R : Value → AH → Prop) (s : St) : Prop :=
  s.heap.floor ≤ l ∧ ∃ r, s.heap.get l = some (.loop r) ∧ r.state = .ready ∧ Wc P body (s.on (s.heap.put l (.loop { r with state := .busy }))) (rndPost l R)

theorem RoundOk.body {l : Nat} {tmps : Array Value} {assign body : Code} {R : Value → AH → Prop} (hw : Wc P assign (stR l tmps h) (andThen (begun l P body R) fun _ _ => False)) : RoundOk P l tmps assign body h R := by
  intro U m w l' f tmps' hr hl ha
  refine roundIn_of_wpIn (F := Fence.wide) trivial ?_
  have := (hw U m _ w (some l') (stR_rel hr ha) hl).wpIn
  refine wpIn_mono (F := Fr (some l')) this ?_
  rintro e a1 w1 ⟨m1, s1, r1, hk⟩
  cases e <;> try (exact hk.elim)
  obtain ⟨k1, r, k2, k3, k4⟩ := hk
  have hl1 : RefRel m1 l l' := hl.mono r1.ext.le
  obtain ⟨r', w2, j1, j2, _, j4, j5, j6⟩ := loop_set (P := P) (q := { r with state := .busy }) r1.rel.heap k1 hl1 k2 (fun r' => { r' with state := .busy })
    (fun r' _ e2 e3 e4 e5 e6 e7 => ⟨rfl, rfl, e2, e3, e4, e5, e6, e7⟩)
  refine ⟨w2, ?_, ?_⟩
  · unfold Instr.beginRound
    rw [run_bind', run_getLoop j1]
    simp only
    rw [run_bind', j4]
    simp only [j2, k3]
    rfl
  · have hs2 : SRel U m1 (s1.on (s1.heap.put l (.loop { r with state := .busy }))) a1 w2 := r1.rel.on (Mle.refl _) j6
    have hrd : s1.round = some l := r1.round
    have hro : RoRel m1 (s1.on (s1.heap.put l (.loop { r with state := .busy }))).round (some l') := by
      have : (s1.on (s1.heap.put l (.loop { r with state := .busy }))).round = some l := by cases s1; exact hrd
      rw [this]; exact hl1
    have h2 := (k4 U m1 a1 w2 (some l') hs2 hro).wpIn
    refine wpIn_mono (F := Fr (some l')) h2 ?_
    rintro e2 a2 w3 ⟨m2, s2, q1, hk2⟩
    have hfl : (s1.on (s1.heap.put l (.loop { r with state := .busy }))).heap.floor = h.floor := by cases s1; exact r1.floor
    have hx : Ext m w h.floor m2 w3 := by
      have x1 := r1.ext
      have x2 := j5
      have x3 := q1.ext
      rw [hfl] at x3
      rw [show s1.heap.floor = h.floor from r1.floor] at x2
      exact (x1.trans x2).trans x3
    have hf2 : s2.heap.floor = h.floor := q1.floor.trans hfl
    have hl2 : RefRel m2 l l' := hl1.mono q1.ext.le
    cases e2 <;> try (exact hk2.elim)
    · obtain ⟨v, w4, p1, p2⟩ := EndR.run (P := P) hk2 q1.rel.heap hl2 hx hf2
      exact ⟨v, w4, p1, p2⟩
    · obtain ⟨v, w4, p1, p2⟩ := EndR.run (P := P) hk2 q1.rel.heap hl2 hx hf2
      exact ⟨v, w4, p1, p2⟩
    · obtain ⟨v, w4, p1, p2⟩ := EndR.run (P := P) hk2 q1.rel.heap hl2 hx hf2
      exact ⟨v, w4, p1, p2⟩
end

section
variable {ω : Type} (E : Env) (A : Orc ω)

/-- Where the loop is left. -/
def jumpTo (c : Code) (s : St) (K : Exit → St → ω) : ω := match c with
  | .ret => K .ret s
  | .exit id => K (.exit id) s
  | _ => A.bad

def loopRec (s : St) (ps : Array Tmp) (assign body : Code) (b : Nat) : Loop :=
  { state := .ready, pending := none, fn := 0, tmps := ((List.range s.n).map s.get).toArray, params := ps, assign, body, defers := b }

/-- Behind the call. -/
def evEnd (s : St) (mark : List Deferred) (l : Nat) (K : Exit → St → ω) (h' : AH) : ω := match Nat.ble h'.floor l with
  | false => A.bad
  | true => match h'.get l with
    | some (.loop r) => match r.state with
      | .busy => A.bad
      | _ => match r.pending with
        | none => K .normal { s with heap := h'.put l (.loop { r with state := .exhausted }), defers := mark ++ s.defers }
        | some c => jumpTo A c { s with heap := h'.put l (.loop { r with state := .exhausted }), defers := mark ++ s.defers } K
    | _ => A.bad

def evIn (g : Operand) (ps : Array Tmp) (assign body : Code) (s : St) (b : Nat) (mark : List Deferred) (h : AH) (K : Exit → St → ω) : ω :=
  match aNew h (.loop (loopRec s ps assign body b)) with
  | none => A.bad
  | some (l, h) => match s.eval g with
    | .func fn first cap => match aInvoke E fn cap (first ++ #[.func (.yield l) #[] #[]]) h with
      | some (.enter f args, h) => A.call f args h fun _ h' => evEnd A s mark l K h'
      | _ => A.bad
    | _ => A.bad

def evRng (g : Operand) (ps : Array Tmp) (assign body : Code) (s : St) (K : Exit → St → ω) : ω := match okOperand g with
  | false => A.bad
  | true => match s.round with
    | some l => match s.heap.get l with
      | some (.loop r) => evIn E A g ps assign body s r.defers [] s.heap K
      | _ => A.bad
    | none => match aNew s.heap (.deferred (some [])) with
      | some (b, h) => evIn E A g ps assign body s b [{ target := .collected b, args := #[] }] h K
      | none => A.bad

variable {E A} {good : ω → Prop}

theorem range_rel' {m : Mp} {f : Nat → Value} : ∀ (l : List Value) (k : Nat), (∀ i v, l[i]? = some v → VRel m (f (k + i)) v) → VsRel m ((List.range' k l.length).map f) l
  | [], _, _ => .nil
  | v :: l, k, h => by
    rw [List.length_cons, List.range'_succ, List.map_cons]
    refine .cons (by simpa using h 0 v rfl) (range_rel' l (k + 1) fun i x hx => ?_)
    have := h (i + 1) x (by simpa using hx)
    rwa [show k + 1 + i = k + (i + 1) by omega]

theorem range_rel {m : Mp} {s : St} {a : Act} {w : World} (hs : SRel U m s a w) : VsRel m ((List.range s.n).map s.get) a.tmps.toList := by
  have := range_rel' (m := m) (f := s.get) a.tmps.toList 0 fun i v hv => by
    have h1 := hs.tmp i
    rw [Nat.zero_add]
    have : a.tmps[i]? = some v := by simpa using hv
    rw [Array.getD_eq_getD_getElem?, this] at h1
    exact h1
  rw [← List.range_eq_range', Array.length_toList, hs.size] at this
  exact this

theorem jumpTo_ok (hA : OrcOK E.P good A) {c : Code} {s : St} {K : Exit → St → ω} (hg : good (jumpTo A c s K)) : Wc E.P c s fun e s' => good (K e s') := by
  unfold jumpTo at hg
  cases c <;> simp only at hg <;> try (exact absurd hg hA.bad)
  · exact .exit hg
  · exact .ret hg

theorem evEnd_ok (hA : OrcOK E.P good A) {s : St} {mark mark' : List Deferred} {l l' : Nat} {K : Exit → St → ω} {h' : AH} {m : Mp} {a : Act} {w : World} {ro : Option Nat}
    (hg : good (evEnd A s mark l K h')) (hs : SRel U m (s.on h') a w) (hm : DsRel m mark mark') (hl : RefRel m l l') (hro : RoRel m s.round ro) :
    rangePost (Fr ro) 0 E.P l' (Pst U m (s.on h') w fun e s' => good (K e s')) { a with defers := mark' ++ a.defers } (.returned undef) w := by
  have hh : HRel U m h' w := by have := hs.heap; cases s; exact this
  unfold evEnd at hg
  cases hb : Nat.ble h'.floor l with
  | false => simp only [hb] at hg; exact absurd hg hA.bad
  | true =>
  simp only [hb] at hg
  have hfl := Nat.le_of_ble_eq_true hb
  cases hgt : h'.get l with
  | none => simp only [hgt] at hg; exact absurd hg hA.bad
  | some o =>
  cases o <;> simp only [hgt] at hg <;> try (exact absurd hg hA.bad)
  rename_i r
  have hst : r.state ≠ .busy := by
    intro e
    simp only [e] at hg
    exact absurd hg hA.bad
  have hg' : good (match r.pending with
        | none => K .normal { s with heap := h'.put l (.loop { r with state := .exhausted }), defers := mark ++ s.defers }
        | some c => jumpTo A c { s with heap := h'.put l (.loop { r with state := .exhausted }), defers := mark ++ s.defers } K) := by
    cases hrs : r.state <;> simp only [hrs] at hg <;> first | exact hg | exact absurd hg hA.bad
  obtain ⟨r', w', j1, j2, j3, j4, j5, j6⟩ := loop_set (P := E.P) (q := { r with state := .exhausted }) hh hfl hl hgt (fun r' => { r' with state := .exhausted })
    (fun r' _ e2 e3 e4 e5 e6 e7 => ⟨rfl, rfl, e2, e3, e4, e5, e6, e7⟩)
  have hrun : (Instr.endLoop l').run E.P w = .ok r'.pending w' := by
    unfold Instr.endLoop
    rw [run_bind', run_getLoop j1]
    have hnb : (r'.state == LoopState.busy) = false := by rw [j2]; simpa using hst
    simp only [hnb, Bool.false_eq_true, if_false]
    rw [run_bind', j4]
    rfl
  refine ⟨r'.pending, w', hrun, ?_⟩
  have happ : ∀ {ds ds' es es' : List Deferred}, DsRel m ds ds' → DsRel m es es' → DsRel m (ds ++ es) (ds' ++ es') := by
    intro ds
    induction ds with
    | nil => intro ds' es es' h1 h2; cases ds' with
      | nil => exact h2
      | cons _ _ => exact h1.elim
    | cons d ds ih => intro ds' es es' h1 h2; cases ds' with
      | nil => exact h1.elim
      | cons d' ds' => exact ⟨h1.1, ih h1.2 h2⟩
  have hdf : DsRel m s.defers a.defers := by have := hs.defers; cases s; exact this
  have hs1 : SRel U m { s with heap := h'.put l (.loop { r with state := .exhausted }), defers := mark ++ s.defers } { a with defers := mark' ++ a.defers } w' := by
    refine ⟨?_, fun i => ?_, happ hm hdf, j6⟩
    · have := hs.size; cases s; exact this
    · have := hs.tmp i; cases s; exact this
  have hR : Rch U m (s.on h') w m { s with heap := h'.put l (.loop { r with state := .exhausted }), defers := mark ++ s.defers } { a with defers := mark' ++ a.defers } w' := by
    refine ⟨?_, hs1, ?_, ?_⟩
    · cases s; exact j5
    · cases s; rfl
    · cases s; rfl
  rw [j3]
  generalize ({ s with heap := h'.put l (.loop { r with state := .exhausted }), defers := mark ++ s.defers } : St) = st at hg' hs1 hR
  have hrd : st.round = s.round := hR.round.trans (by cases s; rfl)
  cases hp : r.pending with
  | none =>
    simp only [hp] at hg'
    exact ⟨m, _, hR, hg'⟩
  | some c =>
    simp only [hp] at hg'
    have := (jumpTo_ok hA hg' U m _ w' ro hs1 (by rw [hrd]; exact hro)).wpIn
    exact wpIn_mono this fun _ _ _ q => q.trans hR

theorem loopRec_rel {m : Mp} {s : St} {a : Act} {w : World} (hs : SRel U m s a w) {ps : Array Tmp} {assign body : Code} {b b' : Nat} (hb : RefRel m b b') (fn : FuncId) :
    ∀ m', Mle m m' → ORel m' ⟨0, 0⟩ (.loop (loopRec s ps assign body b)) (.loop { state := .ready, pending := none, fn, tmps := a.tmps, params := ps, assign, body, defers := b' }) :=
  fun m' hm => ⟨rfl, rfl, rfl, by unfold loopRec; simpa using VsRel.mono (range_rel hs) hm, rfl, rfl, rfl, hb.mono hm⟩

theorem evIn_ok (hE : EnvOK E) (hA : OrcOK E.P good A) {g : Operand} {ps : Array Tmp} {assign body : Code} {s : St} {b b' : Nat} {mark mark' : List Deferred} {h : AH} {K : Exit → St → ω} {m : Mp} {a : Act} {w : World} {ro : Option Nat} (fn : FuncId)
    (hg : good (evIn E A g ps assign body s b mark h K)) (hs : SRel U m (s.on h) a w) (hm : DsRel m mark mark') (hb : RefRel m b b') (hok : okOperand g = true) (hro : RoRel m s.round ro) :
    ∃ (l : Nat) (w₁ : World) (d : Deferred) (w₁' : World) (f : FuncId) (args : Array Value) (w₂ : World),
      (Go.newObj (.loop { state := .ready, pending := none, fn, tmps := a.tmps, params := ps, assign, body, defers := b' })).run E.P w = .ok l w₁ ∧
      (resolve a.eval (rangeCall g l) 0).run E.P w₁ = .ok d w₁' ∧
      (invoke d.target d.args).run E.P w₁' = .ok (.enter f args) w₂ ∧
      CallsIn (Fr ro) 0 E.P f args w₂ (rangePost (Fr ro) 0 E.P l (Pst U m (s.on h) w fun e s' => good (K e s')) { a with defers := mark' ++ a.defers }) := by
  unfold evIn at hg
  have hsr : ∀ (x : AH), (s.on x).get = s.get ∧ (s.on x).n = s.n := by intro x; cases s; exact ⟨rfl, rfl⟩
  have hh : HRel U m h w := by have := hs.heap; cases s; exact this
  cases hn : aNew h (.loop (loopRec s ps assign body b)) with
  | none => simp only [hn] at hg; exact absurd hg hA.bad
  | some q =>
  obtain ⟨l, h1⟩ := q
  simp only [hn] at hg
  have hlr : loopRec s ps assign body b = loopRec (s.on h) ps assign body b := by unfold loopRec; rw [(hsr h).1, (hsr h).2]
  obtain ⟨m1, k1, k2, k3, k4, k5⟩ := aNew_run (P := E.P) (o' := .loop { state := .ready, pending := none, fn, tmps := a.tmps, params := ps, assign, body, defers := b' }) (q := 0) hh hn (by rw [hlr]; exact loopRec_rel hs hb fn)
  have hev := St.eval_ok hs hok
  have hevs : (s.on h).eval g = s.eval g := by cases s; rfl
  rw [hevs] at hev
  cases hv : s.eval g <;> simp only [hv] at hg <;> try (exact absurd hg hA.bad)
  rename_i fnv first cap
  rw [hv] at hev
  cases hi : aInvoke E fnv cap (first ++ #[.func (.yield l) #[] #[]]) h1 with
  | none => simp only [hi] at hg; exact absurd hg hA.bad
  | some q =>
  obtain ⟨nx, h2⟩ := q
  simp only [hi] at hg
  cases nx <;> simp only at hg <;> try (exact absurd hg hA.bad)
  rename_i f args
  generalize hev' : a.eval g = vg at hev
  obtain ⟨first⟩ := first
  obtain ⟨cap⟩ := cap
  cases hev with
  | func hfn hfirst hcap =>
    rename_i fn' first' cap'
    have hfirst1 : ArrRel m1 (⟨first⟩ ++ #[.func (.yield l) #[] #[]]) (⟨first'⟩ ++ #[.func (.yield w.heap.size) #[] #[]]) :=
      ArrRel.append (xs := ⟨first⟩) (xs' := ⟨first'⟩) (VsRel.mono hfirst k2.le) (.cons (.func ⟨w.heap.size, rfl, .inl k4⟩ .nil .nil) .nil)
    obtain ⟨m2, nx', w2, r1, r2, r3, r4, r5⟩ := aInvoke_run hE k3 (hfn.mono k2.le) (VsRel.mono hcap k2.le : ArrRel m1 ⟨cap⟩ ⟨cap'⟩) hfirst1 hi
    cases nx' <;> try (exact r4.elim)
    rename_i f' args'
    obtain ⟨rfl, r4⟩ := r4
    refine ⟨w.heap.size, _, { target := .fn fn' ⟨cap'⟩, args := ⟨first'⟩ ++ #[.func (.yield w.heap.size) #[] #[]] }, _, f', args', w2, k1, ?_, r1, ?_⟩
    · unfold resolve
      simp only [hev']
      rw [show Array.map a.eval #[Operand.const (Value.func (Fn.yield w.heap.size) #[] #[])] = #[Value.func (Fn.yield w.heap.size) #[] #[]] by simp [Act.eval]]
      rfl
    · have hc := hA.call _ _ _ _ hg U m2 w2 args' r3 r4
      have hc1 : CallsIn Fence.wide 0 E.P f' args' w2 _ := callsIn_wide.2 hc
      have hc2 : CallsIn (Fr ro) 0 E.P f' args' w2 (CallPost U m2 w2 h2 fun _ h' => good (evEnd A s mark l K h')) := hc1
      refine hc2.mono ?_
      intro e w3 hp
      cases e <;> try (exact hp.elim)
      rename_i v'
      obtain ⟨v, m3, h3, p1, p2, p3, p4, p5⟩ := hp
      have hx : Ext m w h.floor m3 w3 := by
        have x2 := r2; rw [k5] at x2
        have x3 := p1; rw [show h2.floor = h.floor from r5.trans k5] at x3
        exact (k2.trans x2).trans x3
      have hs3 : SRel U m3 (s.on h3) a w3 := by
        have := hs.on (h' := h3) hx.le p2
        cases s; exact this
      have hl3 : RefRel m3 l w.heap.size := (RefRel.mono (RefRel.mono (.inl k4) r2.le) p1.le)
      have fin := evEnd_ok (E := E) hA p5 hs3 (hm.mono hx.le) hl3 (hro.mono hx.le)
      have hR : Rch U m (s.on h) w m3 (s.on h3) a w3 := by
        have hfl : h3.floor = h.floor := p4.trans (r5.trans k5)
        refine ⟨?_, hs3, ?_, ?_⟩ <;> cases s
        · exact hx
        · exact hfl
        · rfl
      obtain ⟨jump, w4, f1, f2⟩ := fin
      refine ⟨jump, w4, f1, ?_⟩
      cases jump with
      | none => exact f2.trans hR
      | some c => exact wpIn_mono f2 fun _ _ _ q => q.trans hR

theorem Wc.rng (hE : EnvOK E) (hA : OrcOK E.P good A) {g : Operand} {ps : Array Tmp} {assign body : Code} {s : St} {K : Exit → St → ω} (hg : good (evRng E A g ps assign body s K)) :
    Wc E.P (.rangeFunc g ps assign body) s fun e s' => good (K e s') := by
  intro U m a w ro hs hr
  refine wpIn_rangeFunc fun fn _ => ?_
  unfold evRng at hg
  cases hok : okOperand g with
  | false => simp only [hok] at hg; exact absurd hg hA.bad
  | true =>
  simp only [hok] at hg
  cases hrd : s.round with
  | some l =>
    simp only [hrd] at hg hr
    cases ro with
    | none => exact hr.elim
    | some l' =>
      have hr' : RefRel m l l' := hr
      cases hgt : s.heap.get l with
      | none => simp only [hgt] at hg; exact absurd hg hA.bad
      | some o =>
      cases o <;> simp only [hgt] at hg <;> try (exact absurd hg hA.bad)
      rename_i r
      obtain ⟨_, r', q1, _, _, _, _, _, _, q7⟩ := loop_at hs.heap hr' hgt
      have hs' : SRel U m (s.on s.heap) a w := by cases s; exact hs
      obtain ⟨l2, w1, d, w1', f, args, w2, k1, k2, k3, k4⟩ := evIn_ok (U := U) (ro := some l') hE hA fn hg hs' (mark' := []) trivial q7 hok (by rw [hrd]; exact hr')
      refine ⟨l2, [], w1, d, w1', f, args, w2, ?_, k2, fun _ _ => trivial, k3, fun hd => by simp [Fr, Fence.wide] at hd, ?_⟩
      · unfold Instr.enterLoop
        simp only [Fr]
        rw [run_bind', run_getLoop q1]
        simp only
        rw [run_bind', rp]
        simp only
        rw [run_bind', k1]
        rfl
      · refine k4.mono ?_
        intro e w3 hp
        cases e
        · obtain ⟨jump, w4, f1, f2⟩ := hp
          refine ⟨jump, w4, f1, ?_⟩
          have hon : s.on s.heap = s := by cases s; rfl
          rw [hon] at f2
          exact f2
        · have hon : s.on s.heap = s := by cases s; rfl
          have hp2 := hp
          rw [hon] at hp2; exact hp2
        · have hon : s.on s.heap = s := by cases s; rfl
          rw [hon] at hp; exact hp
  | none =>
    simp only [hrd] at hg hr
    cases ro with
    | some l' => exact hr.elim
    | none =>
      cases hn : aNew s.heap (.deferred (some [])) with
      | none => simp only [hn] at hg; exact absurd hg hA.bad
      | some q =>
      obtain ⟨b, h1⟩ := q
      simp only [hn] at hg
      obtain ⟨m1, k1, k2, k3, k4, k5⟩ := aNew_run (P := E.P) (o' := .deferred (some [])) (q := 0) hs.heap hn (fun _ _ => rfl)
      have hs1 : SRel U m1 (s.on h1) a { w with heap := w.heap.push (.deferred (some [])) } := hs.on k2.le k3
      obtain ⟨l2, w1, d, w1', f, args, w2, j1, j2, j3, j4⟩ := evIn_ok (U := U) (ro := none) hE hA fn hg hs1 (mark' := [{ target := .collected w.heap.size, args := #[] }]) ⟨⟨.inl k4, .nil⟩, trivial⟩ (.inl k4) hok (by rw [hrd]; trivial)
      refine ⟨l2, [{ target := .collected w.heap.size, args := #[] }], w1, d, w1', f, args, w2, ?_, j2, fun _ _ => trivial, j3, fun hd => by simp [Fr, Fence.wide] at hd, ?_⟩
      · unfold Instr.enterLoop
        simp only [Fr]
        rw [run_bind', k1]
        simp only
        rw [run_bind', rp]
        simp only
        rw [run_bind', j1]
        rfl
      · have hR : Rch U m s w m1 (s.on h1) a { w with heap := w.heap.push (.deferred (some [])) } := by
          refine ⟨k2, hs1, ?_, ?_⟩ <;> cases s
          · exact k5
          · rfl
        refine j4.mono ?_
        intro e w3 hp
        cases e
        · obtain ⟨jump, w4, f1, f2⟩ := hp
          refine ⟨jump, w4, f1, ?_⟩
          cases jump with
          | none => exact f2.trans hR
          | some c => exact wpIn_mono f2 fun _ _ _ q => q.trans hR
        · rename_i chain
          have hp2 : Pst U m1 (s.on h1) _ (fun e s' => good (K e s')) (.panic chain) _ w3 := hp
          exact Pst.trans hR hp2
        · obtain ⟨a0, w0, q⟩ := hp
          exact ⟨a0, w0, q.trans hR⟩
end
end
end Go.AE
