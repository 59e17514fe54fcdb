import Derived.Test.YtikdloadbjmeiaaGreatA21
/- An evaluator over an abstract heap, part 22: the evaluator is sound: code but for regions and ranges over functions. -/
namespace Go.AE
open Go
noncomputable section
variable {U : Un}

section
variable {ω : Type} {E : Env} {C : Cons} {A : Ans ω} {good : ω → Prop}

def Post (U : Un) (good : ω → Prop) (K : Exit → St → ω) (m : Mp) (s : St) (w : World) (e : Exit) (a' : Act) (w' : World) : Prop :=
  ∃ m' s', Ext m w s.heap.floor m' w' ∧ SRel U m' s' a' w' ∧ s'.heap.floor = s.heap.floor ∧ s'.round = s.round ∧ good (K e s')

theorem Post.trans {K : Exit → St → ω} {m m1 : Mp} {s s1 : St} {w w1 w2 : World} {e : Exit} {a2 : Act} (he : Ext m w s.heap.floor m1 w1) (hf : s1.heap.floor = s.heap.floor) (hr : s1.round = s.round)
    (h : Post U good K m1 s1 w1 e a2 w2) : Post U good K m s w e a2 w2 := by
  obtain ⟨m', s', h1, h2, h3, h4, h5⟩ := h
  rw [hf] at h1
  exact ⟨m', s', he.trans h1, h2, h3.trans hf, h4.trans hr, h5⟩

/-- What is claimed of a piece of code: of a loop, from the state behind its first step. -/
def WP (ro : Option Nat) (P : Program) (c : Code) (Q : Exit → Act → World → Prop) (a : Act) (w : World) : Prop := match c with
  | .loop b => LoopIn (Fr ro) 0 P b Q a w
  | c => c.wpIn (Fr ro) 0 P Q a w

theorem WP.wpIn {ro : Option Nat} {P : Program} {c : Code} {Q : Exit → Act → World → Prop} {a : Act} {w : World} (h : WP ro P c Q a w) : c.wpIn (Fr ro) 0 P Q a w := by
  cases c <;> first | exact h | exact wpIn_of_loopIn h

def IhOK (P : Program) (good : ω → Prop) (ih : Ih ω) : Prop := ∀ (c : Code) (s : St) (K : Exit → St → ω) (U : Un) (m : Mp) (a : Act) (w : World) (ro : Option Nat),
  SRel U m s a w → RoRel m s.round ro → good (ih c s K) → WP ro P c (Post U good K m s w) a w

theorem RoRel.mono {m m' : Mp} {r r' : Option Nat} (h : RoRel m r r') (hm : Mle m m') : RoRel m' r r' := by
  cases r <;> cases r' <;> first | exact h | exact RefRel.mono h hm

theorem seq_ok {ih : Ih ω} (hi : IhOK E.P good ih) {x y : Code} {s : St} {K : Exit → St → ω} {m : Mp} {a : Act} {w : World} {ro : Option Nat} (hs : SRel U m s a w) (hr : RoRel m s.round ro)
    (hg : good (ih x s fun e s' => match e with | .normal => ih y s' K | e => K e s')) : (Code.seq x y).wpIn (Fr ro) 0 E.P (Post U good K m s w) a w := by
  refine wpIn_seq (wpIn_mono (hi x s _ U m a w ro hs hr hg).wpIn ?_)
  intro e a1 w1 hp
  obtain ⟨m1, s1, h1, h2, h3, h4, h5⟩ := hp
  cases e with
  | normal => exact wpIn_mono (hi y s1 K U m1 a1 w1 ro h2 (by rw [h4]; exact hr.mono h1.le) h5).wpIn fun _ _ _ q => q.trans h1 h3 h4
  | _ => exact ⟨m1, s1, h1, h2, h3, h4, h5⟩

theorem loop_ok {ih : Ih ω} (hi : IhOK E.P good ih) {x : Code} {s : St} {K : Exit → St → ω} {m : Mp} {a : Act} {w : World} {ro : Option Nat} (hs : SRel U m s a w) (hr : RoRel m s.round ro)
    (hg : good (ih x s fun e s' => match e with | .normal => ih (.loop x) s' K | e => K e s')) : LoopIn (Fr ro) 0 E.P x (Post U good K m s w) a w := by
  refine loopIn_of (wpIn_mono (hi x s _ U m a w ro hs hr hg).wpIn ?_)
  intro e a1 w1 hp
  obtain ⟨m1, s1, h1, h2, h3, h4, h5⟩ := hp
  cases e with
  | normal =>
    have := hi (.loop x) s1 K U m1 a1 w1 ro h2 (by rw [h4]; exact hr.mono h1.le) h5
    intro b k cs q1 q2 q3
    obtain ⟨e2, a2, w2, p1, p2⟩ := this b k cs q1 q2 q3
    exact ⟨e2, a2, w2, p1.trans h1 h3 h4, p2⟩
  | _ => exact ⟨m1, s1, h1, h2, h3, h4, h5⟩

theorem block_ok {ih : Ih ω} (hi : IhOK E.P good ih) {x : Code} {id : Nat} {s : St} {K : Exit → St → ω} {m : Mp} {a : Act} {w : World} {ro : Option Nat} (hs : SRel U m s a w) (hr : RoRel m s.round ro)
    (hg : good (ih x s fun e s' => match e with | .exit i => (match Nat.beq i id with | true => K .normal s' | false => K (.exit i) s') | e => K e s')) :
    (Code.block id x).wpIn (Fr ro) 0 E.P (Post U good K m s w) a w := by
  refine wpIn_block (wpIn_mono (hi x s _ U m a w ro hs hr hg).wpIn ?_)
  intro e a1 w1 hp
  obtain ⟨m1, s1, h1, h2, h3, h4, h5⟩ := hp
  cases e with
  | exit i =>
    simp only [Exit.inBlock]
    by_cases hid : i = id
    · rw [if_pos hid]
      subst hid
      simp only [Nat.beq_refl] at h5
      exact ⟨m1, s1, h1, h2, h3, h4, h5⟩
    · rw [if_neg hid]
      simp only [beq_f hid] at h5
      exact ⟨m1, s1, h1, h2, h3, h4, h5⟩
  | _ => exact ⟨m1, s1, h1, h2, h3, h4, h5⟩

theorem scope_ok (hbad : ¬ good A.bad) {ih : Ih ω} (hi : IhOK E.P good ih) {x : Code} {s : St} {K : Exit → St → ω} {m : Mp} {a : Act} {w : World} {ro : Option Nat} (hs : SRel U m s a w) (hr : RoRel m s.round ro)
    (hg : good (ih x s fun e s' => match e with | .goto _ => A.bad | e => K e s')) : (Code.scope x).wpIn (Fr ro) 0 E.P (Post U good K m s w) a w := by
  refine wpIn_scope (wpIn_mono (hi x s _ U m a w ro hs hr hg).wpIn ?_)
  intro e a1 w1 hp
  obtain ⟨m1, s1, h1, h2, h3, h4, h5⟩ := hp
  cases e with
  | goto l => exact absurd h5 hbad
  | _ => exact ⟨m1, s1, h1, h2, h3, h4, h5⟩

theorem St.eval_ok {m : Mp} {s : St} {a : Act} {w : World} (hs : SRel U m s a w) {x : Operand} (hx : okOperand x = true) : VRel m (s.eval x) (a.eval x) := by
  cases x with
  | tmp t => exact hs.tmp t
  | const v =>
    have hp : plain v = true := hx
    show VRel m (match plain v with | true => v | false => undef) v
    rw [hp]; exact .of_plain m v hp
  | global g => cases hx
  | func f => exact .func rfl .nil .nil
end
end
end Go.AE
