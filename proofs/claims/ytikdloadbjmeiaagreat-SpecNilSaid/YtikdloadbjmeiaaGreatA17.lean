import Derived.Test.YtikdloadbjmeiaaGreatA16
/- An evaluator over an abstract heap, part 17: an operation that is answered is carried out in every world for which the heap stands. -/
namespace Go.AE
open Go
noncomputable section
variable {U : Un}

structure EnvOK (E : Env) : Prop where
  names : ∀ (f : FuncId) (g : Func), E.P.funcs[f]? = some g → g.body.isSome = true → (g.name == "runtime.NumGoroutine") = false
  ext : ∀ (f : FuncId) (g : Func) (args : Array Value) (h : AH) (v : Value) (h' : AH), E.P.funcs[f]? = some g → g.body = none → E.ext f args h = some (v, h') → ∀ (U : Un) (m : Mp) (w : World) (args' : Array Value), HRel U m h w → ArrRel m args args' →
    ∃ m' v' w', (callFunc f args').run E.P w = .ok (.value v') w' ∧ Ext m w h.floor m' w' ∧ HRel U m' h' w' ∧ VRel m' v v' ∧ h'.floor = h.floor

def Res (U : Un) (P : Program) (m : Mp) (h : AH) (w : World) (s : Sem Next) (nx : Next) (h' : AH) : Prop :=
  ∃ m' nx' w', s.run P w = .ok nx' w' ∧ Ext m w h.floor m' w' ∧ HRel U m' h' w' ∧ NRel m' nx nx' ∧ h'.floor = h.floor

section
variable {E : Env} {m : Mp} {h : AH} {w : World}

theorem Res.val {P : Program} {s : Sem Value} {x x' : Value} (hr : HRel U m h w) (h1 : s.run P w = .ok x' w) (h2 : VRel m x x') : Res U P m h w (do pure (.value (← s))) (.value x) h :=
  ⟨m, .value x', w, by rw [run_bind', h1]; rfl, .refl .., hr, h2, rfl⟩

theorem Res.valh {P : Program} {s : Sem Value} {x : Value} {h' : AH} (h1 : ∃ m' x' w', s.run P w = .ok x' w' ∧ Ext m w h.floor m' w' ∧ HRel U m' h' w' ∧ VRel m' x x' ∧ h'.floor = h.floor) :
    Res U P m h w (do pure (.value (← s))) (.value x) h' := by
  obtain ⟨m', x', w', a, b, c, d, e⟩ := h1
  exact ⟨m', .value x', w', by rw [run_bind', a]; rfl, b, c, d, e⟩

theorem Res.sim {P : Program} {s s' : Sem Value} {x : Value} {h' : AH} (hs : Sim U P m h w s s' VRel) (he : arun P s h = some (x, h')) : Res U P m h w (do pure (.value (← s'))) (.value x) h' := by
  obtain ⟨m', x', w', a, b, c, d⟩ := hs x h' he
  exact .valh ⟨m', x', w', a, b, c, d, (arun_keeps _ _ _ _ he).1⟩

theorem val_some {r : Option Value} {h h' : AH} {nx : Next} (he : AE.val r h = some (nx, h')) : ∃ v, r = some v ∧ nx = .value v ∧ h' = h := by
  unfold AE.val at he
  cases r with
  | none => cases he
  | some v => simp only [Option.some.injEq, Prod.mk.injEq] at he; obtain ⟨rfl, rfl⟩ := he; exact ⟨v, rfl, rfl, rfl⟩

theorem valh_some {r : Option (Value × AH)} {h' : AH} {nx : Next} (he : AE.valh r = some (nx, h')) : ∃ v, r = some (v, h') ∧ nx = .value v := by
  unfold AE.valh at he
  cases r with
  | none => cases he
  | some v => obtain ⟨v, h2⟩ := v; simp only [Option.some.injEq, Prod.mk.injEq] at he; obtain ⟨rfl, rfl⟩ := he; exact ⟨v, rfl, rfl⟩

theorem OptRel.map {ρ ρ' : Operand → Value} (hρ : ∀ x, VRel m (ρ x) (ρ' x)) (x : Option Operand) : OptRel m (x.map ρ) (x.map ρ') := by
  cases x with
  | none => trivial
  | some x => exact hρ x

theorem PsRel.map {ρ ρ' : Operand → Value} (hρ : ∀ x, VRel m (ρ x) (ρ' x)) (ps : Array (Nat × Operand)) : PsRel m (ps.toList.map fun p => (p.1, ρ p.2)) (ps.map fun (i, x) => (i, ρ' x)).toList := by
  simp only [Array.toList_map]
  generalize ps.toList = l
  induction l with
  | nil => trivial
  | cons p l ih => exact ⟨rfl, hρ p.2, ih⟩

theorem foldl_params_rel : ∀ (ps : List (Tmp × Value)) (qs : List (Tmp × Value)) (a b : Array Value), ps.length = qs.length → (∀ (i : Nat) (p q : Tmp × Value), ps[i]? = some p → qs[i]? = some q → q.1 = p.1 ∧ VRel m p.2 q.2) → ArrRel m a b →
    ArrRel m (ps.foldl (fun tmps (t, a) => tmps.setIfInBounds t a) a) (qs.foldl (fun tmps (t, a) => tmps.setIfInBounds t a) b)
  | [], [], _, _, _, _, h => h
  | [], _ :: _, _, _, h, _, _ => by simp at h
  | _ :: _, [], _, _, h, _, _ => by simp at h
  | p :: ps, q :: qs, a, b, hl, hi, h => by
    simp only [List.foldl_cons]
    obtain ⟨e1, e2⟩ := hi 0 p q rfl rfl
    refine foldl_params_rel ps qs _ _ (by simpa using hl) (fun i p q hp hq => hi (i + 1) p q (by simpa using hp) (by simpa using hq)) ?_
    rw [e1]
    exact h.set _ e2

theorem aInvoke_run (hE : EnvOK E) {fn fn' : Fn} {cap cap' args args' : Array Value} {nx : Next} {h' : AH} (hr : HRel U m h w) (hf : FnRel m fn fn') (hc : ArrRel m cap cap') (ha : ArrRel m args args')
    (he : aInvoke E fn cap args h = some (nx, h')) : Res U E.P m h w (invoke (.fn fn' cap') args') nx h' := by
  unfold aInvoke at he
  cases fn with
  | func f =>
    have hff : fn' = .func f := hf
    subst hff
    simp only at he
    cases hg : E.P.funcs[f]? with
    | none => simp [hg] at he
    | some g =>
      simp only [hg] at he
      cases hb : g.body with
      | some c =>
        simp only [hb, Option.some.injEq, Prod.mk.injEq] at he
        obtain ⟨rfl, rfl⟩ := he
        refine ⟨m, .enter f (args' ++ cap'), w, ?_, .refl .., hr, ⟨rfl, ha.append hc⟩, rfl⟩
        have hn := hE.names f g hg (by simp [hb])
        show (callFunc f (args' ++ cap')).run E.P w = _
        unfold callFunc
        rw [run_bind']
        rw [show Go.program.run E.P w = .ok E.P w from rfl]
        simp only [hg, hn, hb, Option.isNone_some, Bool.false_eq_true, if_false]
        rfl
      | none =>
        simp only [hb] at he
        cases hx : E.ext f (args ++ cap) h with
        | none => simp [hx] at he
        | some q =>
          obtain ⟨v, h2⟩ := q
          simp only [hx, Option.some.injEq, Prod.mk.injEq] at he
          obtain ⟨rfl, rfl⟩ := he
          obtain ⟨m', v', w', a, b, c, d, e⟩ := hE.ext f g _ h v h2 hg hb hx U m w (args' ++ cap') hr (ha.append hc)
          exact ⟨m', .value v', w', a, b, c, d, e⟩
  | yield l =>
    obtain ⟨l', hff, hl⟩ := hf
    subst hff
    simp only at he
    cases hg : h.get l with
    | none => simp [hg] at he
    | some o =>
      cases o with
      | loop r =>
        simp only [hg] at he
        cases hb : Nat.beq args.size r.params.size with
        | false => simp [hb] at he
        | true =>
          simp only [hb, Option.some.injEq, Prod.mk.injEq] at he
          obtain ⟨rfl, rfl⟩ := he
          rcases hr.obj l _ hg (hr.unR hl) with ⟨hd, _⟩ | ⟨c, s, o', h0, h1, h2⟩
          · cases hd
          · have hl0 : m l = some (some (l', ⟨0, 0⟩)) := by
              rcases hl with hl | hl
              · exact hl
              · rw [hl] at h0; cases h0
            rw [hl0] at h0; cases h0
            cases o' with
            | loop r' =>
              obtain ⟨_, e1, e2, e4, e5, e6, e7, e8⟩ := h2
              have hsz : args'.size = r'.params.size := by rw [ha.size, e5]; exact Nat.eq_of_beq_eq_true hb
              refine ⟨m, .round l' r'.fn ((r'.params.zip args').foldl (fun tmps (t, a) => tmps.setIfInBounds t a) r'.tmps) r'.assign r'.body, w, ?_, .refl .., hr, ⟨hl, ?_, e6, e7⟩, rfl⟩
              · show (Instr.yield l' args').run E.P w = _
                unfold Instr.yield Instr.getLoop
                rw [run_bind', run_bind', rg h1 (by simp)]
                simp only
                rw [rp]
                simp only
                rw [if_neg (by simpa using hsz)]
                rfl
              · have e1 : ∀ (ps : Array Tmp) (as ts : Array Value), (ps.zip as).foldl (fun tmps (t, a) => tmps.setIfInBounds t a) ts = ((ps.toList.zip as.toList)).foldl (fun tmps (t, a) => tmps.setIfInBounds t a) ts := by
                  intro ps as ts; rw [← Array.foldl_toList, Array.toList_zip]
                rw [e1, e1, e5]
                refine foldl_params_rel _ _ _ _ ?_ ?_ e4
                · simp; rw [show args'.size = args.size from ha.size]
                · intro i p q hp hq
                  rw [List.getElem?_zip_eq_some] at hp hq
                  obtain ⟨p1, p2⟩ := hp
                  obtain ⟨q1, q2⟩ := hq
                  rw [p1] at q1
                  refine ⟨(Option.some.inj q1).symm, ?_⟩
                  obtain ⟨v', g1, g2⟩ := VsRel.getElem? ha p2
                  rw [g1] at q2
                  cases q2; exact g2
            | _ => exact h2.elim
      | _ => simp [hg] at he
  | _ => simp at he

theorem two {a b : Value} {l : List Value} (h : VsRel m [a, b] l) : ∃ a' b', l = [a', b'] ∧ VRel m a a' ∧ VRel m b b' := by
  cases h with | cons h1 h => cases h with | cons h2 h => cases h; exact ⟨_, _, rfl, h1, h2⟩

theorem one1 {a : Value} {l : List Value} (h : VsRel m [a] l) : ∃ a', l = [a'] ∧ VRel m a a' := by
  cases h with | cons h1 h => cases h; exact ⟨_, rfl, h1⟩

theorem aBuiltin_run {P : Program} {b : Builtin} {ts : Array TypeId} {rt : TypeId} {cs : Array Bool} {args args' : Array Value} {nx : Next} {h' : AH} (hr : HRel U m h w) (ha : ArrRel m args args')
    (he : aBuiltin P b ts args h = some (nx, h')) : Res U P m h w (builtin b ts rt cs args') nx h' := by
  obtain ⟨ts⟩ := ts
  obtain ⟨args⟩ := args
  obtain ⟨args'⟩ := args'
  have ha' : VsRel m args args' := ha
  unfold aBuiltin at he
  simp only at he
  split at he
  · obtain ⟨s', x', rfl, hs, hx⟩ := two ha'
    split at he
    · rename_i hap
      simp only [Option.some.injEq, Prod.mk.injEq] at he
      obtain ⟨rfl, rfl⟩ := he
      exact .valh (aAppend_run hr hs hx hap)
    · cases he
  · obtain ⟨x', rfl, hx⟩ := one1 ha'
    split at he
    · rename_i hap
      simp only [Option.some.injEq, Prod.mk.injEq] at he
      obtain ⟨rfl, rfl⟩ := he
      obtain ⟨e1, e2⟩ := aLen_run (rt := rt) hr hx hap
      exact .val hr e1 e2
    · cases he
  · obtain ⟨s', x', rfl, hs, hx⟩ := two ha'
    split at he
    · rename_i hap
      simp only [Option.some.injEq, Prod.mk.injEq] at he
      obtain ⟨rfl, rfl⟩ := he
      exact .valh (aCopy_run hr hs hx hap)
    · cases he
  · obtain ⟨x', rfl, hx⟩ := one1 ha'
    split at he
    · rename_i hap
      simp only [Option.some.injEq, Prod.mk.injEq] at he
      obtain ⟨rfl, rfl⟩ := he
      obtain ⟨m', w', a, b, c, d⟩ := aClear_run (rt := rt) hr hx hap
      exact .valh ⟨m', _, w', a, b, c, .tuple .nil, d⟩
    · cases he
  · obtain ⟨s', x', rfl, hs, hx⟩ := two ha'
    rename_i t tail mv k
    split at he
    · rename_i hap
      simp only [Option.some.injEq, Prod.mk.injEq] at he
      obtain ⟨rfl, rfl⟩ := he
      obtain ⟨w', a, b, c, d⟩ := aDelete_run (rt := rt) (ts := ⟨t :: tail⟩) hr hs hx rfl hap
      exact .valh ⟨m, _, w', a, b, c, .tuple .nil, d⟩
    · cases he
  · split at he
    · rename_i hp
      split at he
      · rename_i hv
        simp only [Option.some.injEq, Prod.mk.injEq] at he
        obtain ⟨rfl, rfl⟩ := he
        obtain rfl := ha'.plain hp
        obtain ⟨e1, e2⟩ := pv_run hv m w
        exact .val hr e1 e2
      · cases he
    · cases he
  · split at he
    · rename_i hp
      split at he
      · rename_i hv
        simp only [Option.some.injEq, Prod.mk.injEq] at he
        obtain ⟨rfl, rfl⟩ := he
        obtain rfl := ha'.plain hp
        obtain ⟨e1, e2⟩ := pv_run hv m w
        exact .val hr e1 e2
      · cases he
    · cases he
  · cases he
end
end
end Go.AE
