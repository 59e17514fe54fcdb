import Derived.Test.YtikdloadbjmeiaaGreatA17
/- An evaluator over an abstract heap, part 18: an operation that is answered is carried out. -/
namespace Go.AE
open Go
noncomputable section
variable {U : Un}

section
variable {E : Env} {m : Mp} {h : AH} {w : World}

theorem Res.vx {P : Program} {s : Sem Value} {x : Value} (hr : HRel U m h w) (h1 : ∃ x', s.run P w = .ok x' w ∧ VRel m x x') : Res U P m h w (do pure (.value (← s))) (.value x) h := by
  obtain ⟨x', a, b⟩ := h1
  exact .val hr a b

theorem skiph_some {r : Option (Unit × AH)} {h' : AH} {nx : Next} (he : AE.skiph r = some (nx, h')) : r = some ((), h') ∧ nx = .skip := by
  unfold AE.skiph at he
  cases r with
  | none => cases he
  | some v => obtain ⟨⟨⟩, h2⟩ := v; simp only [Option.some.injEq, Prod.mk.injEq] at he; obtain ⟨rfl, rfl⟩ := he; exact ⟨rfl, rfl⟩

theorem aCall_run (hE : EnvOK E) {ρ ρ' : Operand → Value} {c : Call} {t : TypeId} {nx : Next} {h' : AH} (hr : HRel U m h w) (hρ : ∀ x, VRel m (ρ x) (ρ' x)) (he : aCall E ρ c h = some (nx, h')) :
    Res U E.P m h w (do let d ← resolve ρ' c t; invoke d.target d.args) nx h' := by
  unfold aCall at he
  unfold resolve
  cases hc : c.callee with
  | builtin b =>
    simp only [hc] at he ⊢
    exact aBuiltin_run hr (ArrRel.map hρ c.args) he
  | invoke r n => simp [hc] at he
  | value f =>
    simp only [hc] at he ⊢
    have hf := hρ f
    generalize ρ f = v at he hf
    cases v <;> simp only at he <;> try (cases he; done)
    generalize ρ' f = v' at hf ⊢
    cases hf with
    | func hfn hfirst hcap => exact aInvoke_run hE hr hfn hcap (ArrRel.append hfirst (ArrRel.map hρ c.args)) he

theorem aop_run (hE : EnvOK E) {o : Oper} {ρ ρ' : Operand → Value} {nx : Next} {h' : AH} (hr : HRel U m h w) (hρ : ∀ x, VRel m (ρ x) (ρ' x)) (he : aop E o ρ h = some (nx, h')) :
    Res U E.P m h w (execOp ρ' o) nx h' := by
  obtain ⟨dst, op, type, pos, after, guard⟩ := o
  unfold aop at he
  unfold execOp
  cases op <;> simp only at he ⊢ <;> try (cases he; done)
  case move x => simp only [Option.some.injEq, Prod.mk.injEq] at he; obtain ⟨rfl, rfl⟩ := he; exact ⟨m, _, w, rfl, .refl .., hr, hρ x, rfl⟩
  case assign x => simp only [Option.some.injEq, Prod.mk.injEq] at he; obtain ⟨rfl, rfl⟩ := he; exact ⟨m, _, w, rfl, .refl .., hr, hρ x, rfl⟩
  case pick c a b =>
    have hc := hρ c
    generalize ρ c = v at he hc
    cases v <;> simp only at he <;> try (cases he; done)
    generalize ρ' c = v' at hc
    cases hc with
    | bool =>
      rename_i t
      simp only [Option.some.injEq, Prod.mk.injEq] at he; obtain ⟨rfl, rfl⟩ := he
      cases t
      · exact ⟨m, _, w, rfl, .refl .., hr, hρ b, rfl⟩
      · exact ⟨m, _, w, rfl, .refl .., hr, hρ a, rfl⟩
  case alloc t =>
    cases hz : zok E.P t with
    | false => simp [hz] at he
    | true =>
      simp only [hz] at he
      obtain ⟨v, e1, rfl⟩ := valh_some he
      exact .sim (sim_alloc hr hz) e1
  case box t x => obtain ⟨v, e1, rfl⟩ := valh_some he; exact .sim (sim_box hr t (hρ x)) e1
  case build t ps => obtain ⟨v, e1, rfl, rfl⟩ := val_some he; exact .vx hr (aBuild_run (PsRel.map hρ ps) e1 w)
  case buildSlice t n ps => obtain ⟨v, e1, rfl⟩ := valh_some he; exact .valh (aBuildSlice_run hr (PsRel.map hρ ps) e1)
  case load t a => obtain ⟨v, e1, rfl⟩ := valh_some he; exact .sim (sim_loadAt hr t (hρ a)) e1
  case store t a x =>
    obtain ⟨e1, rfl⟩ := skiph_some he
    obtain ⟨m', _, w', a, b, c, d⟩ := sim_storeAt hr t (hρ _) (hρ _) _ _ e1
    exact ⟨m', .skip, w', by rw [run_bind', a]; rfl, b, c, trivial, (arun_keeps _ _ _ _ e1).1⟩
  case nilCheck x =>
    obtain ⟨v, e1, rfl, rfl⟩ := val_some he
    have hx := hρ x
    generalize ρ x = y at e1 hx
    unfold aNil at e1
    split at e1
    · cases e1
      generalize ρ' x = y' at hx ⊢
      cases hx with
      | ptr ha => exact ⟨m, _, w, rfl, .refl .., hr, .ptr ha, rfl⟩
    · cases e1
      generalize ρ' x = y' at hx ⊢
      cases hx with
      | func h1 h2 h3 => cases h1; exact ⟨m, _, w, rfl, .refl .., hr, .func rfl h2 h3, rfl⟩
    · cases e1
      generalize ρ' x = y' at hx ⊢
      cases hx with
      | func h1 h2 h3 =>
        obtain ⟨l', rfl, hl⟩ := h1
        exact ⟨m, _, w, rfl, .refl .., hr, .func ⟨l', rfl, hl⟩ h2 h3, rfl⟩
    · cases e1
  case binOp op t x y _ =>
    obtain ⟨v, e1, rfl, rfl⟩ := val_some he
    obtain ⟨a, b⟩ := aBin_run (hρ x) (hρ y) e1 w
    exact .val hr a b
  case unOp op t x =>
    cases hp : plain (ρ x) with
    | false => simp [hp] at he
    | true =>
      simp only [hp] at he
      obtain ⟨v, e1, rfl, rfl⟩ := val_some he
      have := hρ x
      rw [this.plain hp]
      obtain ⟨a, b⟩ := pv_run e1 m w
      exact .val hr a b
  case convert s d x =>
    cases hp : plain (ρ x) with
    | false => simp [hp] at he
    | true =>
      simp only [hp] at he
      obtain ⟨v, e1, rfl, rfl⟩ := val_some he
      have := hρ x
      rw [this.plain hp]
      obtain ⟨a, b⟩ := pv_run e1 m w
      exact .val hr a b
  case makeInterface t x => obtain ⟨v, e1, rfl, rfl⟩ := val_some he; exact .vx hr (aIface_run (hρ x) e1 w)
  case makeFunc fn first cap =>
    cases fn <;> simp only at he <;> try (cases he; done)
    simp only [Option.some.injEq, Prod.mk.injEq] at he; obtain ⟨rfl, rfl⟩ := he
    exact ⟨m, _, w, rfl, .refl .., hr, .func rfl (ArrRel.map hρ first) (ArrRel.map hρ cap), rfl⟩
  case makeMap t r => obtain ⟨v, e1, rfl⟩ := valh_some he; exact .valh (aMakeMap_run hr (OptRel.map hρ r) e1)
  case makeSlice t l c => obtain ⟨v, e1, rfl⟩ := valh_some he; exact .valh (aMake_run hr (hρ l) (hρ c) e1)
  case slice t x lo hi mx => obtain ⟨v, e1, rfl, rfl⟩ := val_some he; exact .vx hr (aSlice_run (hρ x) (OptRel.map hρ lo) (OptRel.map hρ hi) (OptRel.map hρ mx) e1 w)
  case fieldAddr s x f => obtain ⟨v, e1, rfl, rfl⟩ := val_some he; exact .vx hr (aFieldAt_run (hρ x) e1 w)
  case field t x f => obtain ⟨v, e1, rfl, rfl⟩ := val_some he; exact .vx hr (aField_run (hρ x) e1 w)
  case indexAddr t x i => obtain ⟨v, e1, rfl, rfl⟩ := val_some he; exact .vx hr (aIndexAt_run (hρ x) (hρ i) e1 w)
  case index t x i => obtain ⟨v, e1, rfl, rfl⟩ := val_some he; exact .vx hr (aIndex_run (hρ x) (hρ i) e1 w)
  case lookup t x i ok => obtain ⟨v, e1, rfl, rfl⟩ := val_some he; exact .vx hr (aLookup_run hr (hρ x) (hρ i) e1)
  case mapUpdate t mp k x =>
    cases hu : aMapUpdate E.P t (ρ mp) (ρ k) (ρ x) h with
    | none => simp [hu] at he
    | some h2 =>
      simp only [hu, Option.some.injEq, Prod.mk.injEq] at he
      obtain ⟨rfl, rfl⟩ := he
      obtain ⟨w', a, b, c, d⟩ := aMapUpdate_run hr (hρ mp) (hρ k) (hρ x) hu
      exact ⟨m, .skip, w', by rw [run_bind', a]; rfl, b, c, trivial, d⟩
  case insert t mp k x =>
    cases hu : aMapUpdate E.P t (ρ mp) (ρ k) (ρ x) h with
    | none => simp [hu] at he
    | some h2 =>
      simp only [hu, Option.some.injEq, Prod.mk.injEq] at he
      obtain ⟨rfl, rfl⟩ := he
      obtain ⟨w', a, b, c, d⟩ := aMapUpdate_run hr (hρ mp) (hρ k) (hρ x) hu
      exact ⟨m, .skip, w', by rw [run_bind', a]; rfl, b, c, trivial, d⟩
  case typeAssert x xt t ok => obtain ⟨v, e1, rfl, rfl⟩ := val_some he; exact .vx hr (aAssert_run (hρ x) e1 w)
  case extract x i => obtain ⟨v, e1, rfl, rfl⟩ := val_some he; exact .vx hr (aExtract_run (hρ x) e1 w)
  case call c => exact aCall_run hE hr hρ he
  case defer c =>
    cases hc : c.callee with
    | builtin b => simp [hc] at he
    | invoke r n => simp [hc] at he
    | value f =>
      simp only [hc] at he
      have hf := hρ f
      generalize hv : ρ f = v at he hf
      cases v <;> simp only at he <;> try (cases he; done)
      simp only [Option.some.injEq, Prod.mk.injEq] at he; obtain ⟨rfl, rfl⟩ := he
      generalize hv' : ρ' f = v' at hf
      cases hf with
      | func hfn hfirst hcap =>
        rename_i fn' _ _ first' cap'
        refine ⟨m, .defer { target := .fn fn' ⟨cap'⟩, args := ⟨first'⟩ ++ c.args.map ρ' }, w, ?_, .refl .., hr, ⟨⟨hfn, hcap⟩, ArrRel.append hfirst (ArrRel.map hρ c.args)⟩, rfl⟩
        unfold resolve
        simp only [hc, hv']
        rfl
end
end
end Go.AE
