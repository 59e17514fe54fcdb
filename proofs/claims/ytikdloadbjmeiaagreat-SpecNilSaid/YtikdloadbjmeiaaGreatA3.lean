import Derived.Test.YtikdloadbjmeiaaGreatA2
/- An evaluator over an abstract heap, part 3: an operation over the abstract heap and the same one over a world's memory. -/
namespace Go.AE
open Go
noncomputable section
variable {U : Un}

theorem arun_keeps {P : Program} {α : Type} (s : Sem α) : ∀ (h : AH) (a : α) (h' : AH), arun P s h = some (a, h') → h'.floor = h.floor ∧ h'.base = h.base := by
  induction s with
  | pure x => intro h a h' e; simp [arun] at e; obtain ⟨_, rfl⟩ := e; exact ⟨rfl, rfl⟩
  | load m a k ih =>
    intro h x h' e
    simp only [arun] at e
    cases hc : h.cell a with
    | none => simp [hc] at e
    | some v => simp only [hc] at e; exact ih v _ _ _ e
  | store m a v k ih =>
    intro h x h' e
    simp only [arun] at e
    cases h1 : one v <;> simp only [h1] at e <;> try (simp at e; done)
    cases h2 : Nat.ble h.floor a.block <;> simp only [h2] at e <;> try (simp at e; done)
    cases h3 : h.cell a <;> simp only [h3] at e <;> try (simp at e; done)
    have := ih _ _ _ e
    unfold AH.setCell at this
    split at this <;> exact this
  | new o k ih =>
    intro h x h' e
    simp only [arun] at e
    cases h1 : h.get h.fresh <;> simp only [h1] at e <;> try (simp at e; done)
    have := ih _ _ _ _ e
    exact this
  | getObj r k ih =>
    intro h x h' e
    simp only [arun] at e
    cases h1 : h.get r with
    | none => simp [h1] at e
    | some o => cases o <;> simp only [h1] at e <;> first | (simp at e; done) | exact ih _ _ _ _ e
  | setObj r o k ih =>
    intro h x h' e
    simp only [arun] at e
    cases h2 : Nat.ble h.floor r <;> simp only [h2] at e <;> try (simp at e; done)
    cases h1 : h.get r with
    | none => simp [h1] at e
    | some o' => cases o' <;> simp only [h1] at e <;> first | (simp at e; done) | (have := ih _ _ _ e; exact this)
  | choose q k ih =>
    intro h x h' e
    simp only [arun] at e
    cases hq : q.forced <;> simp only [hq] at e
    · simp at e
    · exact ih _ _ _ _ e
  | program k ih => intro h x h' e; exact ih _ _ _ _ e
  | mark m k ih => intro h x h' e; exact ih _ _ _ e
  | shape => intro h x h' e; simp [arun] at e
  | freeze => intro h x h' e; simp [arun] at e
  | frozen => intro h x h' e; simp [arun] at e
  | sys => intro h x h' e; simp [arun] at e
  | halt => intro h x h' e; simp [arun] at e

/-! ## Changes of the abstract heap and of the memory for which it stands -/

/-- A new block in the number b, which lies in the world's new block. -/
def Mp.new (m : Mp) (b c q : Nat) : Mp := fun x => if x = b then some (some (c, ⟨0, q⟩)) else m x

theorem Mp.new_le {m : Mp} {b c q : Nat} (h : m b = none) : Mle m (m.new b c q) := fun x y e => by
  left
  unfold Mp.new
  by_cases hx : x = b
  · subst hx; rw [h] at e; cases e
  · rw [if_neg hx]; exact e

theorem ERel.mono {m m' : Mp} : ∀ {es es' : List MapEntry}, ERel m es es' → Mle m m' → ERel m' es es'
  | [], [], h, _ => h
  | [], _ :: _, h, _ => h
  | _ :: _, [], h, _ => h
  | _ :: _, _ :: _, ⟨a, b, c, d⟩, hm => ⟨a.mono hm, b.mono hm, c, ERel.mono d hm⟩

theorem ORel.mono {m m' : Mp} {s : Sp} {o o' : Obj} (h : ORel m s o o') (hm : Mle m m') : ORel m' s o o' := by
  unfold ORel at h ⊢
  split at h
  · obtain ⟨a, r1, r2, b, c⟩ := h
    exact ⟨a, r1, r2, fun i v e => by obtain ⟨v', e', r⟩ := b i v e; exact ⟨v', e', r.mono hm⟩, c⟩
  · exact ⟨h.1, h.2.1, h.2.2.mono hm⟩
  · obtain ⟨a, b, c, d, e⟩ := h
    refine ⟨a, b, c, d, ?_⟩
    split at e <;> first | exact e | exact e.mono hm | trivial
  · exact h
  · obtain ⟨a, b, c, e, f, g, i, j⟩ := h
    exact ⟨a, b, c, e.mono hm, f, g, i, j.mono hm⟩
  · exact h
  · exact h
  · exact h

theorem HRel.new {m : Mp} {h h' : AH} {w w' : World} {b q : Nat} {o o' : Obj} (hr : HRel U m h w) (hb : h.get b = none)
    (hget : ∀ x, h'.get x = if x = b then some o else h.get x) (hw : w'.heap = w.heap.push o') (ho : ORel (m.new b w.heap.size q) ⟨0, q⟩ o o') :
    HRel U (m.new b w.heap.size q) h' w' where
  obj x y e u := by
    rw [hget] at e
    by_cases hx : x = b
    · subst hx
      rw [if_pos rfl] at e; cases e
      exact .inr ⟨w.heap.size, ⟨0, q⟩, o', by simp [Mp.new], by simp [hw], ho⟩
    · rw [if_neg hx] at e
      rcases hr.obj x y e u with ⟨rfl, h0⟩ | ⟨c, s, p, h0, h1, h2⟩
      · exact .inl ⟨rfl, by simp [Mp.new, hx, h0]⟩
      · have hlt : c < w.heap.size := (Array.getElem?_eq_some_iff.1 h1).1
        refine .inr ⟨c, s, p, by simp [Mp.new, hx, h0], ?_, h2.mono (Mp.new_le (hr.no _ hb))⟩
        rw [hw, Array.getElem?_push_lt hlt, ← h1, Array.getElem?_eq_getElem hlt]
  res x y u := by
    have hx : x ≠ b := fun hx => by subst hx; rw [hr.un' hb] at u; cases u
    have := hr.res x y u
    exact ⟨by rw [hget, if_neg hx]; exact this.1, by unfold Mp.new; rw [if_neg hx]; exact this.2⟩
  no x e := by
    rw [hget] at e
    by_cases hx : x = b
    · rw [if_pos hx] at e; cases e
    · rw [if_neg hx] at e; simp [Mp.new, hx, hr.no x e]
  inj x y c s s' e e' := by
    have hlt : ∀ z c s, m z = some (some (c, s)) → c < w.heap.size := by
      intro z c s hz
      cases hg : h.get z with
      | none => rw [hr.no z hg] at hz; cases hz
      | some q =>
        rcases hr.obj z q hg (hr.un hz) with ⟨_, h0⟩ | ⟨c', s', p, h0, h1, _⟩
        · rw [h0] at hz; cases hz
        · rw [h0] at hz; cases hz; exact (Array.getElem?_eq_some_iff.1 h1).1
    unfold Mp.new at e e'
    by_cases hx : x = b <;> by_cases hy : y = b
    · rw [hx, hy]
    · rw [if_pos hx] at e; rw [if_neg hy] at e'
      cases e; exact absurd (hlt _ _ _ e') (Nat.lt_irrefl _)
    · rw [if_neg hx] at e; rw [if_pos hy] at e'
      cases e'; exact absurd (hlt _ _ _ e) (Nat.lt_irrefl _)
    · rw [if_neg hx] at e; rw [if_neg hy] at e'
      exact hr.inj x y c s s' e e'

theorem Ext.new {m : Mp} {h : AH} {w w' : World} {b q fl : Nat} {o' : Obj} (hr : HRel U m h w) (hb : h.get b = none) (hw : w'.heap = w.heap.push o') (hos : w'.os = w.os := by rfl) (hou : w'.output = w.output := by rfl) :
    Ext m w fl (m.new b w.heap.size q) w' where
  os := hos
  out := hou
  le := Mp.new_le (hr.no _ hb)
  size := by simp [hw]
  keep c hc _ := by rw [hw, Array.getElem?_push_lt hc, Array.getElem?_eq_getElem hc]
  old x c s e hc := by
    unfold Mp.new at e
    by_cases hx : x = b
    · rw [if_pos hx] at e; cases e; omega
    · rw [if_neg hx] at e; exact .inl e

/-- A block that is changed where it lies. -/
theorem HRel.change {m : Mp} {h h' : AH} {w w' : World} {b c : Nat} {s : Sp} {o o' : Obj} (hr : HRel U m h w) (hm : m b = some (some (c, s)))
    (hget : ∀ x, h'.get x = if x = b then some o else h.get x) (hc : w'.heap[c]? = some o') (ho : ORel m s o o') (hw : ∀ c', c' ≠ c → w'.heap[c']? = w.heap[c']?) :
    HRel U m h' w' where
  res x y u := by
    have hx : x ≠ b := fun hx => by subst hx; rw [hr.un hm] at u; cases u
    rw [hget, if_neg hx]
    exact hr.res x y u
  obj x y e u := by
    rw [hget] at e
    by_cases hx : x = b
    · subst hx
      rw [if_pos rfl] at e; cases e
      exact .inr ⟨c, s, o', hm, hc, ho⟩
    · rw [if_neg hx] at e
      rcases hr.obj x y e u with h0 | ⟨c1, s1, p, h0, h1, h2⟩
      · exact .inl h0
      · refine .inr ⟨c1, s1, p, h0, ?_, h2⟩
        rw [hw c1 (fun he => hx (hr.inj _ _ _ _ _ (he ▸ h0) hm))]
        exact h1
  no x e := by
    rw [hget] at e
    by_cases hx : x = b
    · rw [if_pos hx] at e; cases e
    · rw [if_neg hx] at e; exact hr.no x e
  inj := hr.inj

theorem Ext.change {m : Mp} {w w' : World} {b c fl : Nat} {s : Sp} (hm : m b = some (some (c, s))) (hf : fl ≤ b) (hs : w'.heap.size = w.heap.size)
    (hw : ∀ c', c' ≠ c → w'.heap[c']? = w.heap[c']?) (hos : w'.os = w.os := by rfl) (hou : w'.output = w.output := by rfl) : Ext m w fl m w' where
  os := hos
  out := hou
  le := .refl m
  size := Nat.le_of_eq hs.symm
  keep x _ hb := hw x fun he => by have := hb b s (he ▸ hm); omega
  old _ _ _ e _ := .inl e

/-- A change of nothing but counts. -/
theorem HRel.same {m : Mp} {h h' : AH} {w w' : World} (hr : HRel U m h w) (hget : ∀ x, h'.get x = h.get x) (hw : w'.heap = w.heap) : HRel U m h' w' where
  obj x y e u := by rw [hget] at e; rw [hw]; exact hr.obj x y e u
  res x y u := by rw [hget]; exact hr.res x y u
  no x e := by rw [hget] at e; exact hr.no x e
  inj := hr.inj

theorem Ext.same {m : Mp} {w w' : World} {fl : Nat} (hw : w'.heap = w.heap) (hos : w'.os = w.os := by rfl) (hou : w'.output = w.output := by rfl) : Ext m w fl m w' :=
  ⟨.refl m, by rw [hw]; exact Nat.le_refl _, fun _ _ _ => by rw [hw], fun _ _ _ e _ => .inl e, hos, hou⟩

/-! ## What it is that one operation stands for another one -/

def Sim (U : Un) (P : Program) {α β : Type} (m : Mp) (h : AH) (w : World) (s : Sem α) (s' : Sem β) (R : Mp → α → β → Prop) : Prop :=
  ∀ a h', arun P s h = some (a, h') → ∃ m' b w', s'.run P w = .ok b w' ∧ Ext m w h.floor m' w' ∧ HRel U m' h' w' ∧ R m' a b

section
variable {P : Program} {α β γ δ : Type} {m : Mp} {h : AH} {w : World}

theorem Sim.pure {a : α} {b : β} {R : Mp → α → β → Prop} (hr : HRel U m h w) (hR : R m a b) : Sim U P m h w (Pure.pure a) (Pure.pure b) R := by
  intro x h' e
  have : some (a, h) = some (x, h') := e
  cases this
  exact ⟨m, b, w, rfl, .refl .., hr, hR⟩

theorem Sim.mono {s : Sem α} {s' : Sem β} {R R' : Mp → α → β → Prop} (hs : Sim U P m h w s s' R) (hR : ∀ m' a b, Mle m m' → R m' a b → R' m' a b) : Sim U P m h w s s' R' := by
  intro a h' e
  obtain ⟨m', b, w', h1, h2, h3, h4⟩ := hs a h' e
  exact ⟨m', b, w', h1, h2, h3, hR _ _ _ h2.le h4⟩

theorem run_bind' (s : Sem α) (f : α → Sem β) (w : World) : (s >>= f).run P w = match s.run P w with
    | .ok a w' => (f a).run P w'
    | .halt x w' => .halt x w' := by
  show (Sem.bind s f).run P w = _
  induction s generalizing w with
  | pure a => rfl
  | load m a k ih =>
    simp only [Sem.bind, Sem.run]
    split
    · exact ih _ _
    · split
      · exact ih _ _
      · rfl
  | store m a v k ih =>
    cases v <;> simp only [Sem.bind, Sem.run] <;> first
      | rfl
      | (split
         · split
           · rfl
           · exact ih _
         · split
           · exact ih _
           · rfl)
  | new o k ih => simp only [Sem.bind, Sem.run]; exact ih _ _
  | shape r k ih => simp only [Sem.bind, Sem.run]; exact ih _ _
  | freeze a n k ih => simp only [Sem.bind, Sem.run]; exact ih _
  | frozen a k ih => simp only [Sem.bind, Sem.run]; exact ih _ _
  | getObj r k ih =>
    simp only [Sem.bind, Sem.run]
    split <;> first | rfl | exact ih _ _
  | setObj r o k ih =>
    simp only [Sem.bind, Sem.run]
    split <;> first | rfl | exact ih _
  | choose q k ih =>
    simp only [Sem.bind, Sem.run]
    split <;> exact ih _ _
  | sys c k ih => simp only [Sem.bind, Sem.run]; exact ih _ _
  | program k ih => simp only [Sem.bind, Sem.run]; exact ih _ _
  | mark _ k ih => simp only [Sem.bind, Sem.run]; exact ih _
  | halt x => rfl

theorem Sim.bind {s : Sem α} {s' : Sem β} {f : α → Sem γ} {f' : β → Sem δ} {R : Mp → α → β → Prop} {R' : Mp → γ → δ → Prop} (hs : Sim U P m h w s s' R)
    (hf : ∀ m1 a b h1 w1, Ext m w h.floor m1 w1 → HRel U m1 h1 w1 → R m1 a b → Sim U P m1 h1 w1 (f a) (f' b) R') : Sim U P m h w (s >>= f) (s' >>= f') R' := by
  intro c h2 e
  rw [arun_bind] at e
  cases h1 : arun P s h with
  | none => simp [h1] at e
  | some x =>
    obtain ⟨a, hh⟩ := x
    simp only [h1] at e
    obtain ⟨m1, b, w1, r1, x1, y1, z1⟩ := hs a hh h1
    obtain ⟨m2, d, w2, r2, x2, y2, z2⟩ := hf m1 a b hh w1 x1 y1 z1 c h2 e
    rw [(arun_keeps s h a hh h1).1] at x2
    exact ⟨m2, d, w2, by rw [run_bind', r1]; exact r2, x1.trans x2, y2, z2⟩

/-- An operation that touches no memory is the same on both sides. -/
theorem Sim.calm {s : Sem α} {R : Mp → α → α → Prop} (hr : HRel U m h w) (hs : ∀ a h', arun P s h = some (a, h') → h' = h ∧ prun P s = some a) (hR : ∀ a, prun P s = some a → R m a a) : Sim U P m h w s s R := by
  intro a h' e
  obtain ⟨rfl, hp⟩ := hs a h' e
  exact ⟨m, a, w, prun_run hp w, .refl .., hr, hR a hp⟩

theorem Sim.halt {x : Halt} {s' : Sem β} {R : Mp → α → β → Prop} : Sim U P m h w (Sem.halt x) s' R := by
  intro a h' e; simp [arun] at e

theorem Sim.program {f : Program → Sem α} {f' : Program → Sem β} {R : Mp → α → β → Prop} (hf : Sim U P m h w (f P) (f' P) R) : Sim U P m h w (Go.program >>= f) (Go.program >>= f') R := by
  intro a h' e
  exact hf a h' e

theorem Sim.underlying {t : TypeId} {f : TypeDesc → Sem α} {f' : TypeDesc → Sem β} {R : Mp → α → β → Prop} (hf : ∀ d, P.underlying t = some d → Sim U P m h w (f d) (f' d) R) :
    Sim U P m h w (Go.underlying t >>= f) (Go.underlying t >>= f') R := by
  intro a h' e
  have e1 : arun P (Go.underlying t >>= f) h = match P.underlying t with | some d => arun P (f d) h | none => none := by
    show arun P (Go.program >>= _ >>= f) h = _
    cases hu : P.underlying t with
    | none => rw [arun_bind]; simp [Go.program, arun, Bind.bind, Sem.bind, hu, stuck]
    | some d => rw [arun_bind]; simp [Go.program, arun, Bind.bind, Sem.bind, hu, Pure.pure]
  rw [e1] at e
  cases hu : P.underlying t with
  | none => simp [hu] at e
  | some d =>
    simp only [hu] at e
    obtain ⟨m', b, w', h1, h2⟩ := hf d hu a h' e
    refine ⟨m', b, w', ?_, h2⟩
    rw [run_bind']
    have : (Go.underlying t).run P w = .ok d w := by simp [Go.underlying, Go.program, Sem.run, Bind.bind, Sem.bind, hu, Pure.pure]
    rw [this]; exact h1

theorem Sim.typeInfo {t : TypeId} {f : TypeInfo → Sem α} {f' : TypeInfo → Sem β} {R : Mp → α → β → Prop} (hf : ∀ d, P.info? t = some d → Sim U P m h w (f d) (f' d) R) :
    Sim U P m h w (Go.typeInfo t >>= f) (Go.typeInfo t >>= f') R := by
  intro a h' e
  have e1 : arun P (Go.typeInfo t >>= f) h = match P.info? t with | some d => arun P (f d) h | none => none := by
    cases hu : P.info? t with
    | none => rw [arun_bind]; simp [Go.typeInfo, Go.program, arun, Bind.bind, Sem.bind, hu, stuck]
    | some d => rw [arun_bind]; simp [Go.typeInfo, Go.program, arun, Bind.bind, Sem.bind, hu, Pure.pure]
  rw [e1] at e
  cases hu : P.info? t with
  | none => simp [hu] at e
  | some d =>
    simp only [hu] at e
    obtain ⟨m', b, w', h1, h2⟩ := hf d hu a h' e
    refine ⟨m', b, w', ?_, h2⟩
    rw [run_bind']
    have : (Go.typeInfo t).run P w = .ok d w := by simp [Go.typeInfo, Go.program, Sem.run, Bind.bind, Sem.bind, hu, Pure.pure]
    rw [this]; exact h1
end
end
end Go.AE
