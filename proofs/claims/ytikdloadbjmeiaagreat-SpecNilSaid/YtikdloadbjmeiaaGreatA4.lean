import Derived.Test.YtikdloadbjmeiaaGreatA3
/- An evaluator over an abstract heap, part 4: loads, stores, new blocks; variables of several cells. -/
namespace Go.AE
open Go
noncomputable section
variable {U : Un}

theorem VRel.agg' {m : Mp} {xs xs' : Array Value} (h : VsRel m xs.toList xs'.toList) : VRel m (.agg xs) (.agg xs') := .agg h
theorem VRel.tuple' {m : Mp} {xs xs' : Array Value} (h : VsRel m xs.toList xs'.toList) : VRel m (.tuple xs) (.tuple xs') := .tuple h
theorem VRel.agg_inv {m : Mp} {xs : Array Value} {v' : Value} (h : VRel m (.agg xs) v') : ∃ xs', v' = .agg xs' ∧ VsRel m xs.toList xs'.toList := by
  cases h with | agg h => exact ⟨_, rfl, h⟩
theorem VRel.tuple_inv {m : Mp} {xs : Array Value} {v' : Value} (h : VRel m (.tuple xs) v') : ∃ xs', v' = .tuple xs' ∧ VsRel m xs.toList xs'.toList := by
  cases h with | tuple h => exact ⟨_, rfl, h⟩

theorem VsRel.one {m : Mp} {v v' : Value} (h : VRel m v v') : VsRel m [v] [v'] := .cons h .nil

theorem VRel.cells {m : Mp} {v v' : Value} (h : VRel m v v') : VsRel m v.cells.toList v'.cells.toList := by
  cases h <;> simp only [Value.cells] <;> first
    | assumption
    | exact .one .ptrNil | exact .one .sliceNil | exact .one .mapNil | exact .one .nilFunc | exact .one .nilIface
    | exact .one (.bool _) | exact .one (.int _ _) | exact .one (.float _ _) | exact .one (.complex _ _ _) | exact .one (.string _)
    | exact .one (.ptr ‹_›) | exact .one (.map ‹_›) | exact .one (.iface _ ‹_›) | exact .one (.slice ‹_› ‹_›) | exact .one (.sliceEmpty ‹_› ‹_›)
    | exact .one (.func ‹_› ‹_› ‹_›) | exact .one (.tuple ‹_›)

theorem VRel.one {m : Mp} {v v' : Value} (h : VRel m v v') (ho : one v = true) : one v' = true := by
  cases h <;> first | rfl | (simp [AE.one] at ho)

theorem VsRel.size {m : Mp} {xs xs' : Array Value} (h : VsRel m xs.toList xs'.toList) : xs'.size = xs.size := by
  have := h.length; simpa using this

section
variable {P : Program} {α β : Type} {m : Mp} {h : AH} {w : World} {R : Mp → α → β → Prop}

theorem HRel.cells (hr : HRel U m h w) {b : Nat} {C : Array Value} {e : TypeId} {f : Nat × Nat} (hg : h.get b = some (.cells C e f)) {x0 : Option (Nat × Sp)} (hm0 : m b = some x0) :
    ∃ c s C' e' lo hi, m b = some (some (c, s)) ∧ w.heap[c]? = some (.cells C' e' (lo, hi)) ∧ f = (0, 0) ∧ C.size ≤ s.room ∧ s.off + s.room ≤ C'.size ∧
      (∀ i v, C[i]? = some v → ∃ v', C'[s.off + i]? = some v' ∧ VRel m v v') ∧ (∀ i, i < s.room → ¬ (lo ≤ s.off + i ∧ s.off + i < hi)) := by
  rcases hr.obj b _ hg (hr.un hm0) with ⟨hd, _⟩ | ⟨c, s, o', h0, h1, h2⟩
  · cases hd
  · cases o' with
    | cells C' e' fr =>
      obtain ⟨lo, hi⟩ := fr
      exact ⟨c, s, C', e', lo, hi, h0, h1, h2⟩
    | _ => exact h2.elim

theorem HRel.cell (hr : HRel U m h w) {a a' : Addr} (ha : AddrRel m a a') {v : Value} (hc : h.cell a = some v) :
    ∃ v', w.cell? a' = some v' ∧ VRel m v v' ∧ w.frozen? a' = false := by
  unfold AH.cell at hc
  cases ha with
  | live hm =>
    rename_i b c o s
    simp only at hc
    cases hg : h.get b with
    | none => simp [hg] at hc
    | some ob =>
      cases ob with
      | cells C e f =>
        simp only [hg] at hc
        obtain ⟨c', s', C', e', lo, hi, h0, h1, _, q1, q2, h3, h4⟩ := hr.cells hg hm
        rw [hm] at h0; cases h0
        obtain ⟨v', hv', r⟩ := h3 o v hc
        have hlt : o < C.size := (Array.getElem?_eq_some_iff.1 hc).1
        refine ⟨v', by simp [World.cell?, h1, hv'], r, ?_⟩
        have := h4 o (Nat.lt_of_lt_of_le hlt q1)
        simp only [World.frozen?, h1]
        simpa using this
      | _ => simp [hg] at hc
  | dead hm =>
    rename_i b o
    simp only at hc
    cases hg : h.get b with
    | none => simp [hg] at hc
    | some ob =>
      cases ob with
      | cells C e f =>
        obtain ⟨c', s', C', e', lo, hi, h0, h1, _, q1, q2, h3, h4⟩ := hr.cells hg hm
        rw [hm] at h0; cases h0
      | _ => simp [hg] at hc

theorem Sim.load (hr : HRel U m h w) {a a' : Addr} (ha : AddrRel m a a') {md : Mode} {f : Value → Sem α} {f' : Value → Sem β}
    (hf : ∀ v v', VRel m v v' → h.cell a = some v → Sim U P m h w (f v) (f' v') R) : Sim U P m h w (Go.load a md >>= f) (Go.load a' md >>= f') R := by
  intro x h' e
  rw [arun_bind] at e
  simp only [Go.load, arun] at e
  cases hc : h.cell a with
  | none => simp [hc] at e
  | some v =>
    simp only [hc] at e
    obtain ⟨v', hv', r, _⟩ := hr.cell ha hc
    obtain ⟨m', b, w', h1, h2⟩ := hf v v' r hc x h' e
    refine ⟨m', b, w', ?_, h2⟩
    rw [run_bind']
    have : (Go.load a' md).run P w = .ok v' w := by simp [Go.load, Sem.run, hv']
    rw [this]; exact h1

theorem AH.get_setCell {h : AH} {a : Addr} {v : Value} {C : Array Value} {e : TypeId} {f : Nat × Nat} (hg : h.get a.block = some (.cells C e f)) (x : Nat) :
    (h.setCell a v).get x = if x = a.block then some (.cells (C.setIfInBounds a.off v) e f) else h.get x := by
  unfold AH.setCell
  simp only [hg]
  exact AH.get_put ..

theorem HRel.store (hr : HRel U m h w) {a a' : Addr} (ha : AddrRel m a a') {v v' u : Value} (hv : VRel m v v') (hc : h.cell a = some u) (hf : h.floor ≤ a.block) :
    HRel U m (h.setCell a v) (w.setCell a' v') ∧ Ext m w h.floor m (w.setCell a' v') := by
  unfold AH.cell at hc
  cases ha with
  | dead hm =>
    rename_i b o
    simp only at hc
    cases hg : h.get b with
    | none => simp [hg] at hc
    | some ob =>
      cases ob with
      | cells C e f =>
        obtain ⟨c', s', C', e', lo, hi, h0, h1, _, q1, q2, h3, h4⟩ := hr.cells hg hm
        rw [hm] at h0; cases h0
      | _ => simp [hg] at hc
  | live hm =>
    rename_i b c o s
    simp only at hc
    cases hg : h.get b with
    | none => simp [hg] at hc
    | some ob =>
      cases ob with
      | cells C e f =>
        simp only [hg] at hc
        obtain ⟨c', s', C', e', lo, hi, h0, h1, hfr, q1, q2, h3, h4⟩ := hr.cells hg hm
        rw [hm] at h0; cases h0
        have hlt : o < C.size := (Array.getElem?_eq_some_iff.1 hc).1
        have hcl : c < w.heap.size := (Array.getElem?_eq_some_iff.1 h1).1
        have hthere : (w.setCell ⟨c, s.off + o, none⟩ v').heap[c]? = some (.cells (C'.setIfInBounds (s.off + o) v') e' (lo, hi)) := by
          simp [World.setCell, Array.getElem?_modify, h1]
        have hother : ∀ c', c' ≠ c → (w.setCell ⟨c, s.off + o, none⟩ v').heap[c']? = w.heap[c']? := by
          intro c' hne
          simp only [World.setCell, Array.getElem?_modify]
          rw [if_neg (fun e => hne e.symm)]
        refine ⟨hr.change hm (AH.get_setCell hg) hthere ⟨hfr, by simpa using q1, by simpa using q2, ?_, ?_⟩ hother, Ext.change hm hf (by simp [World.setCell]) hother⟩
        · intro i x hx
          rw [Array.getElem?_setIfInBounds] at hx
          rw [Array.getElem?_setIfInBounds]
          by_cases hi : o = i
          · subst hi
            simp only [if_true, hlt] at hx; cases hx
            obtain ⟨y, hy, _⟩ := h3 o u hc
            have : s.off + o < C'.size := (Array.getElem?_eq_some_iff.1 hy).1
            exact ⟨v', by simp [this], hv⟩
          · rw [if_neg hi] at hx
            rw [if_neg (by omega)]
            exact h3 i x hx
        · intro i hi
          exact h4 i hi
      | _ => simp [hg] at hc

theorem Sim.store (hr : HRel U m h w) {a a' : Addr} (ha : AddrRel m a a') {v v' : Value} (hv : VRel m v v') {md : Mode} {f : Unit → Sem α} {f' : Unit → Sem β}
    (hf : ∀ h1 w1, Ext m w h.floor m w1 → HRel U m h1 w1 → h1.floor = h.floor → Sim U P m h1 w1 (f ()) (f' ()) R) : Sim U P m h w (Go.store a v md >>= f) (Go.store a' v' md >>= f') R := by
  intro x h' e
  rw [arun_bind] at e
  simp only [Go.store, arun] at e
  cases h1 : AE.one v <;> simp only [h1] at e <;> try (simp at e; done)
  cases h2 : Nat.ble h.floor a.block <;> simp only [h2] at e <;> try (simp at e; done)
  cases h3 : h.cell a <;> simp only [h3] at e <;> try (simp at e; done)
  rename_i u
  obtain ⟨g1, g2⟩ := hr.store ha hv h3 (Nat.le_of_ble_eq_true h2)
  have hfl : (h.setCell a v).floor = h.floor := by unfold AH.setCell; split <;> rfl
  obtain ⟨m', b, w', r1, r2, r3, r4⟩ := hf _ _ g2 g1 hfl x h' e
  rw [hfl] at r2
  refine ⟨m', b, w', ?_, g2.trans r2, r3, r4⟩
  rw [run_bind']
  obtain ⟨u', hu', _, hfz⟩ := hr.cell ha h3
  have ho := hv.one h1
  have : (Go.store a' v' md).run P w = .ok () (w.setCell a' v') := by
    cases v' <;> simp [AE.one] at ho <;> simp [Go.store, Sem.run, hu', hfz]
  rw [this]; exact r1

theorem Sim.newObj (hr : HRel U m h w) {o o' : Obj} {q : Nat} (ho : ∀ m', Mle m m' → ORel m' ⟨0, q⟩ o o') {f : Nat → Sem α} {f' : Nat → Sem β}
    (hf : ∀ m1 h1 w1 b c, Ext m w h.floor m1 w1 → HRel U m1 h1 w1 → h1.floor = h.floor → m1 b = some (some (c, ⟨0, q⟩)) → Sim U P m1 h1 w1 (f b) (f' c) R) :
    Sim U P m h w (Go.newObj o >>= f) (Go.newObj o' >>= f') R := by
  intro x h' e
  rw [arun_bind] at e
  simp only [Go.newObj, arun] at e
  cases h1 : h.get h.fresh <;> simp only [h1] at e <;> try (simp at e; done)
  have hg : ∀ y, ({ h.put h.fresh o with fresh := h.fresh + 1 } : AH).get y = if y = h.fresh then some o else h.get y := fun y => AH.get_put h h.fresh y o
  have e1 : Ext m w h.floor (m.new h.fresh w.heap.size q) { w with heap := w.heap.push o' } := Ext.new hr h1 rfl
  have r1 := hr.new (w' := { w with heap := w.heap.push o' }) h1 hg rfl (ho _ e1.le)
  obtain ⟨m', b, w', g1, g2, g3, g4⟩ := hf _ _ _ h.fresh w.heap.size e1 r1 rfl (by simp [Mp.new]) x h' e
  refine ⟨m', b, w', ?_, e1.trans g2, g3, g4⟩
  rw [run_bind']
  exact g1

theorem Sim.getObj (hr : HRel U m h w) {r r' : Nat} (ha : RefRel m r r') {f : Obj → Sem α} {f' : Obj → Sem β}
    (hf : ∀ o o', h.get r = some o → m r = some (some (r', ⟨0, 0⟩)) → ORel m ⟨0, 0⟩ o o' → w.heap[r']? = some o' → Sim U P m h w (f o) (f' o') R) : Sim U P m h w (Go.getObj r >>= f) (Go.getObj r' >>= f') R := by
  intro x h' e
  rw [arun_bind] at e
  simp only [Go.getObj, arun] at e
  cases hg : h.get r with
  | none => simp [hg] at e
  | some o =>
    rcases hr.obj r o hg (hr.unR ha) with ⟨rfl, _⟩ | ⟨c, s, o', h0, h1, h2⟩
    · simp [hg, dead] at e
    · have ha' : m r = some (some (r', ⟨0, 0⟩)) := by
        rcases ha with ha | ha
        · exact ha
        · rw [ha] at h0; cases h0
      rw [ha'] at h0; cases h0
      have e' : arun P (f o) h = some (x, h') ∧ (∀ C e f, o ≠ .cells C e f) := by
        cases o <;> simp [hg] at e <;> first | exact ⟨e, by simp⟩ | exact e.elim
      obtain ⟨m', b, w', q1, q2⟩ := hf o o' hg ha' h2 h1 x h' e'.1
      refine ⟨m', b, w', ?_, q2⟩
      rw [run_bind']
      have : (Go.getObj r').run P w = .ok o' w := by
        cases o' with
        | cells C e f =>
          exfalso
          cases o <;> first | exact h2.elim | (simp [ORel] at h2; done) | exact e'.2 _ _ _ rfl
        | _ => simp [Go.getObj, Sem.run, h1]
      rw [this]; exact q1

theorem Sim.setObj (hr : HRel U m h w) {r r' : Nat} (ha : m r = some (some (r', ⟨0, 0⟩))) {o o' : Obj} (ho : ORel m ⟨0, 0⟩ o o') {f : Unit → Sem α} {f' : Unit → Sem β}
    (hf : ∀ h1 w1, Ext m w h.floor m w1 → HRel U m h1 w1 → h1.floor = h.floor → Sim U P m h1 w1 (f ()) (f' ()) R) : Sim U P m h w (Go.setObj r o >>= f) (Go.setObj r' o' >>= f') R := by
  intro x h' e
  rw [arun_bind] at e
  simp only [Go.setObj, arun] at e
  cases h2 : Nat.ble h.floor r <;> simp only [h2] at e <;> try (simp at e; done)
  cases hg : h.get r with
  | none => simp [hg] at e
  | some p =>
    rcases hr.obj r p hg (hr.un ha) with ⟨rfl, _⟩ | ⟨c, s, p', h0, h1, h3⟩
    · simp [hg, dead] at e
    · rw [ha] at h0; cases h0
      have e' : arun P (f ()) (h.put r o) = some (x, h') ∧ (∀ C e f, p ≠ .cells C e f) := by
        cases p <;> simp [hg] at e <;> first | exact ⟨e, by simp⟩ | exact e.elim
      have hlt : r' < w.heap.size := (Array.getElem?_eq_some_iff.1 h1).1
      have hthere : ({ w with heap := w.heap.setIfInBounds r' o' } : World).heap[r']? = some o' := by
        show (w.heap.setIfInBounds r' o')[r']? = _
        rw [Array.getElem?_setIfInBounds]; simp [hlt]
      have hother : ∀ c', c' ≠ r' → ({ w with heap := w.heap.setIfInBounds r' o' } : World).heap[c']? = w.heap[c']? := by
        intro c' hne
        show (w.heap.setIfInBounds r' o')[c']? = _
        rw [Array.getElem?_setIfInBounds, if_neg (fun e => hne e.symm)]
      have g1 := hr.change ha (fun x => AH.get_put h r x o) hthere ho hother
      have g2 : Ext m w h.floor m { w with heap := w.heap.setIfInBounds r' o' } := Ext.change ha (Nat.le_of_ble_eq_true h2) (by simp) hother
      obtain ⟨m', b, w', q1, q2, q3⟩ := hf _ _ g2 g1 rfl x h' e'.1
      refine ⟨m', b, w', ?_, g2.trans q2, q3⟩
      rw [run_bind']
      have : (Go.setObj r' o').run P w = .ok () { w with heap := w.heap.setIfInBounds r' o' } := by
        cases p' with
        | cells C e f =>
          exfalso
          cases p <;> first | exact h3.elim | (simp [ORel] at h3; done) | exact e'.2 _ _ _ rfl
        | _ => simp [Go.setObj, Sem.run, h1]
      rw [this]; exact q1
end
end
end Go.AE
