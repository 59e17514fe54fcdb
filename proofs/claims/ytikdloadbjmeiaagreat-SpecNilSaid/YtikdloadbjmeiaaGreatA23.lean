import Derived.Test.YtikdloadbjmeiaaGreatA22
/- An evaluator over an abstract heap, part 23: places, guards, results. -/
namespace Go.AE
open Go
noncomputable section
variable {U : Un}

section
variable {ω : Type} {E : Env} {C : Cons} {A : Ans ω} {good : ω → Prop} {m : Mp} {s : St} {a : Act} {w : World}

theorem St.get_set (t : Tr Value) (n : Nat) (h : AH) (ds : List Deferred) (r : Option Nat) (d : Nat) (v : Value) (i : Nat) :
    St.get ⟨t.set (d + 1) v, n, h, ds, r⟩ i = if i = d then v else St.get ⟨t, n, h, ds, r⟩ i := by
  unfold St.get
  simp only
  rw [Tr.get_set _ _ _ _ (by omega) (by omega)]
  by_cases e : i = d
  · subst e; simp
  · rw [if_neg (by omega), if_neg e]

/-- A place is filled. -/
theorem put_ok (hbad : ¬ good A.bad) {d : Option Tmp} {v v' : Value} {K : St → ω} (hs : SRel U m s a w) (hv : VRel m v v') (hg : good (St.put s d v A.bad K)) :
    ∃ s', SRel U m s' (a.put d v') w ∧ s'.heap = s.heap ∧ s'.round = s.round ∧ good (K s') := by
  unfold St.put at hg
  cases d with
  | none => exact ⟨s, hs, rfl, rfl, hg⟩
  | some d =>
    obtain ⟨t, n, h, ds, r⟩ := s
    simp only at hg
    cases hb : Nat.ble n d with
    | true => simp only [hb] at hg; exact absurd hg hbad
    | false =>
      simp only [hb] at hg
      have hlt : d < n := not_ble hb
      have hsz : a.tmps.size = n := hs.size
      refine ⟨⟨t.set (d + 1) v, n, h, ds, r⟩, ⟨?_, ?_, hs.defers, hs.heap⟩, rfl, rfl, hg⟩
      · simp [Act.put, hsz]
      · intro i
        rw [St.get_set]
        by_cases e : i = d
        · subst e
          rw [if_pos rfl]
          have : (a.put (some i) v').tmps.getD i undef = v' := by
            simp [Act.put, Array.getElem?_setIfInBounds, hsz, hlt]
          rw [this]; exact hv
        · rw [if_neg e]
          have : (a.put (some d) v').tmps.getD i undef = a.tmps.getD i undef := by
            simp [Act.put, Array.getElem?_setIfInBounds, Ne.symm e]
          rw [this]; exact hs.tmp i

theorem yielded_ok {ops : Array Oper} {j : Nat} {b : Bool} (hs : SRel U m s a w) (h : aYielded ops.toList s j = some b) : yielded ops a.tmps j = some b := by
  unfold aYielded at h
  unfold yielded
  rw [Array.getElem?_toList] at h
  cases ho : ops[j]? with
  | none => simp [ho] at h
  | some o =>
    simp only [ho] at h
    cases hd : o.dst with
    | none => simp [hd] at h
    | some d =>
      simp only [hd] at h
      have := hs.tmp d
      cases hv : s.get d <;> simp only [hv] at h <;> try (cases h; done)
      rw [hv] at this
      simp only [Option.some.injEq] at h
      subst h
      have e : a.tmps.getD d undef = .bool _ := this.plain rfl
      simp only [Option.bind_some, hd]
      cases hq : a.tmps[d]? with
      | none => simp [hq, undef] at e
      | some y => simp [hq] at e; subst e; rfl

theorem yielded_no {ops : Array Oper} {j : Nat} (hs : SRel U m s a w) (h : aYielded ops.toList s j = none) : yielded ops a.tmps j = none := by
  unfold aYielded at h
  unfold yielded
  rw [Array.getElem?_toList] at h
  cases ho : ops[j]? with
  | none => simp
  | some o =>
    simp only [ho] at h
    cases hd : o.dst with
    | none => simp [hd]
    | some d =>
      simp only [hd] at h
      simp only [Option.bind_some, hd]
      have hv := hs.tmp d
      cases hq : a.tmps[d]? with
      | none => rfl
      | some y =>
        simp only [Array.getD_eq_getD_getElem?, hq, Option.getD_some] at hv
        cases y <;> simp only <;> try rfl
        generalize s.get d = z at h hv
        cases hv
        simp at h

theorem wanted_ok {ops : Array Oper} {o : Oper} (hs : SRel U m s a w) : Region.wanted o (yielded ops a.tmps) = aWanted ops.toList s o := by
  unfold Region.wanted aWanted
  cases hg : o.guard with
  | none => rfl
  | some g =>
    obtain ⟨j, want⟩ := g
    simp only
    cases hy : aYielded ops.toList s j with
    | none => rw [yielded_no hs hy]; rfl
    | some b => rw [yielded_ok hs hy]; cases b <;> cases want <;> rfl
end
end
end Go.AE
