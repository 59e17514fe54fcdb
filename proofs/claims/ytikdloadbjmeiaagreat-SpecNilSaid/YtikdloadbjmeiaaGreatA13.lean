import Derived.Test.YtikdloadbjmeiaaGreatA12
import Derived.Deep.AppendSrc
/- An evaluator over an abstract heap, part 13: append. -/
namespace Go.AE
open Go
noncomputable section
variable {U : Un}

/-- A capacity that is not known: elements of z cells each, no fewer than k. -/
def unk (z k : Nat) : Nat := big * (z + 1) + k

theorem unk_big (z k : Nat) : big ≤ unk z k := by
  unfold unk
  have : big * 1 ≤ big * (z + 1) := Nat.mul_le_mul_left _ (by omega)
  omega
theorem unk_mod {z k : Nat} (h : k < big) : unk z k % big = k := by
  unfold unk
  rw [Nat.mul_add_mod, Nat.mod_eq_of_lt h]
theorem unk_div {z k : Nat} (h : k < big) : unk z k / big - 1 = z := by
  unfold unk
  rw [Nat.mul_add_div (show big > 0 by unfold big; omega), Nat.div_eq_of_lt h]
  omega

section
variable {P : Program} {m : Mp} {h : AH} {w : World}

/-- What is appended: how many elements, their cells. -/
def aNews (size : Nat) (x : Value) (h : AH) : Option (Nat × Array Value) := match x with
  | .slice none 0 0 => some (0, #[])
  | .slice (some b) l _ => match l with
    | 0 => some (0, #[])
    | l + 1 => match aCells h b ((l + 1) * size) with
      | some cs => some (l + 1, cs)
      | none => none
  | .string s => match Nat.beq size 1 with
    | true => some (s.size, s.data.map fun b => .int .u8 b.toNat)
    | false => none
  | _ => none

theorem aNews_run {size n : Nat} {x x' : Value} {cs : Array Value} (hr : HRel U m h w) (hv : VRel m x x') (hx : aNews size x h = some (n, cs)) :
    (∀ w' : World, (Builtin.lenOf x').run P w' = .ok n w') ∧ (∃ cs', (∀ w' : World, w'.heap = w.heap → (Builtin.firstCells size n x').run P w' = .ok cs' w') ∧ ArrRel m cs cs') ∧ cs.size = n * size := by
  unfold aNews at hx
  cases hv with
  | sliceNil =>
    simp at hx; obtain ⟨rfl, rfl⟩ := hx
    exact ⟨fun _ => rfl, ⟨#[], fun _ _ => rfl, .nil⟩, by simp⟩
  | sliceEmpty hbd hc =>
    simp at hx; obtain ⟨rfl, rfl⟩ := hx
    exact ⟨fun _ => rfl, ⟨#[], fun _ _ => by simp [Builtin.firstCells, loadCells, loadCellsFrom], .nil⟩, by simp⟩
  | slice ha hc =>
    rename_i a a' l k k'
    cases l with
    | zero =>
      simp at hx; obtain ⟨rfl, rfl⟩ := hx
      exact ⟨fun _ => rfl, ⟨#[], fun _ _ => by simp [Builtin.firstCells, loadCells, loadCellsFrom], .nil⟩, by simp⟩
    | succ l =>
      simp only at hx
      cases hcl : aCells h a ((l + 1) * size) with
      | none => simp [hcl] at hx
      | some ys =>
        simp only [hcl, Option.some.injEq, Prod.mk.injEq] at hx
        obtain ⟨rfl, rfl⟩ := hx
        obtain ⟨xs', r1, r2, r3, _⟩ := aCells_run (P := P) hr ha hcl
        exact ⟨fun _ => rfl, ⟨xs', r1, r2⟩, r3⟩
  | string s =>
    simp only at hx
    cases hb : Nat.beq size 1 with
    | false => simp [hb] at hx
    | true =>
      simp only [hb, Option.some.injEq, Prod.mk.injEq] at hx
      obtain ⟨rfl, rfl⟩ := hx
      refine ⟨fun _ => rfl, ⟨s.data.map fun b => .int .u8 b.toNat, fun _ _ => by simp [Builtin.firstCells], ?_⟩, ?_⟩
      · apply VsRel.of_plain
        have : ∀ (l : List UInt8), plainL (l.map fun b => Value.int .u8 b.toNat) = true := by
          intro l
          induction l with
          | nil => rfl
          | cons b l ih => simp only [List.map_cons, plainL, plain]; exact ih
        simpa using this s.data.toList
      · rw [Nat.eq_of_beq_eq_true hb, Nat.mul_one, Array.size_map]; rfl
  | _ => simp at hx

/-- A dead block. -/
def Mp.kill (m : Mp) (b : Nat) : Mp := fun x => if x = b then some none else m x


def allOne : List Value → Bool
  | [] => true
  | v :: vs => match one v with
    | true => allOne vs
    | false => false

theorem allOne_rel {vs vs' : List Value} (h : VsRel m vs vs') (ho : allOne vs = true) : ∀ u ∈ vs', u.oneCell' = true := by
  induction vs generalizing vs' with
  | nil => cases h; intro u hu; cases hu
  | cons v vs ih =>
    cases h with
    | cons a as =>
      simp only [allOne] at ho
      cases hv : one v with
      | false => simp [hv] at ho
      | true =>
        simp only [hv] at ho
        intro u hu
        rcases List.mem_cons.1 hu with rfl | hu
        · have := a.one hv
          cases u <;> first | rfl | (simp [AE.one] at this)
        · exact ih as ho u hu

/-- The kind of what is appended: a slice or a string. -/
def srcKind (P : Program) (t : TypeId) : Bool := match P.underlying t with
  | some (.slice _) => true
  | some .string => true
  | _ => false

theorem srcKind_some {t : TypeId} (h : srcKind P t = true) : (∃ e', P.underlying t = some (.slice e')) ∨ P.underlying t = some .string := by
  unfold srcKind at h
  cases hu : P.underlying t with
  | none => simp [hu] at h
  | some d => cases d <;> simp [hu] at h <;> first | exact .inl ⟨_, rfl⟩ | exact .inr rfl

theorem aNews_src {e : TypeId} {i : TypeInfo} {tx : TypeId} {n : Nat} {x x' : Value} {cs : Array Value} (_hi : P.info? e = some i) (hr : HRel U m h w) (hv : VRel m x x') (hx : aNews i.size x h = some (n, cs))
    (hk : srcKind P tx = true) (ho : allOne cs.toList = true) : ∃ news, Src P i.size tx x' n news w ∧ VsRel m cs.toList news := by
  obtain ⟨h1, ⟨cs', h2, h3⟩, h4⟩ := aNews_run (P := P) hr hv hx
  exact ⟨cs'.toList, ⟨srcKind_some hk, h1, by simpa using h2 w rfl, by simpa using h2 w.drew rfl, by have := h3.size; simp; omega, allOne_rel h3 ho⟩, h3⟩

def Mp.move (m : Mp) (b b' c : Nat) (s' : Sp) : Mp := fun x => if x = b' then some (some (c, s')) else if x = b then some none else m x

theorem Mp.move_new (m : Mp) (b b' c : Nat) (s' : Sp) : m.move b b' c s' b' = some (some (c, s')) := by simp [Mp.move]
theorem Mp.move_old (m : Mp) {b b' : Nat} (c : Nat) (s' : Sp) (h : b ≠ b') : m.move b b' c s' b = some none := by simp [Mp.move, h]
theorem Mp.move_other (m : Mp) {b b' x : Nat} (c : Nat) (s' : Sp) (h : x ≠ b') (h' : x ≠ b) : m.move b b' c s' x = m x := by simp [Mp.move, h, h']

/-- A row that lies where the old one lay: the abstract block is a new one, and the old one is dead. -/
theorem HRel.moved {h' : AH} {w' : World} {b b' c : Nat} {s : Sp} {o o' : Obj} (hr : HRel U m h w) (hm : m b = some (some (c, s))) (hb' : h.get b' = none) (hne : b ≠ b') {s' : Sp}
    (hget : ∀ x, h'.get x = if x = b' then some o else if x = b then some dead else h.get x) (hc : w'.heap[c]? = some o')
    (hw : ∀ c', c' ≠ c → w'.heap[c']? = w.heap[c']?)
    (ho : ∀ m', Mle m m' → ORel m' s' o o') :
    Mle m (m.move b b' c s') ∧ HRel U (m.move b b' c s') h' w' ∧ (∀ x c2 s2, m.move b b' c s' x = some (some (c2, s2)) → m x = some (some (c2, s2)) ∨ (x = b' ∧ c2 = c)) := by
  have hle : Mle m (m.move b b' c s') := by
    intro x y e
    by_cases h1 : x = b'
    · subst h1; rw [hr.no _ hb'] at e; cases e
    · by_cases h2 : x = b
      · subst h2; exact .inr (Mp.move_old m c s' hne)
      · rw [Mp.move_other m c s' h1 h2]; exact .inl e
  refine ⟨hle, ⟨?_, ?_, ?_, ?_⟩, ?_⟩
  · intro x y e u
    rw [hget] at e
    by_cases h1 : x = b'
    · subst h1
      rw [if_pos rfl] at e; cases e
      exact .inr ⟨c, s', o', Mp.move_new .., hc, ho _ hle⟩
    · rw [if_neg h1] at e
      by_cases h2 : x = b
      · rw [if_pos h2] at e; cases e
        subst h2
        exact .inl ⟨rfl, Mp.move_old m c s' hne⟩
      · rw [if_neg h2] at e
        rcases hr.obj x y e u with ⟨rfl, h0⟩ | ⟨c1, s1, p, h0, e1, e2⟩
        · exact .inl ⟨rfl, by rw [Mp.move_other m c s' h1 h2, h0]⟩
        · refine .inr ⟨c1, s1, p, by rw [Mp.move_other m c s' h1 h2, h0], ?_, e2.mono hle⟩
          rw [hw c1 (fun he => h2 (hr.inj _ _ _ _ _ (he ▸ h0) hm))]
          exact e1
  · intro x y u
    have h1 : x ≠ b' := fun hx => by subst hx; rw [hr.un' hb'] at u; cases u
    have h2 : x ≠ b := fun hx => by subst hx; rw [hr.un hm] at u; cases u
    have := hr.res x y u
    exact ⟨by rw [hget, if_neg h1, if_neg h2]; exact this.1, by rw [Mp.move_other m c s' h1 h2]; exact this.2⟩
  · intro x e
    rw [hget] at e
    by_cases h1 : x = b'
    · rw [if_pos h1] at e; cases e
    · rw [if_neg h1] at e
      by_cases h2 : x = b
      · rw [if_pos h2] at e; cases e
      · rw [if_neg h2] at e
        rw [Mp.move_other m c s' h1 h2]
        exact hr.no x e
  · intro x y c1 s1 s2 e1 e2
    by_cases hx1 : x = b' <;> by_cases hy1 : y = b'
    · rw [hx1, hy1]
    · subst hx1
      rw [Mp.move_new] at e1; cases e1
      by_cases hy2 : y = b
      · subst hy2; rw [Mp.move_old m _ _ hy1] at e2; cases e2
      · rw [Mp.move_other m _ _ hy1 hy2] at e2
        exact absurd (hr.inj _ _ _ _ _ e2 hm) hy2
    · subst hy1
      rw [Mp.move_new] at e2; cases e2
      by_cases hx2 : x = b
      · subst hx2; rw [Mp.move_old m _ _ hx1] at e1; cases e1
      · rw [Mp.move_other m _ _ hx1 hx2] at e1
        exact absurd (hr.inj _ _ _ _ _ e1 hm) hx2
    · by_cases hx2 : x = b
      · subst hx2; rw [Mp.move_old m _ _ hx1] at e1; cases e1
      · by_cases hy2 : y = b
        · subst hy2; rw [Mp.move_old m _ _ hy1] at e2; cases e2
        · rw [Mp.move_other m _ _ hx1 hx2] at e1
          rw [Mp.move_other m _ _ hy1 hy2] at e2
          exact hr.inj _ _ _ _ _ e1 e2
  · intro x c2 s2 e
    by_cases h1 : x = b'
    · subst h1; rw [Mp.move_new] at e; cases e; exact .inr ⟨rfl, rfl⟩
    · by_cases h2 : x = b
      · subst h2; rw [Mp.move_old m _ _ h1] at e; cases e
      · rw [Mp.move_other m _ _ h1 h2] at e; exact .inl e

theorem HRel.lt (hr : HRel U m h w) {b c : Nat} {s : Sp} (hm : m b = some (some (c, s))) : c < w.heap.size := by
  cases hg : h.get b with
  | none => rw [hr.no b hg] at hm; cases hm
  | some o =>
    rcases hr.obj b o hg (hr.un hm) with ⟨_, h0⟩ | ⟨c', s', p, h0, h1, _⟩
    · rw [h0] at hm; cases hm
    · rw [h0] at hm; cases hm; exact (Array.getElem?_eq_some_iff.1 h1).1

/-- A block dies. -/
theorem HRel.dies {h' : AH} {b : Nat} (hr : HRel U m h w) (hub : U b = none) (hget : ∀ x, h'.get x = if x = b then some dead else h.get x) :
    ∃ m', Mle m m' ∧ HRel U m' h' w ∧ (∀ x c2 s2, m' x = some (some (c2, s2)) → m x = some (some (c2, s2))) ∧ (∀ x, x ≠ b → m' x = m x) := by
  have hle : Mle m (fun x => if x = b then some none else m x) := by
    intro x y e
    by_cases h2 : x = b
    · right; simp [h2]
    · left; simp [h2, e]
  refine ⟨_, hle, ⟨?_, ?_, ?_, ?_⟩, ?_, ?_⟩
  · intro x y e u
    rw [hget] at e
    by_cases h2 : x = b
    · rw [if_pos h2] at e; cases e; exact .inl ⟨rfl, by simp [h2]⟩
    · rw [if_neg h2] at e
      rcases hr.obj x y e u with ⟨rfl, h0⟩ | ⟨c1, s1, p, h0, e1, e2⟩
      · exact .inl ⟨rfl, by simp [h2, h0]⟩
      · exact .inr ⟨c1, s1, p, by simp [h2, h0], e1, e2.mono hle⟩
  · intro x y u
    have hx : x ≠ b := fun hx => by subst hx; rw [hub] at u; cases u
    have := hr.res x y u
    exact ⟨by rw [hget, if_neg hx]; exact this.1, by simp [hx, this.2]⟩
  · intro x e
    rw [hget] at e
    by_cases h2 : x = b
    · rw [if_pos h2] at e; cases e
    · rw [if_neg h2] at e; simp [h2, hr.no x e]
  · intro x y c1 s1 s2 e1 e2
    by_cases hx : x = b
    · simp [hx] at e1
    · by_cases hy : y = b
      · simp [hy] at e2
      · simp [hx] at e1; simp [hy] at e2
        exact hr.inj _ _ _ _ _ e1 e2
  · intro x c2 s2 e
    by_cases hx : x = b
    · simp [hx] at e
    · simpa [hx] using e
  · intro x hx; simp [hx]
end
end
end Go.AE
