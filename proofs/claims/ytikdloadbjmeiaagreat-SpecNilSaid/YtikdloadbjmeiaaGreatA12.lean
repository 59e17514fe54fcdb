import Derived.Test.YtikdloadbjmeiaaGreatA11
/- An evaluator over an abstract heap, part 12: append, copy. -/
namespace Go.AE
open Go
noncomputable section
variable {U : Un}

section
variable {P : Program} {m : Mp} {h : AH} {w : World}

/-! ### Rows of cells that are read -/
def aCells (h : AH) (a : Addr) (n : Nat) : Option (Array Value) := match a.spot with
  | some _ => none
  | none => match h.get a.block with
    | some (.cells C _ _) => match Nat.ble (a.off + n) C.size with
      | true => some (C.extract a.off (a.off + n))
      | false => none
    | _ => none

theorem run_loadCellsFrom : ∀ (xs : List Value) (a : Addr) (i : Nat) (acc : Array Value), (∀ j v, xs[j]? = some v → w.cell? (a.add (i + j)) = some v) →
    (loadCellsFrom a i xs.length acc).run P w = .ok (acc ++ xs.toArray) w
  | [], a, i, acc, _ => by simp [loadCellsFrom]
  | v :: xs, a, i, acc, hx => by
    simp only [List.length_cons]
    unfold loadCellsFrom
    have h0 := hx 0 v (by simp)
    simp only [Nat.add_zero] at h0
    rw [run_bind', show (Go.load (a.add i)).run P w = .ok v w by simp [Go.load, Sem.run, h0]]
    simp only
    rw [run_loadCellsFrom xs a (i + 1) (acc.push v) (fun j u hj => by have := hx (j + 1) u (by simpa using hj); rw [show i + 1 + j = i + (j + 1) by omega]; exact this)]
    congr 1
    simp

theorem aCells_run {a a' : Addr} {n : Nat} {xs : Array Value} (hr : HRel U m h w) (ha : AddrRel m a a') (hx : aCells h a n = some xs) :
    ∃ xs', (∀ w' : World, w'.heap = w.heap → (loadCells a' n).run P w' = .ok xs' w') ∧ ArrRel m xs xs' ∧ xs.size = n ∧ m a.block ≠ some none := by
  unfold aCells at hx
  cases hsp : a.spot with
  | some _ => simp [hsp] at hx
  | none =>
  simp only [hsp] at hx
  cases hg : h.get a.block with
  | none => simp [hg] at hx
  | some o =>
  cases o with
  | cells C e f =>
    simp only [hg] at hx
    cases hb : Nat.ble (a.off + n) C.size with
    | false => simp [hb] at hx
    | true =>
    simp only [hb, Option.some.injEq] at hx
    subst hx
    have hb' := Nat.le_of_ble_eq_true hb
    obtain ⟨x0, hx0⟩ := ha.some
    obtain ⟨c, s, C', e', lo, hi, h0, h1, _, q1, q2, h3, h4⟩ := hr.cells hg hx0
    cases ha with
    | dead hm => rw [h0] at hm; cases hm
    | live hm =>
      rename_i b c2 o s2
      rw [h0] at hm; cases hm
      have key : ∀ j, j < n → ∃ v', C'[s.off + (o + j)]? = some v' := by
        intro j hj
        have : o + j < C.size := by simp at hb'; omega
        obtain ⟨v', e1, _⟩ := h3 (o + j) C[o + j] (by simp [this])
        exact ⟨v', e1⟩
      refine ⟨C'.extract (s.off + o) (s.off + o + n), ?_, ?_, ?_, ?_⟩
      · intro w' hw'
        have h1' : w'.heap[c]? = some (.cells C' e' (lo, hi)) := by rw [hw']; exact h1
        have hlen : (C'.extract (s.off + o) (s.off + o + n)).toList.length = n := by
          simp
          have : o + n ≤ C.size := hb'
          omega
        have := run_loadCellsFrom (P := P) (w := w') (C'.extract (s.off + o) (s.off + o + n)).toList ⟨c, s.off + o, none⟩ 0 #[] (by
          intro j v hj
          have hj2 : (C'.extract (s.off + o) (s.off + o + n))[j]? = some v := by rw [← Array.getElem?_toList]; exact hj
          rw [Array.getElem?_extract] at hj2
          split at hj2
          · have hadd : ∀ x, (⟨c, s.off + o, none⟩ : Addr).add x = ⟨c, s.off + o + x, none⟩ := by
              intro x; unfold Addr.add; split <;> simp_all
            rw [hadd]
            simp only [World.cell?, h1']
            simpa using hj2
          · cases hj2)
        rw [hlen] at this
        unfold loadCells
        rw [this, Array.toArray_toList, Array.empty_append]
      · unfold ArrRel
        have ext : ∀ (l l' : List Value), l'.length = l.length → (∀ (i : Nat) (v : Value), l[i]? = some v → ∃ v' : Value, l'[i]? = some v' ∧ VRel m v v') → VsRel m l l' := by
          intro l
          induction l with
          | nil => intro l' hl _; cases l' with
            | nil => exact .nil
            | cons _ _ => simp at hl
          | cons x l ih =>
            intro l' hl hv
            cases l' with
            | nil => simp at hl
            | cons y l' =>
              obtain ⟨v', e1, e2⟩ := hv 0 x (by simp)
              simp at e1; subst e1
              exact .cons e2 (ih l' (by simpa using hl) (fun i v hi => by simpa using hv (i + 1) v (by simpa using hi)))
        apply ext
        · simp
          have : o + n ≤ C.size := hb'
          omega
        · intro i v hv
          have hv2 : (C.extract o (o + n))[i]? = some v := by rw [← Array.getElem?_toList]; exact hv
          rw [Array.getElem?_extract] at hv2
          split at hv2
          · rename_i hlt
            obtain ⟨v', e1, e2⟩ := h3 (o + i) v hv2
            refine ⟨v', ?_, e2⟩
            have : (C'.extract (s.off + o) (s.off + o + n))[i]? = some v' := by
              rw [Array.getElem?_extract]
              have : o + n ≤ C.size := hb'
              rw [if_pos (by omega)]
              rw [Nat.add_assoc]; exact e1
            rw [← Array.getElem?_toList] at this; exact this
          · cases hv2
      · simp
        have : o + n ≤ C.size := hb'
        omega
      · rw [h0]; simp
  | _ => simp [hg] at hx
end
end
end Go.AE
