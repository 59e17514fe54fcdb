import Derived.Test.YtikdloadbjmeiaaGreatA14
/- An evaluator over an abstract heap, part 15: copy, clear, len; comparisons; going over a map. -/
namespace Go.AE
open Go
noncomputable section
variable {U : Un}

section
variable {P : Program} {m : Mp} {h : AH} {w : World}

/-! ### copy, clear -/
def aFirst (n size : Nat) (x : Value) (h : AH) : Option (Array Value) := match n with
  | 0 => some #[]
  | n + 1 => match x with
    | .slice (some b) _ _ => aCells h b ((n + 1) * size)
    | .string s => match Nat.beq size 1 with
      | true => some ((s.extract 0 (n + 1)).data.map fun b => .int .u8 b.toNat)
      | false => none
    | _ => none

def aLenOf (x : Value) : Option Nat := match x with
  | .slice _ n _ => some n
  | .string s => some s.size
  | _ => none

theorem aLenOf_run {x x' : Value} {n : Nat} (hx : VRel m x x') (h : aLenOf x = some n) (w : World) : (Builtin.lenOf x').run P w = .ok n w := by
  unfold aLenOf at h
  cases hx <;> simp at h <;> subst h <;> rfl

theorem aFirst_run {n size : Nat} {x x' : Value} {cs : Array Value} {k : Nat} (hr : HRel U m h w) (hx : VRel m x x') (hl : aLenOf x = some k) (hn : n ≤ k) (he : aFirst n size x h = some cs) :
    ∃ cs', (Builtin.firstCells size n x').run P w = .ok cs' w ∧ ArrRel m cs cs' := by
  unfold aFirst at he
  cases n with
  | zero =>
    simp at he
    subst he
    refine ⟨#[], ?_, .nil⟩
    cases hx <;> simp [aLenOf] at hl <;> simp [Builtin.firstCells, loadCells, loadCellsFrom]
  | succ n =>
    simp only at he
    cases hx with
    | slice ha hc =>
      simp only at he
      obtain ⟨xs', r1, r2, _⟩ := aCells_run (P := P) hr ha he
      exact ⟨xs', r1 w rfl, r2⟩
    | sliceEmpty hbd hc => simp [aLenOf] at hl; omega
    | sliceNil => simp at he
    | string s =>
      simp only at he
      cases hb : Nat.beq size 1 with
      | false => simp [hb] at he
      | true =>
        simp only [hb, Option.some.injEq] at he
        subst he
        refine ⟨_, rfl, ?_⟩
        apply VsRel.of_plain
        have : ∀ (l : List UInt8), plainL (l.map fun b => Value.int .u8 b.toNat) = true := by
          intro l
          induction l with
          | nil => rfl
          | cons b l ih => simp only [List.map_cons, plainL, plain]; exact ih
        rw [Array.toList_map]
        exact this _
    | _ => simp at he

def aCopy (P : Program) (t : TypeId) (dst src : Value) (h : AH) : Option (Value × AH) := match P.underlying t with
  | some (.slice e) => match szof P e, dst, aLenOf src with
    | some size, .slice b dl _, some sl => match aFirst (Nat.min sl dl) size src h with
      | some cs => match b with
        | none => some (goInt (Nat.min sl dl), h)
        | some a => match Nat.min sl dl with
          | 0 => some (goInt 0, h)
          | n + 1 => match arun P (storeCells a cs.toList 0) h with
            | some (_, h') => some (goInt ((n + 1 : Nat) : Int), h')
            | none => none
      | none => none
    | _, _, _ => none
  | _ => none

theorem aCopy_run {t tx rt : TypeId} {d d' s s' y : Value} {h' : AH} (hr : HRel U m h w) (hd : VRel m d d') (hs : VRel m s s') (he : aCopy P t d s h = some (y, h')) :
    ∃ m' y' w', (Builtin.copy_ #[t, tx] rt #[d', s']).run P w = .ok y' w' ∧ Ext m w h.floor m' w' ∧ HRel U m' h' w' ∧ VRel m' y y' ∧ h'.floor = h.floor := by
  unfold aCopy at he
  cases hu : P.underlying t with
  | none => simp [hu] at he
  | some dd =>
  cases dd with
  | slice e =>
    simp only [hu] at he
    cases hz : szof P e with
    | none => simp [hz] at he
    | some size =>
    cases hl : aLenOf s with
    | none => cases d <;> simp [hz, hl] at he
    | some sl =>
    have hlr := aLenOf_run (P := P) hs hl w
    obtain ⟨i, hi, hsz⟩ := szof_some hz
    have e2 : (#[t, tx] : Array TypeId)[0]? = some t := rfl
    have gen : ∀ (b' : Option Addr) (dl dc : Nat) (cs' : Array Value) (w' : World), d' = .slice b' dl dc → (Builtin.firstCells size (Nat.min sl dl) s').run P w = .ok cs' w →
        (match b' with | none => w' = w | some a => (storeCells a cs'.toList 0).run P w = .ok () w') →
        (Builtin.copy_ #[t, tx] rt #[d', s']).run P w = .ok (goInt (Nat.min sl dl)) w' := by
      intro b' dl dc cs' w' hd' hf hst
      subst hd'
      have e0 : (#[.slice b' dl dc, s'] : Array Value)[0]? = some (.slice b' dl dc) := rfl
      have e1 : (#[.slice b' dl dc, s'] : Array Value)[1]? = some s' := rfl
      unfold Builtin.copy_
      simp only [e0, e1, e2]
      rw [run_bind', ru hu]
      simp only
      rw [run_bind', hlr]
      simp only
      rw [run_bind', rs hi]
      simp only [hsz]
      rw [run_bind', hf]
      simp only
      cases b' with
      | none => simp only at hst ⊢; subst hst; rfl
      | some a => simp only at hst ⊢; rw [run_bind', hst]; rfl
    cases hd with
    | sliceNil =>
      simp only [hz, hl] at he
      cases hf : aFirst (Nat.min sl 0) size s h with
      | none => simp only [hf] at he; cases he
      | some cs =>
        simp only [hf, Option.some.injEq, Prod.mk.injEq] at he
        obtain ⟨rfl, rfl⟩ := he
        obtain ⟨cs', f1, f2⟩ := aFirst_run (P := P) hr hs hl (Nat.min_le_left _ _) hf
        exact ⟨m, _, w, gen none 0 0 cs' w rfl f1 rfl, .refl .., hr, .int _ _, rfl⟩
    | slice ha hc =>
      rename_i a a' dl k k'
      simp only [hz, hl] at he
      cases hf : aFirst (Nat.min sl dl) size s h with
      | none => simp only [hf] at he; cases he
      | some cs =>
        simp only [hf] at he
        obtain ⟨cs', f1, f2⟩ := aFirst_run (P := P) hr hs hl (Nat.min_le_left _ _) hf
        cases hmn : Nat.min sl dl with
        | zero =>
          simp only [hmn, Option.some.injEq, Prod.mk.injEq] at he
          obtain ⟨rfl, rfl⟩ := he
          have hcs : cs = #[] := by rw [hmn] at hf; simp [aFirst] at hf; exact hf
          subst hcs
          have hcs' : cs' = #[] := Array.eq_empty_of_size_eq_zero (by have := f2.size; simpa using this)
          subst hcs'
          have := gen (some a') dl k' #[] w rfl f1 rfl
          rw [hmn] at this
          exact ⟨m, _, w, this, .refl .., hr, .int _ _, rfl⟩
        | succ n =>
          simp only [hmn] at he
          cases hst : arun P (storeCells a cs.toList 0) h with
          | none => simp [hst] at he
          | some q =>
            obtain ⟨_, h3⟩ := q
            simp only [hst, Option.some.injEq, Prod.mk.injEq] at he
            obtain ⟨rfl, rfl⟩ := he
            obtain ⟨m', _, w', q1, q2, q3, _⟩ := sim_storeCells (P := P) cs.toList m h w _ _ 0 cs'.toList hr ha f2 () h3 hst
            have := gen (some a') dl k' cs' w' rfl f1 q1
            rw [hmn] at this
            exact ⟨m', _, w', this, q2, q3, .int _ _, (arun_keeps _ _ _ _ hst).1⟩
    | sliceEmpty hbd hc =>
      rename_i a a' k
      simp only [hz, hl] at he
      have hmn : Nat.min sl 0 = 0 := Nat.min_zero _
      cases hf : aFirst (Nat.min sl 0) size s h with
      | none => simp only [hf] at he; cases he
      | some cs =>
        simp only [hf] at he
        simp only [hmn, Option.some.injEq, Prod.mk.injEq] at he
        obtain ⟨rfl, rfl⟩ := he
        obtain ⟨cs', f1, f2⟩ := aFirst_run (P := P) hr hs hl (Nat.min_le_left _ _) hf
        have hcs : cs = #[] := by rw [hmn] at hf; simp [aFirst] at hf; exact hf
        subst hcs
        have hcs' : cs' = #[] := Array.eq_empty_of_size_eq_zero (by have := f2.size; simpa using this)
        subst hcs'
        have := gen (some a') 0 0 #[] w rfl f1 rfl
        rw [hmn] at this
        exact ⟨m, _, w, this, .refl .., hr, .int _ _, rfl⟩
    | _ => simp [hz, hl] at he
  | _ => simp [hu] at he

def aClear (P : Program) (t : TypeId) (x : Value) (h : AH) : Option AH := match P.underlying t with
  | some (.slice e) => match x with
    | .slice none 0 0 => some h
    | .slice (some a) n _ => match n with
      | 0 => some h
      | n + 1 => match zeroCs P e with
        | some zs => match Nat.ble 1 zs.size with
          | true => match arun P (storeCells a (rep zs (n + 1)) 0) h with
            | some (_, h') => some h'
            | none => none
          | false => none
        | none => none
    | _ => none
  | _ => none

theorem aClear_run {t rt : TypeId} {x x' : Value} {h' : AH} (hr : HRel U m h w) (hx : VRel m x x') (he : aClear P t x h = some h') :
    ∃ m' w', (Builtin.clear_ #[t] rt #[x']).run P w = .ok (.tuple #[]) w' ∧ Ext m w h.floor m' w' ∧ HRel U m' h' w' ∧ h'.floor = h.floor := by
  unfold aClear at he
  have e2 : (#[t] : Array TypeId)[0]? = some t := rfl
  cases hu : P.underlying t with
  | none => simp [hu] at he
  | some d =>
  cases d with
  | slice e =>
    simp only [hu] at he
    cases hx with
    | sliceNil =>
      simp at he
      subst he
      refine ⟨m, w, ?_, .refl .., hr, rfl⟩
      have e0 : (#[.slice none 0 0] : Array Value)[0]? = some (.slice none 0 0) := rfl
      unfold Builtin.clear_
      simp only [e0, e2]
      rw [run_bind', ru hu]
      rfl
    | sliceEmpty hbd hc =>
      rename_i a a' k
      simp at he
      subst he
      refine ⟨m, w, ?_, .refl .., hr, rfl⟩
      have e0 : (#[.slice (some a') 0 0] : Array Value)[0]? = some (.slice (some a') 0 0) := rfl
      unfold Builtin.clear_
      simp only [e0, e2]
      rw [run_bind', ru hu]
      rfl
    | slice ha hc =>
      rename_i a a' n k k'
      have e0 : (#[.slice (some a') n k'] : Array Value)[0]? = some (.slice (some a') n k') := rfl
      cases n with
      | zero =>
        simp at he
        subst he
        refine ⟨m, w, ?_, .refl .., hr, rfl⟩
        unfold Builtin.clear_
        simp only [e0, e2]
        rw [run_bind', ru hu]
        rfl
      | succ n =>
        simp only at he
        cases hz : zeroCs P e with
        | none => simp [hz] at he
        | some zs =>
        cases h1 : Nat.ble 1 zs.size with
        | false => simp [hz, h1] at he
        | true =>
        simp only [hz, h1] at he
        cases hst : arun P (storeCells a (rep zs (n + 1)) 0) h with
        | none => simp [hst] at he
        | some q =>
          obtain ⟨_, h3⟩ := q
          simp only [hst, Option.some.injEq] at he
          subst he
          obtain ⟨i, z, hi, hzz, hp, hzs⟩ := zeroCs_run hz
          have hpl : plainL zs.toList = true := by rw [hzs]; exact plain_cells' hp
          obtain ⟨m', _, w', q1, q2, q3, _⟩ := sim_storeCells (P := P) (rep zs (n + 1)) m h w _ _ 0 _ hr ha (rep_rel hpl (n + 1)) () h3 hst
          refine ⟨m', w', ?_, q2, q3, (arun_keeps _ _ _ _ hst).1⟩
          unfold Builtin.clear_
          simp only [e0, e2]
          rw [run_bind', ru hu]
          simp only
          rw [run_bind', rz hi hzz]
          simp only
          have hrep := rep_eq zs (by have := Nat.le_of_ble_eq_true h1; omega) (n + 1)
          have : Builtin.zeroCells z.cells (n + 1) = ⟨rep zs (n + 1)⟩ := by rw [← hzs]; exact hrep
          rw [this, run_bind', q1]
          rfl
    | _ => simp at he
  | _ => simp [hu] at he

/-! ### len -/
def aLen (P : Program) (t : TypeId) (x : Value) (h : AH) : Option Value := match P.underlying t with
  | some .string => match x with
    | .string s => some (goInt s.size)
    | _ => none
  | some (.array n _) => some (goInt n)
  | some (.pointer arr) => match P.underlying arr with
    | some (.array n _) => some (goInt n)
    | _ => none
  | some (.slice _) => match x with
    | .slice _ n _ => some (goInt n)
    | _ => none
  | some (.map _ _) => match x with
    | .map none => some (goInt 0)
    | .map (some r) => match h.get r with
      | some (.map es _) => some (goInt es.size)
      | _ => none
    | _ => none
  | _ => none

theorem aLen_run {t rt : TypeId} {x x' y : Value} (hr : HRel U m h w) (hx : VRel m x x') (he : aLen P t x h = some y) : (Builtin.len_ #[t] rt #[x']).run P w = .ok y w ∧ VRel m y y := by
  unfold aLen at he
  have e2 : (#[t] : Array TypeId)[0]? = some t := rfl
  have e0 : (#[x'] : Array Value)[0]? = some x' := rfl
  have fin : ∀ n : Int, y = goInt n → VRel m y y := by intro n e; subst e; exact .int _ _
  unfold Builtin.len_
  simp only [e0, e2]
  rw [run_bind']
  cases hu : P.underlying t with
  | none => simp [hu] at he
  | some d =>
  rw [ru hu]
  cases d with
  | string =>
    simp only [hu] at he
    cases hx <;> simp at he
    subst he
    exact ⟨rfl, fin _ rfl⟩
  | array n e =>
    simp only [hu, Option.some.injEq] at he
    subst he
    exact ⟨by cases hx <;> rfl, fin _ rfl⟩
  | pointer arr =>
    simp only [hu] at he
    cases hua : P.underlying arr with
    | none => simp [hua] at he
    | some d2 =>
      cases d2 with
      | array n e =>
        simp only [hua, Option.some.injEq] at he
        subst he
        refine ⟨?_, fin _ rfl⟩
        cases hx <;> (simp only; rw [run_bind', ru hua]; rfl)
      | _ => simp [hua] at he
  | slice e =>
    simp only [hu] at he
    cases hx <;> simp at he <;> subst he <;> exact ⟨rfl, fin _ rfl⟩
  | map k e =>
    simp only [hu] at he
    cases hx with
    | mapNil => simp at he; subst he; exact ⟨rfl, fin _ rfl⟩
    | map ha =>
      rename_i r r'
      simp only at he
      cases hg : h.get r with
      | none => simp [hg] at he
      | some o =>
        cases o with
        | map es k =>
          simp only [hg, Option.some.injEq] at he
          subst he
          obtain ⟨es', _, h1, h2⟩ := hr.map ha hg
          refine ⟨?_, fin _ rfl⟩
          simp only
          rw [run_bind', rg h1 (by simp)]
          have := h2.length
          have hsz : es'.size = es.size := by simpa using this
          simp only [hsz]
          rfl
        | _ => simp [hg] at he
    | _ => simp at he
  | _ => simp [hu] at he
end
end
end Go.AE
