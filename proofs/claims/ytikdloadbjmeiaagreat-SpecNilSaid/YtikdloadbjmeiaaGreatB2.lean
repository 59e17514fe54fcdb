import Derived.Test.YtikdloadbjmeiaaGreatB1
/- An evaluator over an abstract heap: short cuts for loads and conversions; an operation by the short cut or else as it stands. -/
namespace Go.AE
open Go
noncomputable section
variable {U : Un}

def takeN : Nat → List Value → Option (List Value)
  | 0, _ => some []
  | _ + 1, [] => none
  | n + 1, v :: vs => match takeN n vs with
    | some l => some (v :: l)
    | none => none

def dropN : Nat → List Value → List Value
  | 0, l => l
  | _ + 1, [] => []
  | n + 1, _ :: l => dropN n l

theorem dropN_eq : ∀ (n : Nat) (l : List Value), dropN n l = l.drop n
  | 0, l => by simp [dropN]
  | _ + 1, [] => by simp [dropN]
  | n + 1, _ :: l => by simp [dropN, dropN_eq n l]

theorem takeN_some : ∀ (n : Nat) (l ys : List Value), takeN n l = some ys → ys = l.take n ∧ n ≤ l.length
  | 0, l, ys, h => by simp [takeN] at h; simp [h]
  | _ + 1, [], _, h => by simp [takeN] at h
  | n + 1, v :: vs, ys, h => by
    simp only [takeN] at h
    cases ht : takeN n vs with
    | none => simp [ht] at h
    | some l =>
      simp only [ht, Option.some.injEq] at h
      obtain ⟨e1, e2⟩ := takeN_some n vs l ht
      subst h
      simp [e1]; omega

def aCellsF (h : AH) (a : Addr) (n : Nat) : Option (List Value) := match a.spot with
  | some _ => none
  | none => match h.get a.block with
    | some (.cells ⟨l⟩ _ _) => takeN n (dropN a.off l)
    | _ => none

theorem aCellsF_eq {h : AH} {a : Addr} {n : Nat} {ys : List Value} (hx : aCellsF h a n = some ys) : aCells h a n = some ⟨ys⟩ ∨ n = 0 := by
  unfold aCellsF at hx
  unfold aCells
  cases hsp : a.spot with
  | some _ => simp [hsp] at hx
  | none =>
  simp only [hsp] at hx ⊢
  cases hg : h.get a.block with
  | none => simp [hg] at hx
  | some o =>
  cases o with
  | cells C e f =>
    obtain ⟨l⟩ := C
    simp only [hg] at hx ⊢
    obtain ⟨e1, e2⟩ := takeN_some _ _ _ hx
    rw [dropN_eq] at e1 e2
    by_cases h0 : n = 0
    · exact .inr h0
    · left
      rw [List.length_drop] at e2
      have : a.off + n ≤ (⟨l⟩ : Array Value).size := by simp; omega
      rw [ble_t this]
      simp only [Option.some.injEq]
      apply Array.ext'
      rw [e1]
      simp [List.take_drop, Nat.add_comm]
  | _ => simp [hg] at hx

section
variable {P : Program} {m : Mp} {h : AH} {w : World}

def aLoadF (P : Program) (t : TypeId) (v : Value) (h : AH) : Option Value := match v with
  | .pointer (some a) => match aggT P t with
    | some false => h.cell a
    | some true => match szof P t with
      | some 0 => none
      | some n => match aCellsF h a n with
        | some ys => some (.agg ⟨ys⟩)
        | none => none
      | none => none
    | none => none
  | _ => none

theorem aLoadF_run {t : TypeId} {v v' x : Value} (hr : HRel U m h w) (hv : VRel m v v') (hx : aLoadF P t v h = some x) : ∃ x', (Instr.loadAt t v').run P w = .ok x' w ∧ VRel m x x' := by
  unfold aLoadF at hx
  cases hv with
  | ptr ha =>
    rename_i a a'
    simp only at hx
    have e0 : ∀ y, (loadVar t a').run P w = .ok y w → (Instr.loadAt t (.pointer (some a'))).run P w = .ok y w := by
      intro y hy
      unfold Instr.loadAt
      exact hy
    cases hg : aggT P t with
    | none => simp [hg] at hx
    | some b =>
      cases b with
      | false =>
        simp only [hg] at hx
        obtain ⟨v', g1, g2, g3⟩ := hr.cell ha hx
        refine ⟨v', e0 _ ?_, g2⟩
        unfold loadVar
        rw [run_bind', aggT_run hg]
        simp [Go.load, Sem.run, g1]
      | true =>
        simp only [hg] at hx
        cases hs : szof P t with
        | none => simp [hs] at hx
        | some n =>
          cases n with
          | zero => simp [hs] at hx
          | succ n =>
            simp only [hs] at hx
            cases hc : aCellsF h a (n + 1) with
            | none => simp [hc] at hx
            | some ys =>
              simp only [hc, Option.some.injEq] at hx
              subst hx
              rcases aCellsF_eq hc with h1 | h1
              · obtain ⟨xs', q1, q2, _⟩ := aCells_run (P := P) hr ha h1
                obtain ⟨i, hi, hsz⟩ := szof_some hs
                refine ⟨.agg xs', e0 _ ?_, .agg' q2⟩
                unfold loadVar
                rw [run_bind', aggT_run hg]
                simp only [if_true]
                rw [run_bind', rs hi, hsz]
                simp only
                rw [run_bind', q1 w rfl]
                rfl
              · cases h1
  | _ => simp at hx

def aConvF (P : Program) (s d : TypeId) (x : Value) : Option Value := match x with
  | .int _ (.ofNat a) => match P.underlying s with
    | some _ => match P.underlying d with
      | some (.int k) => inLim k a
      | _ => none
    | none => none
  | _ => none

def aBinF (op : BinOp) (x y : Value) : Option Value := match x, y with
  | .int k (.ofNat a), .int l (.ofNat b) => match op with
    | .shl => fastShift op k a b
    | .shr => fastShift op k a b
    | _ => match Nat.beq k.ctorIdx l.ctorIdx with
      | true => fastInt op k a b
      | false => none
  | _, _ => none

theorem aBinF_run {op : BinOp} {t : TypeId} {ox oy : Operand} {x y z : Value} (he : aBinF op x y = some z) (w : World) : (do eqGuard op t ox oy x y; binOp op t x y).run P w = .ok z w ∧ VRel m z z ∧ plain x = true ∧ plain y = true := by
  unfold aBinF at he
  split at he
  · rename_i k a l b
    have g : ∀ v, (binOp op t (.int k (a : Int)) (.int l (b : Int)) = pure v) → z = v → (∃ c, v = .bool c) ∨ (∃ k n, v = .int k n) →
        (do eqGuard op t ox oy (.int k (Int.ofNat a)) (.int l (Int.ofNat b)); binOp op t (.int k (Int.ofNat a)) (.int l (Int.ofNat b))).run P w = .ok z w ∧ VRel m z z ∧ plain (.int k (Int.ofNat a)) = true ∧ plain (.int l (Int.ofNat b)) = true := by
      intro v hb hz hv
      subst hz
      refine ⟨?_, ?_, rfl, rfl⟩
      · rw [run_bind']
        have : (eqGuard op t ox oy (.int k (Int.ofNat a)) (.int l (Int.ofNat b))).run P w = .ok () w := by
          unfold eqGuard; cases op <;> rfl
        rw [this]
        simp only
        have hb' : binOp op t (.int k (Int.ofNat a)) (.int l (Int.ofNat b)) = pure z := hb
        rw [hb']; rfl
      · rcases hv with ⟨c, rfl⟩ | ⟨k, n, rfl⟩
        · exact .bool _
        · exact .int _ _
    have sh : ∀ op', op' = op → fastShift op' k a b = some z → (∃ c, z = .bool c) ∨ (∃ k n, z = .int k n) := by
      intro op' _ hs
      unfold fastShift inLim at hs
      split at hs <;> (try cases hs) <;> split at hs <;> (try cases hs) <;> (try split at hs) <;> (try cases hs) <;> exact .inr ⟨_, _, rfl⟩
    have nt : fastInt op k a b = some z → (∃ c, z = .bool c) ∨ (∃ k n, z = .int k n) := by
      intro hs
      unfold fastInt inLim at hs
      repeat' split at hs
      all_goals first | (cases hs; done) | (cases hs; exact .inl ⟨_, rfl⟩) | (cases hs; exact .inr ⟨_, _, rfl⟩)
    split at he
    · exact g z (fastShift_run he) rfl (sh _ rfl he)
    · exact g z (fastShift_run he) rfl (sh _ rfl he)
    · split at he
      · rename_i hk
        have hkl : k = l := by
          have := Nat.eq_of_beq_eq_true hk
          cases k <;> cases l <;> first | rfl | (exact absurd this (by decide))
        subst hkl
        exact g z (fastInt_run he) rfl (nt he)
      · cases he
  · cases he

theorem aConvF_run {s d : TypeId} {x z : Value} (he : aConvF P s d x = some z) (w : World) : (convert s d x).run P w = .ok z w ∧ VRel m z z ∧ plain x = true := by
  unfold aConvF at he
  split at he
  · rename_i k0 a
    cases hs : P.underlying s with
    | none => simp [hs] at he
    | some ds =>
      cases hd : P.underlying d with
      | none => simp [hs, hd] at he
      | some dd =>
        cases dd <;> simp only [hs, hd] at he <;> try (cases he; done)
        rename_i k
        have := inLim_some he
        refine ⟨?_, by rw [this]; exact .int _ _, rfl⟩
        unfold convert
        rw [run_bind', ru hs]
        simp only
        rw [run_bind', ru hd]
        simp only
        rw [this]
        rfl
  · cases he

/-- An operation by its short cut, or else as it stands. -/
def aopF (E : Env) (o : Oper) (ρ : Operand → Value) (h : AH) : Option (Next × AH) := match o.op with
  | .binOp op t x y u => match aBinF op (ρ x) (ρ y) with
    | some v => some (.value v, h)
    | none => aop E o ρ h
  | .convert s d x => match aConvF E.P s d (ρ x) with
    | some v => some (.value v, h)
    | none => aop E o ρ h
  | .load t a => match aLoadF E.P t (ρ a) h with
    | some v => some (.value v, h)
    | none => aop E o ρ h
  | _ => aop E o ρ h

theorem aopF_run {E : Env} (hE : EnvOK E) {o : Oper} {ρ ρ' : Operand → Value} {nx : Next} {h' : AH} (hr : HRel U m h w) (hρ : ∀ x, VRel m (ρ x) (ρ' x)) (he : aopF E o ρ h = some (nx, h')) :
    Res U E.P m h w (execOp ρ' o) nx h' := by
  obtain ⟨dst, op, type, pos, after, guard⟩ := o
  unfold aopF at he
  cases op <;> simp only at he <;> try (exact aop_run hE hr hρ he)
  case binOp op t x y u =>
    cases hb : aBinF op (ρ x) (ρ y) with
    | none => simp only [hb] at he; exact aop_run hE hr hρ he
    | some v =>
      simp only [hb, Option.some.injEq, Prod.mk.injEq] at he
      obtain ⟨rfl, rfl⟩ := he
      obtain ⟨_, _, p1, p2⟩ := aBinF_run (P := E.P) (m := m) (t := t) (ox := x) (oy := y) hb w
      have e1 := (hρ x).plain p1
      have e2 := (hρ y).plain p2
      obtain ⟨q1, q2, _⟩ := aBinF_run (P := E.P) (m := m) (t := t) (ox := x) (oy := y) hb w
      refine .val hr ?_ q2
      rw [e1, e2]; exact q1
  case convert s d x =>
    cases hb : aConvF E.P s d (ρ x) with
    | none => simp only [hb] at he; exact aop_run hE hr hρ he
    | some v =>
      simp only [hb, Option.some.injEq, Prod.mk.injEq] at he
      obtain ⟨rfl, rfl⟩ := he
      obtain ⟨q1, q2, p1⟩ := aConvF_run (m := m) hb w
      refine .val hr ?_ q2
      rw [(hρ x).plain p1]; exact q1
  case load t a =>
    cases hb : aLoadF E.P t (ρ a) h with
    | none => simp only [hb] at he; exact aop_run hE hr hρ he
    | some v =>
      simp only [hb, Option.some.injEq, Prod.mk.injEq] at he
      obtain ⟨rfl, rfl⟩ := he
      exact .vx hr (aLoadF_run hr (hρ a) hb)
end
end
end Go.AE
