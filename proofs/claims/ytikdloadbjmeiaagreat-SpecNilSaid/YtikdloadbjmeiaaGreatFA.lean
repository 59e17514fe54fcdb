import Derived.Test.YtikdloadbjmeiaaGreatF1
/- An evaluator over an abstract heap: append, quick. -/
namespace Go.AE
open Go
noncomputable section
variable {ω : Type}

/-- The first n of a list, one after another; too few: d. -/
def takeK (d : ω) (n : Nat) : List Value → (List Value → ω) → ω := Nat.rec (fun _ K => K []) (fun _ ih l K => List.casesOn l d fun x t => ih t fun r => K (x :: r)) n
theorem takeK_eq (d : ω) : ∀ (n : Nat) (l : List Value) (K : List Value → ω), takeK d n l K = d ∨ n ≤ l.length ∧ takeK d n l K = K (l.take n)
  | 0, l, K => .inr ⟨Nat.zero_le _, rfl⟩
  | n + 1, [], K => .inl rfl
  | n + 1, x :: t, K => by
    rcases takeK_eq d n t (fun r => K (x :: r)) with h | ⟨h1, h2⟩
    · exact .inl h
    · exact .inr ⟨by simpa using h1, h2⟩

def dropF (n : Nat) : List Value → List Value := Nat.rec (fun l => l) (fun _ ih l => List.casesOn l [] fun _ t => ih t) n
theorem dropF_eq : ∀ (n : Nat) (l : List Value), dropF n l = l.drop n
  | 0, l => rfl
  | n + 1, [] => rfl
  | n + 1, x :: t => by
    show dropF n t = _
    rw [dropF_eq n t]; simp

def catK (r : List Value) (l : List Value) : (List Value → ω) → ω := List.rec (fun K => K r) (fun x _ ih K => ih fun t => K (x :: t)) l
theorem catK_eq (r : List Value) : ∀ (l : List Value) (K : List Value → ω), catK r l K = K (l ++ r)
  | [], K => rfl
  | x :: l, K => by
    show catK r l (fun t => K (x :: t)) = _
    rw [catK_eq r l]; rfl

/-- So many cells of a row, some. -/
def cellsK (h : AH) (a : Addr) (n : Nat) (d : ω) (K : List Value → ω) : ω := match a.spot with
  | some _ => d
  | none => match n with
    | 0 => d
    | n + 1 => match h.get a.block with
      | some o => match o with
        | .cells C _ _ => takeK d (n + 1) (dropF a.off C.toList) K
        | _ => d
      | none => d

theorem cellsK_eq (h : AH) (a : Addr) (n : Nat) (d : ω) (K : List Value → ω) : cellsK h a n d K = d ∨ ∃ cs, aCells h a n = some ⟨cs⟩ ∧ cellsK h a n d K = K cs := by
  unfold cellsK aCells
  cases a.spot with
  | some _ => exact .inl rfl
  | none =>
    cases n with
    | zero => exact .inl rfl
    | succ n =>
      simp only
      cases h.get a.block with
      | none => exact .inl rfl
      | some o =>
        cases o <;> try (exact .inl rfl)
        simp only
        rename_i C _ _
        rcases takeK_eq d (n + 1) (dropF a.off C.toList) K with h1 | ⟨h1, h2⟩
        · exact .inl h1
        · refine .inr ⟨_, ?_, h2⟩
          rw [dropF_eq] at h1 ⊢
          simp only [List.length_drop, Array.length_toList] at h1
          have : Nat.ble (a.off + (n + 1)) C.size = true := Nat.ble_eq_true_of_le (by omega)
          rw [this]
          simp only [Option.some.injEq]
          apply Array.ext'
          simp [List.take_drop]

def newsK (z : Nat) (x : Value) (h : AH) (d : ω) (K : Nat → List Value → ω) : ω := match x with
  | .slice a l _ => match a with
    | none => d
    | some a => match l with
      | 0 => d
      | l + 1 => cellsK h a (Nat.mul (l + 1) z) d (K (l + 1))
  | _ => d

theorem newsK_eq (z : Nat) (x : Value) (h : AH) (d : ω) (K : Nat → List Value → ω) : newsK z x h d K = d ∨ ∃ n cs, aNews z x h = some (n + 1, ⟨cs⟩) ∧ newsK z x h d K = K (n + 1) cs := by
  unfold newsK
  cases x <;> try (exact .inl rfl)
  simp only
  rename_i a l c
  cases a with
  | none => exact .inl rfl
  | some a =>
    cases l with
    | zero => exact .inl rfl
    | succ l =>
      simp only
      rcases cellsK_eq h a (Nat.mul (l + 1) z) d (K (l + 1)) with h1 | ⟨cs, h1, h2⟩
      · exact .inl h1
      · refine .inr ⟨l, cs, ?_, h2⟩
        unfold aNews
        have h1' : aCells h a ((l + 1) * z) = some ⟨cs⟩ := h1
        simp only [h1']

/-- A new row. -/
def pushAt (h : AH) (n : Nat) (ob : Obj) : AH := AH.rec (motive := fun _ => AH) (fun base tr _ floor => ⟨base, tr.set (Nat.add n 1) ob, Nat.add n 1, floor⟩) h

def rowK (h : AH) (e : TypeId) (cs : List Value) (d : ω) (K : Addr → AH → ω) : ω := match h.get h.fresh with
  | some _ => d
  | none => Nat.rec d (fun n _ => K ⟨n, 0, none⟩ (pushAt h n (.cells ⟨cs⟩ e))) (Nat.add h.fresh 1)

theorem rowK_eq (h : AH) (e : TypeId) (cs : List Value) (d : ω) (K : Addr → AH → ω) : rowK h e cs d K = d ∨ ∃ a h', aRow h e ⟨cs⟩ = some (a, h') ∧ rowK h e cs d K = K a h' := by
  unfold rowK aRow aNew
  cases h.get h.fresh with
  | some _ => exact .inl rfl
  | none => exact .inr ⟨_, _, rfl, rfl⟩

structure Ap (ω : Type) where
  run : Value → Value → AH → (Value → AH → ω) → ω → ω

def noAp : Ap ω := ⟨fun _ _ _ _ d => d⟩

def appK (e : TypeId) (z b : Nat) (s : Value) (n : Nat) (cs : List Value) (h : AH) (K : Value → AH → ω) (d : ω) : ω := match s with
  | .slice a l c => match a with
    | none => match l with
      | 0 => match c with
        | 0 => match Nat.ble (Nat.mul n b) 140737488355328 with
          | true => match Nat.ble n 9223372036854775807 with
            | true => rowK h e cs d fun a h' => K (.slice (some a) n (unk z n)) h'
            | false => d
          | false => d
        | _ + 1 => d
      | _ + 1 => d
    | some a => match Nat.ble big c with
      | true => match Nat.beq (Nat.sub (Nat.div c big) 1) z with
        | true => match Nat.ble h.floor a.block with
          | true => match Nat.ble (Nat.mul (Nat.add l n) b) 140737488355328 with
            | true => match Nat.ble (Nat.add l n) 9223372036854775807 with
              | true => cellsK h a (Nat.mul l z) d fun old => catK cs old fun all => rowK (h.put a.block dead) e all d fun a' h' => K (.slice (some a') (Nat.add l n) (unk z (Nat.add l n))) h'
              | false => d
            | false => d
          | false => d
        | false => d
      | false => d
  | _ => d

def appC (P : Program) (t tx : TypeId) : Ap ω := match P.underlying t with
  | some (.slice e) => match P.info? e with
    | some i => match zeroCs P e with
      | some zs => match srcKind P tx with
        | true => match Nat.beq zs.size i.size with
          | true => ⟨fun s x h K d => newsK i.size x h d fun n cs => match allOneF cs with
            | true => appK e i.size i.bytes s n cs h K d
            | false => d⟩
          | false => noAp
        | false => noAp
      | none => noAp
    | none => noAp
  | _ => noAp

theorem appC_eq (P : Program) (t tx : TypeId) (s x : Value) (h : AH) (K : Value → AH → ω) (d : ω) : (appC P t tx).run s x h K d = d ∨ ∃ v h', aAppend P t tx s x h = some (v, h') ∧ (appC P t tx).run s x h K d = K v h' := by
  unfold appC aAppend
  cases hu : P.underlying t with
  | none => exact .inl rfl
  | some ud =>
  cases ud <;> try (exact .inl rfl)
  simp only
  rename_i e
  cases hi : P.info? e with
  | none => exact .inl rfl
  | some i =>
  simp only
  cases hz : zeroCs P e with
  | none => exact .inl rfl
  | some zs =>
  simp only
  cases hk : srcKind P tx with
  | false => exact .inl rfl
  | true =>
  simp only
  cases hb : Nat.beq zs.size i.size with
  | false => exact .inl rfl
  | true =>
  simp only
  rcases newsK_eq i.size x h d (fun n cs => match allOneF cs with
            | true => appK e i.size i.bytes s n cs h K d
            | false => d) with h1 | ⟨n, cs, h1, h2⟩
  · exact .inl h1
  rw [h2, h1]
  simp only
  rw [allOneF_eq]
  cases ho : allOne cs with
  | false => exact .inl rfl
  | true =>
  simp only
  unfold appK
  cases s <;> try (exact .inl rfl)
  simp only
  rename_i a l c
  cases a with
  | none =>
    cases l <;> try (exact .inl rfl)
    simp only
    cases c <;> try (exact .inl rfl)
    simp only
    rw [show Nat.mul (n + 1) i.bytes = (n + 1) * i.bytes from rfl]
    cases Nat.ble ((n + 1) * i.bytes) 140737488355328 <;> try (exact .inl rfl)
    simp only
    cases Nat.ble (n + 1) 9223372036854775807 <;> try (exact .inl rfl)
    simp only
    rcases rowK_eq h e cs d (fun a h' => K (.slice (some a) (n + 1) (unk i.size (n + 1))) h') with q | ⟨a, h', q1, q2⟩
    · exact .inl q
    · exact .inr ⟨_, _, by rw [q1], q2⟩
  | some a =>
    simp only
    cases hbc : Nat.ble big c <;> try (exact .inl rfl)
    simp only
    rw [show Nat.sub (Nat.div c big) 1 = c / big - 1 from rfl]
    cases Nat.beq (c / big - 1) i.size <;> try (exact .inl rfl)
    simp only
    cases Nat.ble h.floor a.block <;> try (exact .inl rfl)
    simp only
    rw [show Nat.mul (Nat.add l (n + 1)) i.bytes = (l + (n + 1)) * i.bytes from rfl, show Nat.add l (n + 1) = l + (n + 1) from rfl]
    cases Nat.ble ((l + (n + 1)) * i.bytes) 140737488355328 <;> try (exact .inl rfl)
    simp only
    cases Nat.ble (l + (n + 1)) 9223372036854775807 <;> try (exact .inl rfl)
    simp only
    rcases cellsK_eq h a (Nat.mul l i.size) d (fun old => catK cs old fun all => rowK (h.put a.block dead) e all d fun a' h' => K (.slice (some a') (l + (n + 1)) (unk i.size (l + (n + 1)))) h') with q | ⟨old, q1, q2⟩
    · exact .inl q
    rw [q2, catK_eq]
    rw [show aCells h a (l * i.size) = some ⟨old⟩ from q1]
    simp only
    rcases rowK_eq (h.put a.block dead) e (old ++ cs) d (fun a' h' => K (.slice (some a') (l + (n + 1)) (unk i.size (l + (n + 1)))) h') with q | ⟨a', h', r1, r2⟩
    · exact .inl q
    · refine .inr ⟨_, _, ?_, r2⟩
      have e1 : (⟨old⟩ ++ ⟨cs⟩ : Array Value) = ⟨old ++ cs⟩ := by apply Array.ext'; simp
      rw [e1, r1]
end
end Go.AE
