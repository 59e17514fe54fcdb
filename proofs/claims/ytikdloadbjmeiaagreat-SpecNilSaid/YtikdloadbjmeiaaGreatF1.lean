import Derived.Test.YtikdloadbjmeiaaGreatS11
/- An evaluator over an abstract heap: the same, quick: what hangs on the code alone is found once. -/
namespace Go.AE
open Go
noncomputable section

/-- An operand's value. -/
structure Vc where
  run : St → Value

def opdC (x : Operand) : Vc := match x with
  | .tmp t => ⟨fun s => Option.rec undef (fun v => v) (s.tmps.get (Nat.add t 1))⟩
  | .const v => match plain v with
    | true => ⟨fun _ => v⟩
    | false => ⟨fun _ => undef⟩
  | .global _ => ⟨fun _ => undef⟩
  | .func f => ⟨fun _ => .func (.func f) #[] #[]⟩

theorem opdC_eq (x : Operand) (s : St) : (opdC x).run s = s.eval x := by
  cases x with
  | tmp t =>
    show Option.rec undef (fun v => v) (s.tmps.get (t + 1)) = s.get t
    unfold St.get
    cases s.tmps.get (t + 1) <;> rfl
  | const v =>
    unfold opdC St.eval
    simp only
    cases plain v <;> rfl
  | global g => rfl
  | func f => rfl

structure Fv where
  run : St → Option Value

/-- An answer that is none. -/
def noF : Fv := ⟨fun _ => none⟩

/-- The number is found here, once. -/
def inLimC (k : IntKind) (s : Nat) : Option Value := Nat.rec (some (.int k (.ofNat 0))) (fun n _ => Bool.rec none (some (.int k (.ofNat (Nat.succ n)))) (Nat.ble (Nat.succ n) (lim k))) s
theorem inLimC_eq (k : IntKind) (s : Nat) : inLimC k s = inLim k s := by
  unfold inLimC inLim
  cases s with
  | zero => cases k <;> rfl
  | succ n => simp only; cases Nat.ble (n + 1) (lim k) <;> rfl

structure Nc where
  run : IntKind → Nat → Nat → Option Value

def numC (op : BinOp) : Nc := match op with
  | .add => ⟨fun k a b => inLimC k (Nat.add a b)⟩
  | .sub => ⟨fun k a b => Bool.rec none (inLimC k (Nat.sub a b)) (Nat.ble b a)⟩
  | .mul => ⟨fun k a b => inLimC k (Nat.mul a b)⟩
  | .quo => ⟨fun k a b => Bool.rec (inLimC k (Nat.div a b)) none (Nat.beq b 0)⟩
  | .rem => ⟨fun k a b => Bool.rec (some (.int k (.ofNat (Nat.mod a b)))) none (Nat.beq b 0)⟩
  | .eql => ⟨fun _ a b => some (.bool (Nat.beq a b))⟩
  | .neq => ⟨fun _ a b => some (.bool (Bool.rec true false (Nat.beq a b)))⟩
  | .lss => ⟨fun _ a b => some (.bool (Nat.ble (Nat.succ a) b))⟩
  | .leq => ⟨fun _ a b => some (.bool (Nat.ble a b))⟩
  | .gtr => ⟨fun _ a b => some (.bool (Nat.ble (Nat.succ b) a))⟩
  | .geq => ⟨fun _ a b => some (.bool (Nat.ble b a))⟩
  | .and => ⟨fun k a b => Bool.rec none (Bool.rec none (inLimC k (Nat.land a b)) (Nat.ble b (lim k))) (Nat.ble a (lim k))⟩
  | .or => ⟨fun k a b => Bool.rec none (Bool.rec none (inLimC k (Nat.lor a b)) (Nat.ble b (lim k))) (Nat.ble a (lim k))⟩
  | .xor => ⟨fun k a b => Bool.rec none (Bool.rec none (inLimC k (Nat.xor a b)) (Nat.ble b (lim k))) (Nat.ble a (lim k))⟩
  | _ => ⟨fun _ _ _ => none⟩

theorem numC_eq (op : BinOp) (k : IntKind) (a b : Nat) : (numC op).run k a b = fastInt op k a b := by
  cases op <;> simp only [numC, fastInt, inLimC_eq] <;> first
    | rfl
    | (cases Nat.ble b a <;> rfl)
    | (cases Nat.beq b 0 <;> rfl)
    | (cases Nat.beq a b <;> rfl)
    | (cases Nat.ble a (lim k) <;> cases Nat.ble b (lim k) <;> rfl)

def shC (op : BinOp) : Nc := match op with
  | .shr => ⟨fun k a b => Bool.rec none (some (.int k (.ofNat (Nat.div a (Nat.pow 2 b))))) (Nat.ble b (bitsOf k))⟩
  | .shl => ⟨fun k a b => Bool.rec none (inLimC k (Nat.mul a (Nat.pow 2 b))) (Nat.ble b (bitsOf k))⟩
  | _ => ⟨fun _ _ _ => none⟩

theorem shC_eq (op : BinOp) (k : IntKind) (a b : Nat) : (shC op).run k a b = fastShift op k a b := by
  cases op <;> simp only [shC, fastShift, inLimC_eq] <;> first
    | rfl
    | (cases Nat.ble b (bitsOf k) <;> rfl)

/-- Both numbers of a pair. -/
def twoN (x y : Value) (f : IntKind → IntKind → Nat → Nat → Option Value) : Option Value := match x with
  | .int k a => match a with
    | .ofNat a => match y with
      | .int l b => match b with
        | .ofNat b => f k l a b
        | .negSucc _ => none
      | _ => none
    | .negSucc _ => none
  | _ => none

structure Bc where
  run : Value → Value → Option Value

def binC (op : BinOp) : Bc := match op with
  | .shl => ⟨fun x y => twoN x y fun k _ a b => (shC .shl).run k a b⟩
  | .shr => ⟨fun x y => twoN x y fun k _ a b => (shC .shr).run k a b⟩
  | op => ⟨fun x y => twoN x y fun k l a b => Bool.rec none ((numC op).run k a b) (Nat.beq k.ctorIdx l.ctorIdx)⟩

theorem binC_eq (op : BinOp) (x y : Value) {v : Value} (h : (binC op).run x y = some v) : aBinF op x y = some v := by
  have nt : ∀ f, twoN x y f = some v → ∃ k a l b, x = .int k (.ofNat a) ∧ y = .int l (.ofNat b) ∧ f k l a b = some v := by
    intro f hf
    unfold twoN at hf
    cases x <;> simp only at hf <;> try (cases hf; done)
    rename_i k a
    cases a <;> simp only at hf <;> try (cases hf; done)
    rename_i a
    cases y <;> simp only at hf <;> try (cases hf; done)
    rename_i l b
    cases b <;> simp only at hf <;> try (cases hf; done)
    exact ⟨_, _, _, _, rfl, rfl, hf⟩
  have sh : ∀ op', (op = .shl ∨ op = .shr) → op' = op → (twoN x y fun k _ a b => (shC op').run k a b) = some v → aBinF op x y = some v := by
    intro op' ho e hf
    subst e
    obtain ⟨k, a, l, b, rfl, rfl, hf2⟩ := nt _ hf
    replace hf := hf2
    rw [shC_eq] at hf
    unfold aBinF
    rcases ho with rfl | rfl <;> exact hf
  have nm : op ≠ .shl → op ≠ .shr → (twoN x y fun k l a b => Bool.rec none ((numC op).run k a b) (Nat.beq k.ctorIdx l.ctorIdx)) = some v → aBinF op x y = some v := by
    intro h1 h2 hf
    obtain ⟨k, a, l, b, rfl, rfl, hf2⟩ := nt _ hf
    replace hf := hf2
    unfold aBinF
    simp only
    cases hk : Nat.beq k.ctorIdx l.ctorIdx with
    | false => rw [hk] at hf; cases hf
    | true =>
      rw [hk] at hf
      have hf' : fastInt op k a b = some v := by rw [← numC_eq]; exact hf
      cases op <;> first | exact hf' | exact absurd rfl h1 | exact absurd rfl h2
  cases op <;> first
    | exact sh .shl (.inl rfl) rfl h
    | exact sh .shr (.inr rfl) rfl h
    | exact nm (by simp) (by simp) h

/-! ### Numbers that run over -/
def uns (k : IntKind) : Bool := match k with
  | .u8 | .u16 | .u32 | .u64 => true
  | _ => false

theorem wrap_uns {k : IntKind} (hu : uns k = true) (n : Nat) : k.wrap (n : Int) = ((Nat.mod n (Nat.succ (lim k)) : Nat) : Int) := by
  cases k <;> simp [uns] at hu <;> simp only [IntKind.wrap, IntKind.bits, IntKind.signed, lim, Bool.false_and, Bool.false_eq_true, if_false] <;> exact (Int.natCast_emod n _).symm

def uwrap (k : IntKind) (n : Nat) : Option Value := Bool.rec none (some (.int k (.ofNat (Nat.mod n (Nat.succ (lim k)))))) (uns k)

theorem uwrap_some {k : IntKind} {n : Nat} {v : Value} (h : uwrap k n = some v) : v = .int k (k.wrap (n : Int)) ∧ uns k = true := by
  unfold uwrap at h
  cases hu : uns k with
  | false => rw [hu] at h; cases h
  | true =>
    rw [hu] at h
    simp only [Option.some.injEq] at h
    exact ⟨by rw [wrap_uns hu]; exact h.symm, rfl⟩

structure Wn where
  run : IntKind → IntKind → Nat → Nat → Option Value

def sameK (k l : IntKind) (r : Option Value) : Option Value := Bool.rec none r (Nat.beq k.ctorIdx l.ctorIdx)

def wrpN (op : BinOp) : Wn := match op with
  | .add => ⟨fun k l a b => sameK k l (uwrap k (Nat.add a b))⟩
  | .mul => ⟨fun k l a b => sameK k l (uwrap k (Nat.mul a b))⟩
  | .sub => ⟨fun k l a b => sameK k l (Bool.rec none (uwrap k (Nat.sub (Nat.add a (Nat.succ (lim k))) b)) (Nat.ble b (lim k)))⟩
  | .shl => ⟨fun k _ a b => Bool.rec none (uwrap k (Nat.mul a (Nat.pow 2 b))) (Nat.ble b (bitsOf k))⟩
  | _ => ⟨fun _ _ _ _ => none⟩

theorem sameK_some {k l : IntKind} {r : Option Value} {v : Value} (h : sameK k l r = some v) : k = l ∧ r = some v := by
  unfold sameK at h
  cases hk : Nat.beq k.ctorIdx l.ctorIdx with
  | false => rw [hk] at h; cases h
  | true =>
    rw [hk] at h
    have := Nat.eq_of_beq_eq_true hk
    exact ⟨by cases k <;> cases l <;> first | rfl | (exact absurd this (by decide)), h⟩

theorem wrpN_run {op : BinOp} {t : TypeId} {k l : IntKind} {a b : Nat} {v : Value} (h : (wrpN op).run k l a b = some v) : binOp op t (.int k (a : Int)) (.int l (b : Int)) = pure v ∧ (op = .add ∨ op = .mul ∨ op = .sub ∨ op = .shl) ∧ ∃ n, v = .int k n := by
  cases op <;> simp only [wrpN] at h <;> try (cases h; done)
  case add =>
    obtain ⟨rfl, h1⟩ := sameK_some h
    obtain ⟨rfl, _⟩ := uwrap_some h1
    exact ⟨by simp [binOp, Op.intArith], .inl rfl, _, rfl⟩
  case mul =>
    obtain ⟨rfl, h1⟩ := sameK_some h
    obtain ⟨rfl, _⟩ := uwrap_some h1
    exact ⟨by simp [binOp, Op.intArith], .inr (.inl rfl), _, rfl⟩
  case sub =>
    obtain ⟨rfl, h1⟩ := sameK_some h
    cases hb : Nat.ble b (lim k) with
    | false => rw [hb] at h1; cases h1
    | true =>
      rw [hb] at h1
      obtain ⟨rfl, hu⟩ := uwrap_some h1
      have hle := Nat.le_of_ble_eq_true hb
      refine ⟨?_, .inr (.inr (.inl rfl)), _, rfl⟩
      have e : ((Nat.sub (Nat.add a (Nat.succ (lim k))) b : Nat) : Int) = (a : Int) - b + (Nat.succ (lim k) : Nat) := by
        show ((a + (lim k + 1) - b : Nat) : Int) = _
        rw [Int.ofNat_sub (by omega)]
        push_cast
        omega
      have : k.wrap ((a : Int) - b) = k.wrap ((Nat.sub (Nat.add a (Nat.succ (lim k))) b : Nat) : Int) := by
        rw [e]
        cases k <;> simp [uns] at hu <;> simp [IntKind.wrap, IntKind.bits, IntKind.signed, lim]
      rw [← this]
      simp [binOp, Op.intArith]
  case shl =>
    cases hb : Nat.ble b (bitsOf k) with
    | false => rw [hb] at h; cases h
    | true =>
      rw [hb] at h
      obtain ⟨rfl, hu⟩ := uwrap_some h
      have hle := Nat.le_of_ble_eq_true hb
      have h0 : ¬ ((b : Int) < 0) := by omega
      refine ⟨?_, .inr (.inr (.inr rfl)), _, rfl⟩
      simp only [binOp, Op.shift, h0, if_false, Int.toNat_natCast, bitsOf_eq, Nat.min_eq_left hle]
      congr 2

def wrpC (op : BinOp) (x y : Value) : Option Value := twoN x y fun k l a b => (wrpN op).run k l a b

theorem twoN_some {x y v : Value} {f : IntKind → IntKind → Nat → Nat → Option Value} (hf : twoN x y f = some v) : ∃ k a l b, x = .int k (.ofNat a) ∧ y = .int l (.ofNat b) ∧ f k l a b = some v := by
  unfold twoN at hf
  cases x <;> simp only at hf <;> try (cases hf; done)
  rename_i k a
  cases a <;> simp only at hf <;> try (cases hf; done)
  rename_i a
  cases y <;> simp only at hf <;> try (cases hf; done)
  rename_i l b
  cases b <;> simp only at hf <;> try (cases hf; done)
  exact ⟨_, _, _, _, rfl, rfl, hf⟩

theorem aBinF_pure {op : BinOp} {t : TypeId} {k l : IntKind} {a b : Nat} {v : Value} (h : aBinF op (.int k (.ofNat a)) (.int l (.ofNat b)) = some v) : binOp op t (.int k (a : Int)) (.int l (b : Int)) = pure v := by
  unfold aBinF at h
  have nm : (match Nat.beq k.ctorIdx l.ctorIdx with
      | true => fastInt op k a b
      | false => none) = some v → binOp op t (.int k (a : Int)) (.int l (b : Int)) = pure v := by
    intro h2
    cases hk : Nat.beq k.ctorIdx l.ctorIdx with
    | false => simp [hk] at h2
    | true =>
      simp only [hk] at h2
      have := Nat.eq_of_beq_eq_true hk
      have hkl : k = l := by cases k <;> cases l <;> first | rfl | (exact absurd this (by decide))
      subst hkl
      exact fastInt_run h2
  cases op <;> simp only at h <;> first | exact nm h | exact fastShift_run h

theorem wrpC_ok {P : Program} {op : BinOp} {t : TypeId} {ox oy : Operand} {x y v : Value} (h : wrpC op x y = some v) : (match aBinF op x y with
    | some v => some v
    | none => aBin P op t ox oy x y) = some v := by
  obtain ⟨k, a, l, b, rfl, rfl, h0⟩ := twoN_some h
  obtain ⟨h1, h2, n, rfl⟩ := wrpN_run (t := t) h0
  cases hb : aBinF op (.int k (.ofNat a)) (.int l (.ofNat b)) with
  | some v' =>
    have := aBinF_pure (t := t) hb
    rw [h1] at this
    have e : Value.int k n = v' := Sem.pure.inj this
    rw [e]
  | none =>
    simp only
    unfold aBin
    simp only [plain]
    have h1' : binOp op t (.int k (Int.ofNat a)) (.int l (Int.ofNat b)) = pure (.int k n) := h1
    have hg : eqGuard op t ox oy (.int k (Int.ofNat a)) (.int l (Int.ofNat b)) = pure () := by
      unfold eqGuard
      rcases h2 with rfl | rfl | rfl | rfl <;> rfl
    have : (do eqGuard op t ox oy (.int k (Int.ofNat a)) (.int l (Int.ofNat b)); binOp op t (.int k (Int.ofNat a)) (.int l (Int.ofNat b))) = (pure (.int k n) : Sem Value) := by
      rw [hg, h1']; rfl
    rw [this]
    rfl

def notC (x : Value) : Option Value := match x with
  | .bool b => some (.bool (Bool.rec true false b))
  | _ => none

def bitnotC (x : Value) : Option Value := match x with
  | .int k a => match a with
    | .ofNat a => Bool.rec none (Bool.rec none (some (.int k (.ofNat (Nat.sub (lim k) a)))) (Nat.ble a (lim k))) (uns k)
    | .negSucc _ => none
  | _ => none

theorem bitnotC_run {x v : Value} (h : bitnotC x = some v) : Op.unary .xor x = pure v ∧ plain x = true ∧ plain v = true := by
  unfold bitnotC at h
  cases x <;> simp only at h <;> try (cases h; done)
  rename_i k a
  cases a <;> simp only at h <;> try (cases h; done)
  rename_i a
  cases hu : uns k with
  | false => rw [hu] at h; cases h
  | true =>
    rw [hu] at h
    cases hl : Nat.ble a (lim k) with
    | false => rw [hl] at h; cases h
    | true =>
      rw [hl] at h
      simp only [Option.some.injEq] at h
      subst h
      have hle := Nat.le_of_ble_eq_true hl
      refine ⟨?_, rfl, rfl⟩
      have hmax : (BitVec.ofInt k.bits k.max) = BitVec.allOnes k.bits := by cases k <;> simp [uns] at hu <;> decide
      have hs : k.signed = false := by cases k <;> simp [uns] at hu <;> rfl
      have hlim : 2 ^ k.bits - 1 = lim k := by cases k <;> simp [uns] at hu <;> decide
      simp only [Op.unary, hs, Bool.false_eq_true, if_false, Op.intBits, hmax]
      rw [BitVec.allOnes_xor, BitVec.toNat_not, show (Int.ofNat a) = (a : Int) from rfl, ofInt_toNat hle, hlim]
      congr 2
      rw [wrap_lim k _ (by omega)]
      rfl

def convC (k : IntKind) (x : Value) : Option Value := match x with
  | .int _ a => match a with
    | .ofNat a => Bool.rec (inLimC k a) (some (.int k (.ofNat (Nat.mod a (Nat.succ (lim k)))))) (uns k)
    | .negSucc _ => none
  | _ => none

theorem convC_ok {E : Env} {s d : TypeId} {x v : Value} {ds : TypeDesc} {k : IntKind} (hs : E.P.underlying s = some ds) (hd : E.P.underlying d = some (.int k)) (h : convC k x = some v) : (match aConvF E.P s d x with
    | some r => some r
    | none => match plain x with
      | true => pv E.P (convert s d x)
      | false => none) = some v := by
  unfold convC at h
  cases x <;> simp only at h <;> try (cases h; done)
  rename_i k0 a
  cases a <;> simp only at h <;> try (cases h; done)
  rename_i a
  have hc : convert s d (.int k0 (.ofNat a)) = convert s d (.int k0 (.ofNat a)) := rfl
  have hv : v = .int k (k.wrap (a : Int)) := by
    cases hu : uns k with
    | false => rw [hu, inLimC_eq] at h; exact inLim_some h
    | true =>
      rw [hu] at h
      simp only [Option.some.injEq] at h
      rw [wrap_uns hu]; exact h.symm
  have hF : aConvF E.P s d (.int k0 (.ofNat a)) = inLim k a := by
    unfold aConvF
    simp only [hs, hd]
  rw [hF]
  cases hi : inLim k a with
  | some r => simp only; rw [hv, inLim_some hi]
  | none =>
    simp only [plain]
    have hp : prun E.P (convert s d (.int k0 (.ofNat a))) = some v := by
      unfold convert Go.underlying
      simp only [Bind.bind, Sem.bind, Go.program, prun, hs, hd, Pure.pure]
      rw [hv]
      rfl
    unfold pv
    rw [hp]
    subst hv
    rfl

def ptrOf (v : Value) (f : Addr → Option Value) : Option Value := match v with
  | .pointer a => match a with
    | some a => match a.spot with
      | none => f a
      | some _ => none
    | none => none
  | _ => none

theorem ptrOf_some {v r : Value} {f : Addr → Option Value} (h : ptrOf v f = some r) : ∃ a, v = .pointer (some a) ∧ a.spot = none ∧ f a = some r := by
  unfold ptrOf at h
  cases v <;> simp only at h <;> try (cases h; done)
  rename_i o
  cases o with
  | none => cases h
  | some a =>
    simp only at h
    cases hs : a.spot with
    | some _ => simp [hs] at h
    | none => simp only [hs] at h; exact ⟨a, rfl, hs, h⟩

def nthL : Nat → List Value → Option Value := fun i => Nat.rec (fun l => List.casesOn l none fun v _ => some v) (fun _ ih l => List.casesOn l none fun _ l => ih l) i
theorem nthL_eq : ∀ (i : Nat) (l : List Value), nthL i l = l[i]?
  | 0, [] => rfl
  | 0, _ :: _ => rfl
  | i + 1, [] => rfl
  | i + 1, _ :: l => by
    show nthL i l = _
    rw [nthL_eq i l]; simp

def cellC (h : AH) (a : Addr) : Option Value := Option.rec none (fun o => match o with
  | .cells c _ _ => nthL a.off c.toList
  | _ => none) (h.get a.block)

theorem cellC_eq (h : AH) (a : Addr) (hs : a.spot = none) : cellC h a = h.cell a := by
  unfold cellC AH.cell
  rw [hs]
  simp only
  cases h.get a.block with
  | none => rfl
  | some o => cases o <;> simp only <;> first | rfl | (rw [nthL_eq]; simp)

section
variable (E : Env)

/-- A value without calls or new memory, the quick way. -/
def fastV (o : Oper) : Fv := match o.op with
  | .move x => ⟨fun s => some ((opdC x).run s)⟩
  | .assign x => ⟨fun s => some ((opdC x).run s)⟩
  | .pick c a b => ⟨fun s => match (opdC c).run s with
    | .bool t => some (Bool.rec ((opdC b).run s) ((opdC a).run s) t)
    | _ => none⟩
  | .binOp op _ x y _ => ⟨fun s => Option.rec (wrpC op ((opdC x).run s) ((opdC y).run s)) (fun v => some v) ((binC op).run ((opdC x).run s) ((opdC y).run s))⟩
  | .unOp op _ x => match op with
    | .not => ⟨fun s => notC ((opdC x).run s)⟩
    | .xor => ⟨fun s => bitnotC ((opdC x).run s)⟩
    | _ => noF
  | .convert st d x => match E.P.underlying st with
    | some _ => match E.P.underlying d with
      | some (.int k) => ⟨fun s => convC k ((opdC x).run s)⟩
      | _ => noF
    | none => noF
  | .load t a => match aggT E.P t with
    | some false => ⟨fun s => ptrOf ((opdC a).run s) fun ad => cellC s.heap ad⟩
    | some true => match szof E.P t with
      | some (n + 1) => ⟨fun s => ptrOf ((opdC a).run s) fun ad => Option.rec none (fun ys => some (.agg ⟨ys⟩)) (aCellsF s.heap ad (n + 1))⟩
      | _ => noF
    | none => noF
  | .fieldAddr st x i => match E.P.underlying st with
    | some (.struct fs) => match fs[i]? with
      | some f => match szof E.P f.type with
        | some (_ + 1) => ⟨fun s => ptrOf ((opdC x).run s) fun a => some (.pointer (some ⟨a.block, Nat.add a.off f.offset, none⟩))⟩
        | _ => noF
      | none => noF
    | _ => noF
  | .indexAddr t x i => match E.P.underlying t with
    | some (.array len e) => match szof E.P e with
      | some z => ⟨fun s => match (opdC i).run s with
        | .int _ n => match n with
          | .ofNat n => ptrOf ((opdC x).run s) fun a => Bool.rec none (some (.pointer (some ⟨a.block, Nat.add a.off (Nat.mul n z), none⟩))) (Nat.ble (Nat.succ n) len)
          | .negSucc _ => none
        | _ => none⟩
      | none => noF
    | some (.slice e) => match szof E.P e with
      | some z => ⟨fun s => match (opdC i).run s with
        | .int _ n => match n with
          | .ofNat n => match (opdC x).run s with
            | .slice a l _ => match a with
              | some a => match a.spot with
                | none => Bool.rec none (some (.pointer (some ⟨a.block, Nat.add a.off (Nat.mul n z), none⟩))) (Nat.ble (Nat.succ n) l)
                | some _ => none
              | none => none
            | _ => none
          | .negSucc _ => none
        | _ => none⟩
      | none => noF
    | _ => noF
  | .extract x i => ⟨fun s => match (opdC x).run s with
    | .tuple vs => nthL i vs.toList
    | _ => none⟩
  | .call c => match c.callee with
    | .builtin .len => match c.argTypes.toList, c.args.toList with
      | [t], [x] => match E.P.underlying t with
        | some (.slice _) => ⟨fun s => match (opdC x).run s with
          | .slice _ n _ => some (.int .i64 (.ofNat n))
          | _ => none⟩
        | _ => noF
      | _, _ => noF
    | _ => noF
  | _ => noF

variable {E}

theorem addr_add {a : Addr} (hs : a.spot = none) (n : Nat) : (⟨a.block, a.off + n, none⟩ : Addr) = a.add n := by
  unfold Addr.add
  by_cases h : n = 0
  · subst h
    rw [if_pos rfl]
    cases a; simp at hs; subst hs; rfl
  · rw [if_neg h]

theorem fastV_ok {o : Oper} {s : St} {v : Value} (h : (fastV E o).run s = some v) : aflt E o s.eval s.heap = some v := by
  obtain ⟨dst, op, type, pos, after, guard⟩ := o
  unfold fastV at h
  unfold aflt
  cases op <;> simp only at h ⊢ <;> try (cases h; done)
  case move x => rw [← opdC_eq]; exact h
  case assign x => rw [← opdC_eq]; exact h
  case pick c a b =>
    rw [opdC_eq, opdC_eq, opdC_eq] at h
    cases hv : s.eval c <;> simp only [hv] at h ⊢ <;> try (cases h; done)
    rename_i t
    cases t <;> exact h
  case binOp op t x y u =>
    rw [opdC_eq, opdC_eq] at h
    cases hb : (binC op).run (s.eval x) (s.eval y) with
    | some v' =>
      rw [hb] at h
      rw [binC_eq _ _ _ hb]
      exact h
    | none =>
      rw [hb] at h
      exact wrpC_ok h
  case unOp op t x =>
    cases op <;> simp only at h <;> try (cases h; done)
    · rw [opdC_eq] at h
      obtain ⟨h1, h2, h3⟩ := bitnotC_run h
      rw [h2]
      simp only
      unfold pv
      rw [h1]
      show (match plain v with | true => some v | false => none) = some v
      rw [h3]
    · rw [opdC_eq] at h
      unfold notC at h
      cases hv : s.eval x <;> simp only [hv] at h <;> try (cases h; done)
      rename_i b
      cases b <;> (simp only [Option.some.injEq] at h; subst h; rfl)
  case convert st d x =>
    cases hs : E.P.underlying st with
    | none => simp only [hs] at h; cases h
    | some ds =>
      simp only [hs] at h
      cases hd : E.P.underlying d with
      | none => simp only [hd] at h; cases h
      | some dd =>
        cases dd <;> simp only [hd] at h <;> try (cases h; done)
        rename_i k
        rw [opdC_eq] at h
        have := convC_ok (E := E) hs hd h
        unfold convC at h
        cases hv : s.eval x <;> simp only [hv] at h <;> try (cases h; done)
        rw [hv] at this
        exact this
  case load t a =>
    unfold aLoadF
    cases ha : aggT E.P t with
    | none => simp only [ha] at h; cases h
    | some b =>
      cases b with
      | false =>
        simp only [ha] at h
        obtain ⟨ad, e1, e2, e3⟩ := ptrOf_some h
        rw [opdC_eq] at e1
        rw [cellC_eq _ _ e2] at e3
        simp only [e1]; exact e3
      | true =>
        simp only [ha] at h
        cases hs : szof E.P t with
        | none => simp only [hs] at h; cases h
        | some n =>
          cases n with
          | zero => simp only [hs] at h; cases h
          | succ n =>
            simp only [hs] at h
            obtain ⟨ad, e1, e2, e3⟩ := ptrOf_some h
            rw [opdC_eq] at e1
            simp only [e1]
            cases hc : aCellsF s.heap ad (n + 1) with
            | none => rw [hc] at e3; cases e3
            | some ys => rw [hc] at e3; exact e3
  case fieldAddr st x i =>
    unfold aFieldAt
    cases hu : E.P.underlying st with
    | none => simp only [hu] at h; cases h
    | some d =>
      cases d <;> simp only [hu] at h <;> try (cases h; done)
      rename_i fs
      cases hf : fs[i]? with
      | none => simp only [hf] at h; cases h
      | some f =>
        simp only [hf] at h
        cases hz : szof E.P f.type with
        | none => simp only [hz] at h; cases h
        | some n =>
          cases n with
          | zero => simp only [hz] at h; cases h
          | succ n =>
            simp only [hz] at h
            obtain ⟨a, e1, e2, e3⟩ := ptrOf_some h
            rw [opdC_eq] at e1
            simp only [e1, hf, hz]
            rw [← addr_add e2]; exact e3
  case indexAddr t x i =>
    unfold aIndexAt
    cases hu : E.P.underlying t with
    | none => simp only [hu] at h; cases h
    | some d =>
      cases d <;> simp only [hu] at h <;> try (cases h; done)
      case array len e =>
        cases hz : szof E.P e with
        | none => simp only [hz] at h; cases h
        | some z =>
          simp only [hz] at h
          rw [opdC_eq, opdC_eq] at h
          cases hi : s.eval i <;> simp only [hi] at h <;> try (cases h; done)
          rename_i k n
          cases n <;> simp only at h <;> try (cases h; done)
          rename_i n
          obtain ⟨a, e1, e2, e3⟩ := ptrOf_some h
          simp only [e1, inb]
          cases hb : Nat.ble (n + 1) len with
          | false =>
            rw [show Nat.ble (Nat.succ n) len = false from hb] at e3
            cases e3
          | true =>
            rw [show Nat.ble (Nat.succ n) len = true from hb] at e3
            simp only [hz]
            rw [← e3, ← addr_add e2]
            rfl
      rename_i e
      cases hz : szof E.P e with
      | none => simp only [hz] at h; cases h
      | some z =>
        simp only [hz] at h
        rw [opdC_eq, opdC_eq] at h
        cases hi : s.eval i <;> simp only [hi] at h <;> try (cases h; done)
        rename_i k n
        cases n <;> simp only at h <;> try (cases h; done)
        rename_i n
        cases hx : s.eval x <;> simp only [hx] at h <;> try (cases h; done)
        rename_i a l c
        cases a with
        | none => cases h
        | some a =>
          simp only at h
          cases hs : a.spot with
          | some _ => simp only [hs] at h; cases h
          | none =>
            simp only [hs] at h
            simp only [inb]
            cases hb : Nat.ble (n + 1) l with
            | false =>
              rw [show Nat.ble (Nat.succ n) l = false from hb] at h
              cases h
            | true =>
              rw [show Nat.ble (Nat.succ n) l = true from hb] at h
              simp only [hz]
              rw [← h, ← addr_add hs]
              rfl
  case extract x i =>
    unfold aExtract
    rw [opdC_eq] at h
    cases hx : s.eval x <;> simp only [hx] at h ⊢ <;> try (cases h; done)
    rw [nthL_eq] at h
    simpa using h
  case call c =>
    cases hc : c.callee <;> simp only [hc] at h ⊢ <;> try (cases h; done)
    rename_i b
    cases b <;> simp only at h ⊢ <;> try (cases h; done)
    cases ht : c.argTypes.toList with
    | nil => simp only [ht] at h; cases h
    | cons t ts =>
      cases ts with
      | cons _ _ => simp only [ht] at h; cases h
      | nil =>
        cases hx : c.args.toList with
        | nil => simp only [ht, hx] at h; cases h
        | cons x xs =>
          cases xs with
          | cons _ _ => simp only [ht, hx] at h; cases h
          | nil =>
            simp only [ht, hx] at h
            have hm : (c.args.map s.eval).toList = [s.eval x] := by rw [Array.toList_map, hx]; rfl
            rw [hm]
            simp only
            unfold aLen
            cases hu : E.P.underlying t with
            | none => simp only [hu] at h; cases h
            | some d =>
              cases d <;> simp only [hu] at h ⊢ <;> try (cases h; done)
              rw [opdC_eq] at h
              cases hv : s.eval x <;> simp only [hv] at h ⊢ <;> try (cases h; done)
              exact h
end
end
end Go.AE
