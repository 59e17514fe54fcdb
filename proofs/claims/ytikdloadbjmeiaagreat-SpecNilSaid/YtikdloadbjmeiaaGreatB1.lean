import Derived.Test.YtikdloadbjmeiaaGreatA18
/- An evaluator over an abstract heap: short cuts for numbers. -/
namespace Go.AE
open Go
noncomputable section
variable {U : Un}

def lim : IntKind → Nat
  | .i8 => 127
  | .i16 => 32767
  | .i32 => 2147483647
  | .i64 => 9223372036854775807
  | .u8 => 255
  | .u16 => 65535
  | .u32 => 4294967295
  | .u64 => 18446744073709551615

theorem wrap_lim (k : IntKind) (s : Nat) (h : s ≤ lim k) : k.wrap (s : Int) = s := by
  cases k <;> simp only [lim] at h <;> simp [IntKind.wrap, IntKind.bits, IntKind.signed] <;> omega

def inLim (k : IntKind) (s : Nat) : Option Value := match Nat.ble s (lim k) with
  | true => some (.int k (.ofNat s))
  | false => none

def bitsOf : IntKind → Nat
  | .i8 => 8
  | .i16 => 16
  | .i32 => 32
  | .i64 => 64
  | .u8 => 8
  | .u16 => 16
  | .u32 => 32
  | .u64 => 64

theorem bitsOf_eq (k : IntKind) : k.bits = bitsOf k := by cases k <;> rfl
theorem lim_lt (k : IntKind) : lim k < 2 ^ bitsOf k := by cases k <;> decide

def fastInt (op : BinOp) (k : IntKind) (a b : Nat) : Option Value := match op with
  | .add => inLim k (Nat.add a b)
  | .sub => match Nat.ble b a with
    | true => inLim k (Nat.sub a b)
    | false => none
  | .mul => inLim k (Nat.mul a b)
  | .quo => match Nat.beq b 0 with
    | true => none
    | false => inLim k (Nat.div a b)
  | .rem => match Nat.beq b 0 with
    | true => none
    | false => some (.int k (.ofNat (Nat.mod a b)))
  | .eql => some (.bool (Nat.beq a b))
  | .neq => some (.bool (match Nat.beq a b with | true => false | false => true))
  | .lss => some (.bool (Nat.ble (Nat.succ a) b))
  | .leq => some (.bool (Nat.ble a b))
  | .gtr => some (.bool (Nat.ble (Nat.succ b) a))
  | .geq => some (.bool (Nat.ble b a))
  | .and => match Nat.ble a (lim k), Nat.ble b (lim k) with
    | true, true => inLim k (Nat.land a b)
    | _, _ => none
  | .or => match Nat.ble a (lim k), Nat.ble b (lim k) with
    | true, true => inLim k (Nat.lor a b)
    | _, _ => none
  | .xor => match Nat.ble a (lim k), Nat.ble b (lim k) with
    | true, true => inLim k (Nat.xor a b)
    | _, _ => none
  | _ => none

def fastShift (op : BinOp) (k : IntKind) (a b : Nat) : Option Value := match op with
  | .shr => match Nat.ble b (bitsOf k) with
    | true => some (.int k (.ofNat (Nat.div a (Nat.pow 2 b))))
    | false => none
  | .shl => match Nat.ble b (bitsOf k) with
    | true => inLim k (Nat.mul a (Nat.pow 2 b))
    | false => none
  | _ => none

theorem inLim_some {k : IntKind} {s : Nat} {v : Value} (h : inLim k s = some v) : v = .int k (k.wrap (s : Int)) := by
  unfold inLim at h
  cases hb : Nat.ble s (lim k) with
  | false => simp [hb] at h
  | true =>
    simp only [hb, Option.some.injEq] at h
    rw [wrap_lim k s (Nat.le_of_ble_eq_true hb)]
    exact h.symm

theorem ofInt_toNat {k : IntKind} {a : Nat} (h : a ≤ lim k) : (BitVec.ofInt k.bits (a : Int)).toNat = a := by
  have := lim_lt k
  rw [bitsOf_eq]
  simp
  exact Nat.mod_eq_of_lt (by omega)

theorem ble_iff {a b : Nat} : Nat.ble a b = decide (a ≤ b) := by
  by_cases h : a ≤ b
  · rw [ble_t h]; simp [h]
  · rw [ble_f h]; simp [h]
theorem beq_iff {a b : Nat} : Nat.beq a b = decide (a = b) := by
  by_cases h : a = b
  · subst h; simp
  · rw [beq_f h]; simp [h]

section
variable {P : Program}

theorem fastInt_run {op : BinOp} {t : TypeId} {k : IntKind} {a b : Nat} {v : Value} (h : fastInt op k a b = some v) : binOp op t (.int k (a : Int)) (.int k (b : Int)) = pure v := by
  unfold fastInt at h
  cases op <;> simp only at h <;> try (cases h; done)
  case add => rw [inLim_some h]; simp [binOp, Op.intArith]
  case sub =>
    cases hb : Nat.ble b a with
    | false => simp [hb] at h
    | true =>
      simp only [hb] at h
      have := Nat.le_of_ble_eq_true hb
      rw [inLim_some h]
      have e : ((Nat.sub a b : Nat) : Int) = (a : Int) - b := Int.ofNat_sub this
      rw [e]; simp [binOp, Op.intArith]
  case mul => rw [inLim_some h]; simp [binOp, Op.intArith]
  case quo =>
    cases hb : Nat.beq b 0 with
    | true => simp [hb] at h
    | false =>
      simp only [hb] at h
      have h0 : b ≠ 0 := fun e => by subst e; simp at hb
      rw [inLim_some h]
      have : ¬ ((b : Int) = 0) := by omega
      simp only [binOp, Op.intDiv, this, if_false, ne_eq, not_true]
      congr 2
  case rem =>
    cases hb : Nat.beq b 0 with
    | true => simp [hb] at h
    | false =>
      simp only [hb, Option.some.injEq] at h
      have h0 : b ≠ 0 := fun e => by subst e; simp at hb
      subst h
      have : ¬ ((b : Int) = 0) := by omega
      simp only [binOp, Op.intDiv, this, if_false, ne_eq, not_true]
      congr 2
  case and =>
    cases h1 : Nat.ble a (lim k) <;> cases h2 : Nat.ble b (lim k) <;> simp only [h1, h2] at h <;> try (cases h; done)
    rw [inLim_some h]
    simp only [binOp, Op.intBits, BitVec.toNat_and, ofInt_toNat (Nat.le_of_ble_eq_true h1), ofInt_toNat (Nat.le_of_ble_eq_true h2)]
    simp
  case or =>
    cases h1 : Nat.ble a (lim k) <;> cases h2 : Nat.ble b (lim k) <;> simp only [h1, h2] at h <;> try (cases h; done)
    rw [inLim_some h]
    simp only [binOp, Op.intBits, BitVec.toNat_or, ofInt_toNat (Nat.le_of_ble_eq_true h1), ofInt_toNat (Nat.le_of_ble_eq_true h2)]
    simp
  case xor =>
    cases h1 : Nat.ble a (lim k) <;> cases h2 : Nat.ble b (lim k) <;> simp only [h1, h2] at h <;> try (cases h; done)
    rw [inLim_some h]
    simp only [binOp, Op.intBits, BitVec.toNat_xor, ofInt_toNat (Nat.le_of_ble_eq_true h1), ofInt_toNat (Nat.le_of_ble_eq_true h2)]
    simp
  all_goals
    simp only [Option.some.injEq] at h
    subst h
    simp only [binOp, Op.intCmp, ble_iff, beq_iff, ne_eq, not_true, if_false]
    congr 1
    congr 1
  case eql => rw [Bool.eq_iff_iff]; simp; omega
  case neq =>
    by_cases e : a = b
    · simp [e]
    · have : ¬ ((a : Int) = b) := by omega
      simp [e, this]
  case lss => simp; exact Iff.rfl
  case leq => simp
  case gtr => simp; exact Iff.rfl
  case geq => simp

theorem fastShift_run {op : BinOp} {t : TypeId} {k l : IntKind} {a b : Nat} {v : Value} (h : fastShift op k a b = some v) : binOp op t (.int k (a : Int)) (.int l (b : Int)) = pure v := by
  unfold fastShift at h
  cases op <;> simp only at h <;> try (cases h; done)
  case shl =>
    cases hb : Nat.ble b (bitsOf k) with
    | false => simp [hb] at h
    | true =>
      simp only [hb] at h
      have hle := Nat.le_of_ble_eq_true hb
      rw [inLim_some h]
      have h0 : ¬ ((b : Int) < 0) := by omega
      simp only [binOp, Op.shift, h0, if_false, Int.toNat_natCast, bitsOf_eq, Nat.min_eq_left hle]
      congr 2
  case shr =>
    cases hb : Nat.ble b (bitsOf k) with
    | false => simp [hb] at h
    | true =>
      simp only [hb, Option.some.injEq] at h
      have hle := Nat.le_of_ble_eq_true hb
      subst h
      have h0 : ¬ ((b : Int) < 0) := by omega
      simp only [binOp, Op.shift, h0, if_false, Int.toNat_natCast, bitsOf_eq, Nat.min_eq_left hle]
      congr 2
      have : ((2 : Int) ^ b) = ((2 ^ b : Nat) : Int) := by simp
      rw [this]
      exact (Int.fdiv_eq_ediv_of_nonneg _ (Int.natCast_nonneg _)).trans rfl
end
end
end Go.AE
