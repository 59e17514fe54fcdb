import Derived.Test.YtikdloadbjmeiaaGreatA1
/- An evaluator over an abstract heap, part 2: how an abstract heap stands for a world's memory. -/
namespace Go.AE
open Go
noncomputable section

/-- From which cell on a block lies, and how many cells are its own from there. -/
structure Sp where
  off : Nat
  room : Nat

/-- Of an abstract block's number: none: there is none; some none: it is dead; some (some (c, s)): it lies in the world's block c, at s. -/
abbrev Mp := Nat → Option (Option (Nat × Sp))

def Mle (m m' : Mp) : Prop := ∀ b x, m b = some x → m' b = some x ∨ m' b = some none

theorem Mle.refl (m : Mp) : Mle m m := fun _ _ h => .inl h
theorem Mle.trans {m m1 m2 : Mp} (h : Mle m m1) (h' : Mle m1 m2) : Mle m m2 := fun b x e => by
  rcases h b x e with h1 | h1
  · exact h' b x h1
  · rcases h' b none h1 with h2 | h2 <;> exact .inr h2

inductive AddrRel (m : Mp) : Addr → Addr → Prop
  | live {b c o : Nat} {s : Sp} : m b = some (some (c, s)) → AddrRel m ⟨b, o, none⟩ ⟨c, s.off + o, none⟩
  | dead {b o : Nat} {a' : Addr} : m b = some none → AddrRel m ⟨b, o, none⟩ a'

theorem AddrRel.mono {m m' : Mp} {a a' : Addr} (h : AddrRel m a a') (hm : Mle m m') : AddrRel m' a a' := by
  cases h with
  | live h => rcases hm _ _ h with h | h
              · exact .live h
              · exact .dead h
  | dead h => rcases hm _ _ h with h | h <;> exact .dead h

def RefRel (m : Mp) (b c : Nat) : Prop := m b = some (some (c, ⟨0, 0⟩)) ∨ m b = some none

theorem RefRel.mono {m m' : Mp} {b c : Nat} (h : RefRel m b c) (hm : Mle m m') : RefRel m' b c := by
  rcases h with h | h
  · exact hm _ _ h
  · rcases hm _ _ h with h | h <;> exact .inr h

/-- An abstract slice's capacity: below 2^64 it is just that; 2^64 (z + 1) + k: it is not known but that it is no less than k, and so many elements of z cells each lie in the block's own room. -/
def big : Nat := 18446744073709551616
def CapRel (m : Mp) (a : Addr) (k k' : Nat) : Prop := (k < big → k' = k) ∧ (big ≤ k → k % big ≤ k' ∧ ∀ c s, m a.block = some (some (c, s)) → a.off + k' * (k / big - 1) ≤ s.room)
def Cap0 (k : Nat) : Prop := (k < big → k = 0) ∧ (big ≤ k → k % big = 0)

theorem CapRel.mono {m m' : Mp} {a a' : Addr} {k k' : Nat} (h : CapRel m a k k') (ha : AddrRel m a a') (hm : Mle m m') : CapRel m' a k k' := by
  refine ⟨h.1, fun hb => ⟨(h.2 hb).1, fun c s e => (h.2 hb).2 c s ?_⟩⟩
  cases ha with
  | live e0 => rcases hm _ _ e0 with e1 | e1 <;> rw [e1] at e <;> cases e; exact e0
  | dead e0 => rcases hm _ _ e0 with e1 | e1 <;> rw [e1] at e <;> cases e

/-- The block is a related one, living or dead. -/
def Bd (m : Mp) (b : Nat) : Prop := ∃ x, m b = some x

theorem Bd.mono {m m' : Mp} {b : Nat} (h : Bd m b) (hm : Mle m m') : Bd m' b := by
  obtain ⟨x, e⟩ := h
  rcases hm _ _ e with e1 | e1 <;> exact ⟨_, e1⟩

theorem AddrRel.bd {m : Mp} {a a' : Addr} (ha : AddrRel m a a') : Bd m a.block := by
  cases ha with
  | live h => exact ⟨_, h⟩
  | dead h => exact ⟨_, h⟩

def FnRel (m : Mp) : Fn → Fn → Prop
  | .yield l, f => ∃ l', f = .yield l' ∧ RefRel m l l'
  | f, f' => f' = f

theorem FnRel.mono {m m' : Mp} {f f' : Fn} (h : FnRel m f f') (hm : Mle m m') : FnRel m' f f' := by
  cases f <;> simp only [FnRel] at h ⊢ <;> try exact h
  obtain ⟨l', e, r⟩ := h
  exact ⟨l', e, r.mono hm⟩

mutual
inductive VRel (m : Mp) : Value → Value → Prop
  | bool (b : Bool) : VRel m (.bool b) (.bool b)
  | int (k : IntKind) (n : Int) : VRel m (.int k n) (.int k n)
  | float (k : FloatKind) (n : Nat) : VRel m (.float k n) (.float k n)
  | complex (k : FloatKind) (a b : Nat) : VRel m (.complex k a b) (.complex k a b)
  | string (s : ByteArray) : VRel m (.string s) (.string s)
  | ptrNil : VRel m (.pointer none) (.pointer none)
  | ptr {a a' : Addr} : AddrRel m a a' → VRel m (.pointer (some a)) (.pointer (some a'))
  | sliceNil : VRel m (.slice none 0 0) (.slice none 0 0)
  | slice {a a' : Addr} {l k k' : Nat} : AddrRel m a a' → CapRel m a k k' → VRel m (.slice (some a) l k) (.slice (some a') l k')
  | sliceEmpty {a a' : Addr} {k : Nat} : Bd m a.block → Cap0 k → VRel m (.slice (some a) 0 k) (.slice (some a') 0 0)
  | mapNil : VRel m (.map none) (.map none)
  | map {r r' : Nat} : RefRel m r r' → VRel m (.map (some r)) (.map (some r'))
  | func {f f' : Fn} {xs ys xs' ys' : List Value} : FnRel m f f' → VsRel m xs xs' → VsRel m ys ys' → VRel m (.func f ⟨xs⟩ ⟨ys⟩) (.func f' ⟨xs'⟩ ⟨ys'⟩)
  | nilFunc : VRel m .nilFunc .nilFunc
  | iface (t : TypeId) {v v' : Value} : VRel m v v' → VRel m (.iface t v) (.iface t v')
  | nilIface : VRel m .nilIface .nilIface
  | agg {xs xs' : List Value} : VsRel m xs xs' → VRel m (.agg ⟨xs⟩) (.agg ⟨xs'⟩)
  | tuple {xs xs' : List Value} : VsRel m xs xs' → VRel m (.tuple ⟨xs⟩) (.tuple ⟨xs'⟩)
inductive VsRel (m : Mp) : List Value → List Value → Prop
  | nil : VsRel m [] []
  | cons {v v' : Value} {vs vs' : List Value} : VRel m v v' → VsRel m vs vs' → VsRel m (v :: vs) (v' :: vs')
end

mutual
theorem VRel.mono {m m' : Mp} {v v' : Value} (h : VRel m v v') (hm : Mle m m') : VRel m' v v' :=
  match h with
  | .bool b => .bool b
  | .int k n => .int k n
  | .float k n => .float k n
  | .complex k a b => .complex k a b
  | .string s => .string s
  | .ptrNil => .ptrNil
  | .ptr a => .ptr (a.mono hm)
  | .sliceNil => .sliceNil
  | .slice a c => .slice (a.mono hm) (c.mono a hm)
  | .sliceEmpty b c => .sliceEmpty (b.mono hm) c
  | .mapNil => .mapNil
  | .map r => .map (r.mono hm)
  | .func f xs ys => .func (f.mono hm) (xs.mono hm) (ys.mono hm)
  | .nilFunc => .nilFunc
  | .iface t v => .iface t (v.mono hm)
  | .nilIface => .nilIface
  | .agg xs => .agg (xs.mono hm)
  | .tuple xs => .tuple (xs.mono hm)
theorem VsRel.mono {m m' : Mp} {vs vs' : List Value} (h : VsRel m vs vs') (hm : Mle m m') : VsRel m' vs vs' :=
  match h with
  | .nil => .nil
  | .cons v vs => .cons (v.mono hm) (vs.mono hm)
end

/-! ## Values without addresses -/
mutual
def plain : Value → Bool
  | .bool _ => true
  | .int _ _ => true
  | .float _ _ => true
  | .complex _ _ _ => true
  | .string _ => true
  | .pointer a => a.isNone
  | .slice none 0 0 => true
  | .slice _ _ _ => false
  | .map a => a.isNone
  | .chan _ => false
  | .func _ _ _ => false
  | .nilFunc => true
  | .iface _ v => plain v
  | .nilIface => true
  | .agg ⟨cs⟩ => plainL cs
  | .tuple ⟨cs⟩ => plainL cs
def plainL : List Value → Bool
  | [] => true
  | v :: vs => match plain v with
    | true => plainL vs
    | false => false
end

mutual
theorem VRel.plain {m : Mp} {v v' : Value} (h : VRel m v v') (hp : plain v = true) : v' = v :=
  match h with
  | .bool b => rfl
  | .int k n => rfl
  | .float k n => rfl
  | .complex k a b => rfl
  | .string s => rfl
  | .ptrNil => rfl
  | .ptr a => by simp [AE.plain] at hp
  | .sliceNil => rfl
  | .slice a c => by simp [AE.plain] at hp
  | .sliceEmpty _ c => by simp [AE.plain] at hp
  | .mapNil => rfl
  | .map r => by simp [AE.plain] at hp
  | .func f xs ys => by simp [AE.plain] at hp
  | .nilFunc => rfl
  | .iface t v => by rw [v.plain (by simpa [AE.plain] using hp)]
  | .nilIface => rfl
  | .agg xs => by rw [xs.plain (by simpa [AE.plain] using hp)]
  | .tuple xs => by rw [xs.plain (by simpa [AE.plain] using hp)]
theorem VsRel.plain {m : Mp} {vs vs' : List Value} (h : VsRel m vs vs') (hp : plainL vs = true) : vs' = vs :=
  match h with
  | .nil => rfl
  | .cons (v := v) a as => by
    simp only [plainL] at hp
    cases e : AE.plain v with
    | false => simp [e] at hp
    | true => simp only [e] at hp; rw [a.plain e, as.plain hp]
end

theorem VsRel.length {m : Mp} {vs vs' : List Value} (h : VsRel m vs vs') : vs'.length = vs.length := by
  induction vs generalizing vs' with
  | nil => cases h; rfl
  | cons v vs ih => cases h with | cons a as => simp [ih as]

theorem VsRel.getElem? {m : Mp} {vs vs' : List Value} (h : VsRel m vs vs') {i : Nat} {v : Value} (hv : vs[i]? = some v) : ∃ v', vs'[i]? = some v' ∧ VRel m v v' := by
  induction vs generalizing vs' i with
  | nil => simp at hv
  | cons x vs ih =>
    cases h with
    | cons a as =>
      cases i with
      | zero => simp at hv; subst hv; exact ⟨_, rfl, a⟩
      | succ i => simpa using ih as (by simpa using hv)

theorem VsRel.getElem?_none {m : Mp} {vs vs' : List Value} (h : VsRel m vs vs') {i : Nat} (hv : vs[i]? = none) : vs'[i]? = none := by
  have := h.length
  simp at hv ⊢; omega

theorem VsRel.append {m : Mp} {a a' b b' : List Value} (h : VsRel m a a') (h' : VsRel m b b') : VsRel m (a ++ b) (a' ++ b') := by
  induction a generalizing a' with
  | nil => cases h; exact h'
  | cons x a ih => cases h with | cons y ys => exact .cons y (ih ys)

theorem VsRel.set {m : Mp} {vs vs' : List Value} (h : VsRel m vs vs') (i : Nat) {v v' : Value} (hv : VRel m v v') : VsRel m (vs.set i v) (vs'.set i v') := by
  induction vs generalizing vs' i with
  | nil => cases h; exact .nil
  | cons x vs ih =>
    cases h with
    | cons a as =>
      cases i with
      | zero => exact .cons hv as
      | succ i => exact .cons a (ih as i)

theorem VsRel.take {m : Mp} {vs vs' : List Value} (h : VsRel m vs vs') (n : Nat) : VsRel m (vs.take n) (vs'.take n) := by
  induction vs generalizing vs' n with
  | nil => cases h; simp; exact .nil
  | cons x vs ih =>
    cases h with
    | cons a as =>
      cases n with
      | zero => exact .nil
      | succ n => exact .cons a (ih as n)

theorem VsRel.drop {m : Mp} {vs vs' : List Value} (h : VsRel m vs vs') (n : Nat) : VsRel m (vs.drop n) (vs'.drop n) := by
  induction vs generalizing vs' n with
  | nil => cases h; simp; exact .nil
  | cons x vs ih =>
    cases h with
    | cons a as =>
      cases n with
      | zero => exact .cons a as
      | succ n => exact ih as n

theorem VsRel.replicate {m : Mp} {v v' : Value} (h : VRel m v v') (n : Nat) : VsRel m (List.replicate n v) (List.replicate n v') := by
  induction n with
  | zero => exact .nil
  | succ n ih => exact .cons h ih

mutual
theorem VRel.of_plain (m : Mp) : ∀ (v : Value), AE.plain v = true → VRel m v v
  | .bool b, _ => .bool b
  | .int k n, _ => .int k n
  | .float k n, _ => .float k n
  | .complex k a b, _ => .complex k a b
  | .string s, _ => .string s
  | .pointer none, _ => .ptrNil
  | .pointer (some a), h => by simp [AE.plain] at h
  | .slice none 0 0, _ => .sliceNil
  | .slice none (_ + 1) _, h => by simp [AE.plain] at h
  | .slice none 0 (_ + 1), h => by simp [AE.plain] at h
  | .slice (some _) _ _, h => by simp [AE.plain] at h
  | .map none, _ => .mapNil
  | .map (some _), h => by simp [AE.plain] at h
  | .chan _, h => by simp [AE.plain] at h
  | .func _ _ _, h => by simp [AE.plain] at h
  | .nilFunc, _ => .nilFunc
  | .iface t v, h => .iface t (VRel.of_plain m v (by simpa [AE.plain] using h))
  | .nilIface, _ => .nilIface
  | .agg ⟨cs⟩, h => .agg (VsRel.of_plain m cs (by simpa [AE.plain] using h))
  | .tuple ⟨cs⟩, h => .tuple (VsRel.of_plain m cs (by simpa [AE.plain] using h))
theorem VsRel.of_plain (m : Mp) : ∀ (vs : List Value), AE.plainL vs = true → VsRel m vs vs
  | [], _ => .nil
  | v :: vs, h => by
    simp only [plainL] at h
    cases e : AE.plain v with
    | false => simp [e] at h
    | true => simp only [e] at h; exact .cons (VRel.of_plain m v e) (VsRel.of_plain m vs h)
end

/-! ## Memory -/
def ERel (m : Mp) : List MapEntry → List MapEntry → Prop
  | [], [] => True
  | e :: es, e' :: es' => VRel m e.key e'.key ∧ VRel m e.val e'.val ∧ e'.born = e.born ∧ ERel m es es'
  | _, _ => False

def o0 : Sp := ⟨0, 0⟩

/-- An abstract block that is not dead, and the world's block in which it lies. -/
def ORel (m : Mp) (s : Sp) : Obj → Obj → Prop
  | .cells C _ fr, .cells C' _ (lo, hi) => fr = (0, 0) ∧ C.size ≤ s.room ∧ s.off + s.room ≤ C'.size ∧ (∀ i v, C[i]? = some v → ∃ v', C'[s.off + i]? = some v' ∧ VRel m v v') ∧ (∀ i, i < s.room → ¬ (lo ≤ s.off + i ∧ s.off + i < hi))
  | .map es k, .map es' k' => s = o0 ∧ k' = k ∧ ERel m es.toList es'.toList
  | .mapIter r a b c, .mapIter r' a' b' c' => s = o0 ∧ a' = a ∧ b' = b ∧ c' = c ∧ (match r, r' with | none, none => True | some x, some y => RefRel m x y | _, _ => False)
  | .stringIter x p, .stringIter x' p' => s = o0 ∧ x' = x ∧ p' = p
  | .loop l, .loop l' => s = o0 ∧ l'.state = l.state ∧ l'.pending = l.pending ∧ VsRel m l.tmps.toList l'.tmps.toList ∧ l'.params = l.params ∧ l'.assign = l.assign ∧ l'.body = l.body ∧ RefRel m l.defers l'.defers
  | .deferred (some []), .deferred (some []) => s = o0
  | .deferred none, .deferred none => s = o0
  | _, _ => False

/-- Blocks that are spoken for and not yet born. -/
abbrev Un := Nat → Option Obj

structure HRel (U : Un) (m : Mp) (h : AH) (w : World) : Prop where
  obj : ∀ b o, h.get b = some o → U b = none → (o = dead ∧ m b = some none) ∨ (∃ c s o', m b = some (some (c, s)) ∧ w.heap[c]? = some o' ∧ ORel m s o o')
  res : ∀ b o, U b = some o → h.get b = some o ∧ m b = none
  no : ∀ b, h.get b = none → m b = none
  inj : ∀ b b' c s s', m b = some (some (c, s)) → m b' = some (some (c, s')) → b = b'

theorem HRel.un {U : Un} {m : Mp} {h : AH} {w : World} (hr : HRel U m h w) {b : Nat} {x : Option (Nat × Sp)} (hm : m b = some x) : U b = none := by
  cases hu : U b with
  | none => rfl
  | some o => rw [(hr.res b o hu).2] at hm; cases hm

theorem HRel.un' {U : Un} {m : Mp} {h : AH} {w : World} (hr : HRel U m h w) {b : Nat} (hg : h.get b = none) : U b = none := by
  cases hu : U b with
  | none => rfl
  | some o => rw [(hr.res b o hu).1] at hg; cases hg

theorem HRel.unR {U : Un} {m : Mp} {h : AH} {w : World} (hr : HRel U m h w) {b c : Nat} (hm : RefRel m b c) : U b = none := by
  rcases hm with hm | hm <;> exact hr.un hm

theorem AddrRel.some {m : Mp} {a a' : Addr} (ha : AddrRel m a a') : ∃ x, m a.block = .some x := by
  cases ha with
  | live h => exact ⟨_, h⟩
  | dead h => exact ⟨_, h⟩

theorem HRel.unA {U : Un} {m : Mp} {h : AH} {w : World} (hr : HRel U m h w) {a a' : Addr} (ha : AddrRel m a a') : U a.block = none := by
  obtain ⟨x, e⟩ := ha.some
  exact hr.un e

/-- What a piece of the run may do to the world: 'fl': blocks whose numbers are below it stay as they are. -/
structure Ext (m : Mp) (w : World) (fl : Nat) (m' : Mp) (w' : World) : Prop where
  le : Mle m m'
  size : w.heap.size ≤ w'.heap.size
  keep : ∀ c, c < w.heap.size → (∀ b s, m b = some (some (c, s)) → b < fl) → w'.heap[c]? = w.heap[c]?
  old : ∀ b c s, m' b = some (some (c, s)) → c < w.heap.size → m b = some (some (c, s)) ∨ ∃ b0 s0, m b0 = some (some (c, s0)) ∧ fl ≤ b0
  os : w'.os = w.os
  out : w'.output = w.output

theorem Ext.refl (m : Mp) (w : World) (fl : Nat) : Ext m w fl m w := ⟨.refl m, Nat.le_refl _, fun _ _ _ => rfl, fun _ _ _ h _ => .inl h, rfl, rfl⟩

theorem Ext.trans {m m1 m2 : Mp} {w w1 w2 : World} {fl : Nat} (h : Ext m w fl m1 w1) (h' : Ext m1 w1 fl m2 w2) : Ext m w fl m2 w2 where
  le := h.le.trans h'.le
  os := h'.os.trans h.os
  out := h'.out.trans h.out
  size := Nat.le_trans h.size h'.size
  keep c hc hb := by
    rw [h'.keep c (Nat.lt_of_lt_of_le hc h.size), h.keep c hc hb]
    intro b s e
    rcases h.old b c s e hc with e0 | ⟨b0, s0, e0, hf⟩
    · exact hb b s e0
    · have := hb b0 s0 e0; omega
  old b c s e hc := by
    rcases h'.old b c s e (Nat.lt_of_lt_of_le hc h.size) with e1 | ⟨b1, s1, e1, hf⟩
    · exact h.old b c s e1 hc
    · rcases h.old b1 c s1 e1 hc with e0 | h0
      · exact .inr ⟨b1, s1, e0, hf⟩
      · exact .inr h0

theorem Ext.lower {m m' : Mp} {w w' : World} {fl fl' : Nat} (h : Ext m w fl m' w') (hf : fl' ≤ fl) : Ext m w fl' m' w' where
  le := h.le
  os := h.os
  out := h.out
  size := h.size
  keep c hc hb := h.keep c hc fun b s e => Nat.lt_of_lt_of_le (hb b s e) hf
  old b c s e hc := by
    rcases h.old b c s e hc with e0 | ⟨b0, s0, e0, hf0⟩
    · exact .inl e0
    · exact .inr ⟨b0, s0, e0, Nat.le_trans hf hf0⟩
end
end Go.AE
