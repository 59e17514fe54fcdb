import Derived.Test.YtikdloadbjmeiaaGreatA8
import Derived.IntWalk
/- An evaluator over an abstract heap, part 9: make; maps. -/
namespace Go.AE
open Go
noncomputable section
variable {U : Un}

section
variable {P : Program} {m : Mp} {h : AH} {w : World}

/-! ### A new row of cells -/
def aNew (h : AH) (o : Obj) : Option (Nat × AH) := match h.get h.fresh with
  | some _ => none
  | none => some (h.fresh, h.push o)

theorem aNew_run {o o' : Obj} {b q : Nat} {h' : AH} (hr : HRel U m h w) (hx : aNew h o = some (b, h')) (ho : ∀ m', Mle m m' → ORel m' ⟨0, q⟩ o o') :
    ∃ m', (Go.newObj o').run P w = .ok w.heap.size { w with heap := w.heap.push o' } ∧ Ext m w h.floor m' { w with heap := w.heap.push o' } ∧ HRel U m' h' { w with heap := w.heap.push o' } ∧
      m' b = some (some (w.heap.size, ⟨0, q⟩)) ∧ h'.floor = h.floor := by
  unfold aNew at hx
  cases h1 : h.get h.fresh with
  | some _ => simp [h1] at hx
  | none =>
    simp only [h1, Option.some.injEq, Prod.mk.injEq] at hx
    obtain ⟨rfl, rfl⟩ := hx
    have e1 : Ext m w h.floor (m.new h.fresh w.heap.size q) { w with heap := w.heap.push o' } := Ext.new hr h1 rfl
    exact ⟨_, rfl, e1, hr.new h1 (fun y => AH.get_put h h.fresh y o) rfl (ho _ e1.le), by simp [Mp.new], rfl⟩

def aRow (h : AH) (e : TypeId) (cs : Array Value) : Option (Addr × AH) := match aNew h (.cells cs e) with
  | some (b, h') => some (⟨b, 0, none⟩, h')
  | none => none

theorem aRow_run {e : TypeId} {cs cs' : Array Value} {a : Addr} {h' : AH} (hr : HRel U m h w) (hx : aRow h e cs = some (a, h')) (hc : ArrRel m cs cs') :
    ∃ m' a' w', (Go.newRow e cs').run P w = .ok a' w' ∧ Ext m w h.floor m' w' ∧ HRel U m' h' w' ∧ AddrRel m' a a' ∧ h'.floor = h.floor := by
  unfold aRow at hx
  cases hn : aNew h (.cells cs e) with
  | none => simp [hn] at hx
  | some q =>
    obtain ⟨b, h2⟩ := q
    simp only [hn, Option.some.injEq, Prod.mk.injEq] at hx
    obtain ⟨rfl, rfl⟩ := hx
    obtain ⟨m', r1, r2, r3, r4, r5⟩ := aNew_run (P := P) (o' := .cells cs' e) (q := cs'.size) hr hn (fun m' hm => ⟨rfl, Nat.le_of_eq hc.size.symm, by simp, fun i v hv => by
      obtain ⟨v', e1, e2⟩ := hc.get hv
      exact ⟨v', by simpa using e1, e2.mono hm⟩, fun i _ hh => by simp at hh⟩)
    refine ⟨m', ⟨w.heap.size, 0, none⟩, _, ?_, r2, r3, ?_, r5⟩
    · unfold Go.newRow
      rw [run_bind', r1]; rfl
    · have := AddrRel.live (o := 0) r4
      simpa using this

/-! ### make -/
def zeroCs (P : Program) (e : TypeId) : Option (Array Value) := match P.info? e with
  | some i => match i.zero with
    | some z => match plain z with
      | true => some z.cells
      | false => none
    | none => none
  | none => none

theorem zeroCs_run {e : TypeId} {zs : Array Value} (hz : zeroCs P e = some zs) : ∃ i z, P.info? e = some i ∧ i.zero = some z ∧ plain z = true ∧ zs = z.cells := by
  unfold zeroCs at hz
  cases hi : P.info? e with
  | none => simp [hi] at hz
  | some i =>
    cases hzz : i.zero with
    | none => simp [hi, hzz] at hz
    | some z =>
      cases hp : plain z with
      | false => simp [hi, hzz, hp] at hz
      | true => simp only [hi, hzz, hp, Option.some.injEq] at hz; exact ⟨i, z, rfl, hzz, hp, hz.symm⟩

theorem rz {e : TypeId} {i : TypeInfo} {z : Value} (hi : P.info? e = some i) (hz : i.zero = some z) (w : World) : (Go.zeroValue e).run P w = .ok z w := by
  unfold Go.zeroValue
  rw [run_bind', ri hi]
  simp only [hz]; rfl

def rep (zs : Array Value) : Nat → List Value
  | 0 => []
  | n + 1 => zs.toList ++ rep zs n

theorem rep_length (zs : Array Value) (n : Nat) : (rep zs n).length = n * zs.size := by
  induction n with
  | zero => simp [rep]
  | succ n ih => simp [rep, ih, Nat.succ_mul]; omega

theorem rep_get (zs : Array Value) (_hz : 0 < zs.size) (n : Nat) : ∀ i, i < n * zs.size → (rep zs n)[i]? = some (zs[i % zs.size]!) := by
  induction n with
  | zero => intro i hi; simp at hi
  | succ n ih =>
    intro i hi
    simp only [rep]
    by_cases hlt : i < zs.size
    · rw [List.getElem?_append_left (by simpa using hlt), Nat.mod_eq_of_lt hlt]
      simp [hlt]
    · rw [List.getElem?_append_right (by simp; omega)]
      rw [Nat.succ_mul] at hi
      have := ih (i - zs.size) (by omega)
      simp only [Array.length_toList]
      rw [this]
      congr 2
      conv => rhs; rw [show i = i - zs.size + zs.size by omega, Nat.add_mod_right]

/-- What the model's own loop makes of zero values. -/
theorem rep_eq (zs : Array Value) (_hz : 0 < zs.size) (n : Nat) : (Array.range (n * zs.size)).map (fun i => zs[i % zs.size]!) = ⟨rep zs n⟩ := by
  apply Array.ext'
  apply List.ext_getElem?
  intro i
  simp only [Array.toList_map, Array.toList_range, List.getElem?_map]
  by_cases hi : i < n * zs.size
  · rw [rep_get zs _hz n i hi]
    simp [hi]
  · have h1 : (rep zs n)[i]? = none := by rw [List.getElem?_eq_none]; rw [rep_length]; omega
    rw [h1]
    simp [hi]

theorem plainL_append {a b : List Value} (ha : plainL a = true) (hb : plainL b = true) : plainL (a ++ b) = true := by
  induction a with
  | nil => exact hb
  | cons v a ih =>
    simp only [plainL] at ha
    cases hv : plain v with
    | false => simp [hv] at ha
    | true => simp only [hv] at ha; simp only [List.cons_append, plainL, hv]; exact ih ha

theorem plain_cells' {z : Value} (hz : plain z = true) : plainL z.cells.toList = true := by
  cases z <;> simp only [Value.cells] <;> first
    | (simp only [plainL, hz]; done)
    | (rename_i cs; obtain ⟨cs⟩ := cs; simpa [plain] using hz)

theorem rep_rel {zs : Array Value} (hz : plainL zs.toList = true) (n : Nat) : VsRel m (rep zs n) (rep zs n) := by
  induction n with
  | zero => exact .nil
  | succ n ih => exact (VsRel.of_plain m _ hz).append ih

def aMake (P : Program) (t : TypeId) (l c : Value) (h : AH) : Option (Value × AH) := match P.underlying t with
  | some (.slice e) => match isNat l, isNat c, P.info? e, zeroCs P e with
    | some ln, some cn, some i, some zs => match Nat.ble ln cn, Nat.ble (i.bytes * cn) 281474976710656, Nat.ble cn 9223372036854775807, Nat.ble 1 zs.size, Nat.beq zs.size i.size with
      | true, true, true, true, true => match aRow h e ⟨rep zs cn⟩ with
        | some (a, h') => some (.slice (some a) ln cn, h')
        | none => none
      | _, _, _, _, _ => none
    | _, _, _, _ => none
  | _ => none

theorem wrap_small {n : Nat} (h : n ≤ 9223372036854775807) : IntKind.i64.wrap (n : Int) = n := IntWalk.i64_in _ (by omega)

theorem aMake_run {t : TypeId} {l c l' c' x : Value} {h' : AH} (hr : HRel U m h w) (hl : VRel m l l') (hc : VRel m c c') (hx : aMake P t l c h = some (x, h')) :
    ∃ m' x' w', (Instr.makeSlice t l' c').run P w = .ok x' w' ∧ Ext m w h.floor m' w' ∧ HRel U m' h' w' ∧ VRel m' x x' ∧ h'.floor = h.floor := by
  unfold aMake at hx
  cases hu : P.underlying t with
  | none => simp [hu] at hx
  | some d =>
  cases d with
  | slice e =>
    simp only [hu] at hx
    cases h1 : isNat l with
    | none => simp [h1] at hx
    | some ln =>
    cases h2 : isNat c with
    | none => simp [h1, h2] at hx
    | some cn =>
    cases h3 : P.info? e with
    | none => simp [h1, h2, h3] at hx
    | some i =>
    cases h4 : zeroCs P e with
    | none => simp [h1, h2, h3, h4] at hx
    | some zs =>
    simp only [h1, h2, h3, h4] at hx
    cases g1 : Nat.ble ln cn with
    | false => simp [g1] at hx
    | true =>
    cases g2 : Nat.ble (i.bytes * cn) 281474976710656 with
    | false => simp [g1, g2] at hx
    | true =>
    cases g3 : Nat.ble cn 9223372036854775807 with
    | false => simp [g1, g2, g3] at hx
    | true =>
    cases g4 : Nat.ble 1 zs.size with
    | false => simp [g1, g2, g3, g4] at hx
    | true =>
    cases g5 : Nat.beq zs.size i.size with
    | false => simp [g1, g2, g3, g4, g5] at hx
    | true =>
    simp only [g1, g2, g3, g4, g5] at hx
    cases hn : aRow h e ⟨rep zs cn⟩ with
    | none => simp [hn] at hx
    | some q =>
    obtain ⟨a, h2'⟩ := q
    simp only [hn, Option.some.injEq, Prod.mk.injEq] at hx
    obtain ⟨rfl, rfl⟩ := hx
    have g1' := Nat.le_of_ble_eq_true g1
    have g2' := Nat.le_of_ble_eq_true g2
    have g3' := Nat.le_of_ble_eq_true g3
    have g4' := Nat.le_of_ble_eq_true g4
    have g5' := Nat.eq_of_beq_eq_true g5
    obtain ⟨i', z, hi', hz, hp, hzs⟩ := zeroCs_run h4
    rw [h3] at hi'; cases hi'
    obtain rfl := hl.isNat h1
    obtain rfl := hc.isNat h2
    obtain ⟨k1, rfl⟩ := isNat_some h1
    obtain ⟨k2, rfl⟩ := isNat_some h2
    have hpl : plainL zs.toList = true := by rw [hzs]; exact plain_cells' hp
    obtain ⟨m', a', w', r1, r2, r3, r4, r5⟩ := aRow_run (P := P) hr hn (cs' := ⟨rep zs cn⟩) (rep_rel hpl cn)
    refine ⟨m', .slice (some a') ln cn, w', ?_, r2, r3, .slice r4 ⟨fun _ => rfl, fun hb => by exfalso; unfold big at hb; omega⟩, r5⟩
    have w1 := wrap_small g3'
    have w2 := wrap_small (n := ln) (by omega)
    have hb : decide ((cn : Int) < 0) = false := decide_eq_false (by omega)
    have hl0 : decide ((ln : Int) < 0) = false := decide_eq_false (by omega)
    have hll : decide ((ln : Int) > (cn : Int)) = false := decide_eq_false (by omega)
    have hbb : decide ((i.bytes : Int) * (cn : Int) > 2 ^ 48) = false := decide_eq_false (by
      have : ((i.bytes * cn : Nat) : Int) ≤ 281474976710656 := Int.ofNat_le.2 g2'
      rw [Int.natCast_mul] at this
      omega)
    have hroom : ∀ (n : Nat) (w : World), (askRoom n).run P w = .ok () w := by
      intro n w; unfold askRoom; split <;> rfl
    unfold Instr.makeSlice
    rw [run_bind', ru hu]
    simp only [asInt, asIntOf]
    rw [run_bind', show Sem.run P (do let x ← (Pure.pure (k1, (ln : Int)) : Sem (IntKind × Int)); Pure.pure x.snd) w = .ok (ln : Int) w from rfl]
    simp only
    rw [run_bind', show Sem.run P (do let x ← (Pure.pure (k2, (cn : Int)) : Sem (IntKind × Int)); Pure.pure x.snd) w = .ok (cn : Int) w from rfl]
    simp only
    rw [run_bind', ri h3]
    simp only [w1, w2, hb, hl0, hll, hbb, Bool.or_false, Bool.false_eq_true, if_false, Int.toNat_natCast]
    rw [run_bind', hroom]
    simp only
    rw [run_bind', rs h3]
    simp only [← g5']
    have hrep := rep_eq zs (by omega) cn
    by_cases h0 : cn * zs.size = 0
    · rw [if_pos h0]
      have hc0 : cn = 0 := by
        rcases Nat.mul_eq_zero.1 h0 with h | h
        · exact h
        · omega
      subst hc0
      rw [run_bind', rp]
      simp only [Nat.zero_mul]
      rw [run_bind']
      have : (Array.map (fun x => (#[] : Array Value)[x % (#[] : Array Value).size]!) (Array.range 0)) = ⟨rep zs 0⟩ := by simp [rep]
      rw [this, r1]
      rfl
    · rw [if_neg h0, run_bind', rz h3 hz]
      simp only
      rw [run_bind', rp]
      simp only [← hzs]
      rw [hrep, run_bind', r1]
      rfl
  | _ => simp [hu] at hx
end
end
end Go.AE
