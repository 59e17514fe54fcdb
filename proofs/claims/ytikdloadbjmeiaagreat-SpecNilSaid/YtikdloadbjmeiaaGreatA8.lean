import Derived.Test.YtikdloadbjmeiaaGreatA7
/- An evaluator over an abstract heap, part 8: slices of slices and arrays; make; maps. -/
namespace Go.AE
open Go
noncomputable section
variable {U : Un}

section
variable {P : Program} {m : Mp} {h : AH} {w : World}

/-! ### Slicing -/
def isNat (v : Value) : Option Nat := match v with
  | .int _ (.ofNat n) => some n
  | _ => none

def optNat (v : Option Value) (d : Nat) : Option Nat := match v with
  | none => some d
  | some v => isNat v

def capLo (c : Nat) : Nat := match Nat.ble big c with
  | true => c % big
  | false => c

theorem not_ble {a b : Nat} (h : Nat.ble a b = false) : b < a := Nat.lt_of_not_le fun hh => by rw [Nat.ble_eq_true_of_le hh] at h; cases h

def aSliceS (P : Program) (elem : TypeId) (a : Addr) (len cap : Nat) (lo hi mx : Option Value) : Option Value :=
  match szof P elem with
  | none => none
  | some size => match optNat lo 0, optNat hi len with
    | some l, some hh => match Nat.ble l hh with
      | false => none
      | true => match mx with
        | none => match Nat.ble hh (capLo cap) with
          | false => none
          | true => match Nat.ble big cap with
            | true => match Nat.beq (cap / big - 1) size with
              | true => some (.slice (some (a.add (l * size))) (hh - l) (cap - l))
              | false => none
            | false => some (.slice (some (match Nat.beq cap l with | true => a | false => a.add (l * size))) (hh - l) (cap - l))
        | some mv => match isNat mv with
          | none => none
          | some x => match Nat.ble hh x, Nat.ble x (capLo cap), hi, Nat.ble big x with
            | true, true, some _, false => some (.slice (some (match Nat.beq x l with | true => a | false => a.add (l * size))) (hh - l) (x - l))
            | _, _, _, _ => none
    | _, _ => none

theorem isNat_some {v : Value} {n : Nat} (hv : isNat v = some n) : ∃ k, v = .int k (n : Int) := by
  unfold isNat at hv
  split at hv <;> simp at hv
  subst hv; exact ⟨_, rfl⟩

theorem sliceBound_run {v : Value} {n y : Nat} (hv : isNat v = some n) (hy : n ≤ y) (c : BoundsCode) (w : World) : (Instr.sliceBound v y c).run P w = .ok n w := by
  obtain ⟨k, rfl⟩ := isNat_some hv
  unfold Instr.sliceBound
  simp only [asIntOf]
  rw [run_bind', rp]
  simp only
  rw [if_pos (by omega)]; simp

theorem VRel.isNat {v v' : Value} {n : Nat} (h : VRel m v v') (hv : isNat v = some n) : v' = v := by
  obtain ⟨k, rfl⟩ := isNat_some hv
  cases h; rfl

/-- Values that are there or not. -/
def OptRel (m : Mp) : Option Value → Option Value → Prop
  | none, none => True
  | some v, some v' => VRel m v v'
  | _, _ => False

theorem sliceBounds_run {isS : Bool} {len cap' l hh : Nat} {lo hi mx lo' hi' mx' : Option Value} (hlo : OptRel m lo lo') (hhi : OptRel m hi hi') (hmx : OptRel m mx mx')
    (e1 : optNat lo 0 = some l) (e2 : optNat hi len = some hh) (h1 : l ≤ hh) (e3 : match mx with | none => hh ≤ cap' | some mv => ∃ x, isNat mv = some x ∧ hh ≤ x ∧ x ≤ cap' ∧ hi.isSome = true) (w : World) :
    (Instr.sliceBounds isS len cap' lo' hi' mx').run P w = .ok (l, hh, match mx with | none => cap' | some mv => (isNat mv).getD 0) w := by
  have hlo2 : (lo' = none ∧ l = 0) ∨ (∃ v, lo' = some v ∧ isNat v = some l) := by
    cases lo with
    | none => cases lo' with
      | none => simp only [optNat, Option.some.injEq] at e1; exact .inl ⟨rfl, e1.symm⟩
      | some _ => exact hlo.elim
    | some v => cases lo' with
      | none => exact hlo.elim
      | some v' => simp only [optNat] at e1; obtain rfl := VRel.isNat hlo e1; exact .inr ⟨_, rfl, e1⟩
  have hhi2 : (hi' = none ∧ hi = none ∧ hh = len) ∨ (∃ v, hi' = some v ∧ isNat v = some hh) := by
    cases hi with
    | none => cases hi' with
      | none => simp only [optNat, Option.some.injEq] at e2; exact .inl ⟨rfl, rfl, e2.symm⟩
      | some _ => exact hhi.elim
    | some v => cases hi' with
      | none => exact hhi.elim
      | some v' => simp only [optNat] at e2; obtain rfl := VRel.isNat hhi e2; exact .inr ⟨_, rfl, e2⟩
  unfold Instr.sliceBounds
  cases mx with
  | none =>
    cases mx' with
    | some _ => exact hmx.elim
    | none =>
      simp only at e3 ⊢
      rcases hlo2 with ⟨rfl, rfl⟩ | ⟨lv, rfl, hlv⟩ <;> rcases hhi2 with ⟨rfl, rfl, rfl⟩ | ⟨hv, rfl, hhv⟩
      · simp
      · simp [sliceBound_run hhv e3]
      · simp [sliceBound_run hlv h1]
      · simp [sliceBound_run hhv e3, sliceBound_run hlv h1]
  | some mv =>
    cases mx' with
    | none => exact hmx.elim
    | some mv' =>
      simp only at e3 ⊢
      obtain ⟨x, hx, hhx, hxc, his⟩ := e3
      obtain rfl := VRel.isNat hmx hx
      rcases hhi2 with ⟨_, rfl, _⟩ | ⟨hv, rfl, hhv⟩
      · simp at his
      · rcases hlo2 with ⟨rfl, rfl⟩ | ⟨lv, rfl, hlv⟩
        · simp [sliceBound_run hx hxc, sliceBound_run hhv hhx, hx]
        · simp [sliceBound_run hx hxc, sliceBound_run hhv hhx, sliceBound_run hlv h1, hx]

theorem aSliceS_run {t elem : TypeId} {len cap : Nat} {a : Addr} {v' x : Value} {lo hi mx lo' hi' mx' : Option Value} (hu : P.underlying t = some (.slice elem)) (hv : VRel m (.slice (some a) len cap) v')
    (hlo : OptRel m lo lo') (hhi : OptRel m hi hi') (hmx : OptRel m mx mx') (hx : aSliceS P elem a len cap lo hi mx = some x) (w : World) :
    ∃ x', (Instr.sliceAt t v' lo' hi' mx').run P w = .ok x' w ∧ VRel m x x' := by
  have hsl : ∃ a' cap', v' = .slice (some a') len cap' ∧ ((AddrRel m a a' ∧ CapRel m a cap cap') ∨ (len = 0 ∧ cap' = 0 ∧ Cap0 cap)) ∧ Bd m a.block := by
    cases hv with
    | slice ha hc => exact ⟨_, _, rfl, .inl ⟨ha, hc⟩, ha.bd⟩
    | sliceEmpty hbd hc => exact ⟨_, _, rfl, .inr ⟨rfl, rfl, hc⟩, hbd⟩
  obtain ⟨a', cap', rfl, ha, hbd⟩ := hsl
  unfold aSliceS at hx
  cases hs : szof P elem with
  | none => simp [hs] at hx
  | some size =>
  simp only [hs] at hx
  cases e1 : optNat lo 0 with
  | none => simp [e1] at hx
  | some l =>
  cases e2 : optNat hi len with
  | none => simp [e1, e2] at hx
  | some hh =>
  simp only [e1, e2] at hx
  cases h1 : Nat.ble l hh with
  | false => simp [h1] at hx
  | true =>
  simp only [h1] at hx
  have h1' := Nat.le_of_ble_eq_true h1
  obtain ⟨inf, hinf, hsz⟩ := szof_some hs
  have hlow : capLo cap ≤ cap' := by
    unfold capLo
    cases hb : Nat.ble big cap with
    | true =>
      have hb' := Nat.le_of_ble_eq_true hb
      rcases ha with ⟨_, hc⟩ | ⟨_, rfl, hc⟩
      · exact (hc.2 hb').1
      · rw [hc.2 hb']; exact Nat.le_refl _
    | false =>
      have hb' := not_ble hb
      simp only
      rcases ha with ⟨_, hc⟩ | ⟨_, rfl, hc⟩
      · rw [hc.1 hb']; exact Nat.le_refl _
      · rw [hc.1 hb']; exact Nat.le_refl _
  have run : ∀ (r : Nat × Nat × Nat), (Instr.sliceBounds true len cap' lo' hi' mx').run P w = .ok r w →
      (Instr.sliceAt t (.slice (some a') len cap') lo' hi' mx').run P w = .ok (.slice (if r.2.2 = r.1 then some a' else some (a'.add (r.1 * size))) (r.2.1 - r.1) (r.2.2 - r.1)) w := by
    intro r hr
    unfold Instr.sliceAt
    rw [run_bind', ru hu]
    simp only
    unfold Instr.slice
    rw [run_bind', ru hu]
    simp only
    rw [run_bind', hr]
    simp only
    rw [run_bind', rs hinf]
    simp only [hsz, Option.map_some]
    rfl
  cases mx with
  | none =>
    simp only at hx
    cases h2 : Nat.ble hh (capLo cap) with
    | false => simp [h2] at hx
    | true =>
    simp only [h2] at hx
    have h2' : hh ≤ cap' := Nat.le_trans (Nat.le_of_ble_eq_true h2) hlow
    have hb := sliceBounds_run (P := P) (isS := true) hlo hhi hmx e1 e2 h1' h2' w
    refine ⟨_, run _ hb, ?_⟩
    simp only
    cases h3 : Nat.ble big cap with
    | true =>
      cases h5 : Nat.beq (cap / big - 1) size with
      | false => simp [h3, h5] at hx
      | true =>
      simp only [h3, h5, Option.some.injEq] at hx
      subst hx
      have h3' := Nat.le_of_ble_eq_true h3
      have h5' := Nat.eq_of_beq_eq_true h5
      have h2'' : hh ≤ cap % big := by have := Nat.le_of_ble_eq_true h2; unfold capLo at this; simpa [h3] using this
      have hlc : l ≤ cap % big := by omega
      have hmod : (cap - l) % big = cap % big - l := by
        have hd := Nat.div_add_mod cap big
        have : cap - l = (cap % big - l) + big * (cap / big) := by omega
        rw [this, Nat.add_mul_mod_self_left]
        exact Nat.mod_eq_of_lt (by have := Nat.mod_lt cap (show 0 < big by unfold big; omega); omega)
      have hdiv : (cap - l) / big = cap / big := by
        have hd := Nat.div_add_mod cap big
        have : cap - l = (cap % big - l) + big * (cap / big) := by omega
        rw [this, Nat.add_mul_div_left _ _ (show 0 < big by unfold big; omega)]
        rw [Nat.div_eq_of_lt (by have := Nat.mod_lt cap (show 0 < big by unfold big; omega); omega)]
        omega
      have hbig : big ≤ cap - l := by
        have hd := Nat.div_add_mod cap big
        have : 1 ≤ cap / big := by
          rcases Nat.eq_zero_or_pos (cap / big) with h0 | h0
          · rw [h0] at hd; have := Nat.mod_lt cap (show 0 < big by unfold big; omega); omega
          · exact h0
        have : big * 1 ≤ big * (cap / big) := Nat.mul_le_mul_left _ this
        omega
      by_cases hcl : cap' = l
      · rw [if_pos hcl]
        have : hh - l = 0 := by omega
        rw [this, hcl, Nat.sub_self]
        refine .sliceEmpty (by unfold Addr.add; split <;> exact hbd) ⟨fun hlt => by omega, fun _ => ?_⟩
        rw [hmod]
        have : cap % big ≤ cap' := by have := hlow; unfold capLo at this; simpa [h3] using this
        omega
      · rw [if_neg hcl]
        rcases ha with ⟨ha, hc⟩ | ⟨_, h0, _⟩
        · refine .slice (ha.add _) ⟨fun hlt => by omega, fun _ => ⟨by rw [hmod]; have := (hc.2 h3').1; omega, fun c s e => ?_⟩⟩
          have e' : m a.block = some (some (c, s)) := by
            have : (a.add (l * size)).block = a.block := by unfold Addr.add; split <;> rfl
            rw [this] at e; exact e
          have hroom := (hc.2 h3').2 c s e'
          rw [hdiv, h5']
          rw [h5'] at hroom
          have hoff : (a.add (l * size)).off = a.off + l * size := by unfold Addr.add; split <;> simp_all
          rw [hoff]
          have : l * size + (cap' - l) * size = cap' * size := by rw [← Nat.add_mul]; congr 1; omega
          omega
        · omega
    | false =>
      have h3' := not_ble h3
      simp only [h3, Option.some.injEq] at hx
      subst hx
      rcases ha with ⟨ha, hc⟩ | ⟨rfl, rfl, hc⟩
      · have hcc := hc.1 h3'
        subst hcc
        have hcap : ∀ a, CapRel m a (cap' - l) (cap' - l) := fun _ => ⟨fun _ => rfl, fun hlt => by omega⟩
        by_cases hcl : cap' = l
        · rw [if_pos hcl, hcl]
          have : Nat.beq l l = true := Nat.beq_refl l
          simp only [this]
          have h1 := hcap a
          rw [hcl] at h1
          exact .slice ha h1
        · rw [if_neg hcl, beq_f hcl]
          exact .slice (ha.add _) (hcap _)
      · have hcc := hc.1 h3'
        subst hcc
        have hh0 : hh = 0 := by omega
        have hl0 : l = 0 := by omega
        subst hh0; subst hl0
        simp only [Nat.sub_zero, if_true]
        exact .sliceEmpty hbd ⟨fun _ => rfl, fun hlt => by unfold big at hlt; omega⟩
  | some mv =>
    simp only at hx
    cases hmn : isNat mv with
    | none => simp [hmn] at hx
    | some y =>
    simp only [hmn] at hx
    cases h2 : Nat.ble hh y with
    | false => simp [h2] at hx
    | true =>
    cases h3 : Nat.ble y (capLo cap) with
    | false => simp [h3] at hx
    | true =>
    cases hi with
    | none => simp [h2, h3] at hx
    | some hv =>
    cases h4 : Nat.ble big y with
    | true => simp [h2, h3, h4] at hx
    | false =>
    simp only [h2, h3, h4, Option.some.injEq] at hx
    subst hx
    have h2' := Nat.le_of_ble_eq_true h2
    have h3' : y ≤ cap' := Nat.le_trans (Nat.le_of_ble_eq_true h3) hlow
    have hb := sliceBounds_run (P := P) (isS := true) (len := len) hlo hhi hmx e1 e2 h1' ⟨y, hmn, h2', h3', rfl⟩ w
    refine ⟨_, run _ hb, ?_⟩
    simp only [hmn, Option.getD_some]
    have hyb : y - l < big := by
      have : y < big := Nat.lt_of_not_le fun hh => by rw [Nat.ble_eq_true_of_le hh] at h4; cases h4
      omega
    have hcap : ∀ a, CapRel m a (y - l) (y - l) := fun _ => ⟨fun _ => rfl, fun hlt => by omega⟩
    by_cases hcl : y = l
    · subst hcl
      rw [if_pos rfl]
      have : Nat.beq y y = true := Nat.beq_refl y
      simp only [this]
      have h0 : hh - y = 0 := by omega
      rw [h0, Nat.sub_self]
      exact .sliceEmpty hbd ⟨fun _ => rfl, fun hlt => by unfold big at hlt; omega⟩
    · rw [if_neg hcl, beq_f hcl]
      rcases ha with ⟨ha, _⟩ | ⟨_, h0, _⟩
      · exact .slice (ha.add _) (hcap _)
      · omega

def plainO : Option Value → Bool
  | none => true
  | some v => plain v

theorem OptRel.plain {v v' : Option Value} (h : OptRel m v v') (hp : plainO v = true) : v' = v := by
  cases v <;> cases v'
  · rfl
  · exact h.elim
  · exact h.elim
  · rw [VRel.plain h hp]

/-- An operation over plain values whose answer is plain. -/
def pv (P : Program) (s : Sem Value) : Option Value := match prun P s with
  | some x => match plain x with
    | true => some x
    | false => none
  | none => none

theorem pv_run {s : Sem Value} {x : Value} (h : pv P s = some x) (m : Mp) (w : World) : s.run P w = .ok x w ∧ VRel m x x := by
  unfold pv at h
  cases hp : prun P s with
  | none => simp [hp] at h
  | some y =>
    simp only [hp] at h
    cases hpy : plain y with
    | false => simp [hpy] at h
    | true =>
      simp only [hpy, Option.some.injEq] at h
      subst h
      exact ⟨prun_run hp w, VRel.of_plain m y hpy⟩

def aSlice (P : Program) (t : TypeId) (v : Value) (lo hi mx : Option Value) : Option Value := match P.underlying t with
  | some (.array n elem) => match v with
    | .pointer (some a) => match szof P elem with
      | none => none
      | some size => match optNat lo 0, optNat hi n with
        | some l, some hh => match Nat.ble l hh, Nat.ble big n, mx with
          | true, false, none => match Nat.ble hh n with
            | true => some (.slice (some (match Nat.beq n l with | true => a | false => a.add (l * size))) (hh - l) (n - l))
            | false => none
          | true, false, some mv => match isNat mv with
            | none => none
            | some x => match Nat.ble hh x, Nat.ble x n, hi with
              | true, true, some _ => some (.slice (some (match Nat.beq x l with | true => a | false => a.add (l * size))) (hh - l) (x - l))
              | _, _, _ => none
          | _, _, _ => none
        | _, _ => none
    | _ => none
  | some (.slice elem) => match v with
    | .slice (some a) len cap => aSliceS P elem a len cap lo hi mx
    | _ => match plain v, plainO lo, plainO hi, plainO mx with
      | true, true, true, true => pv P (Instr.sliceAt t v lo hi mx)
      | _, _, _, _ => none
  | some .string => match plain v, plainO lo, plainO hi, plainO mx with
    | true, true, true, true => pv P (Instr.sliceAt t v lo hi mx)
    | _, _, _, _ => none
  | _ => none

theorem aSlice_run {t : TypeId} {v v' x : Value} {lo hi mx lo' hi' mx' : Option Value} (hv : VRel m v v') (hlo : OptRel m lo lo') (hhi : OptRel m hi hi') (hmx : OptRel m mx mx')
    (hx : aSlice P t v lo hi mx = some x) (w : World) : ∃ x', (Instr.sliceAt t v' lo' hi' mx').run P w = .ok x' w ∧ VRel m x x' := by
  unfold aSlice at hx
  cases hu : P.underlying t with
  | none => simp [hu] at hx
  | some d =>
  have pl : ∀ (q : Option Value), (match plain v, plainO lo, plainO hi, plainO mx with
      | true, true, true, true => pv P (Instr.sliceAt t v lo hi mx)
      | _, _, _, _ => none) = q → ∀ x, q = some x → ∃ x', (Instr.sliceAt t v' lo' hi' mx').run P w = .ok x' w ∧ VRel m x x' := by
    intro q hq x hqx
    subst hqx
    cases h1 : plain v with
    | false => simp [h1] at hq
    | true =>
    cases h2 : plainO lo with
    | false => simp [h1, h2] at hq
    | true =>
    cases h3 : plainO hi with
    | false => simp [h1, h2, h3] at hq
    | true =>
    cases h4 : plainO mx with
    | false => simp [h1, h2, h3, h4] at hq
    | true =>
    simp only [h1, h2, h3, h4] at hq
    rw [hv.plain h1, hlo.plain h2, hhi.plain h3, hmx.plain h4]
    obtain ⟨g1, g2⟩ := pv_run hq m w
    exact ⟨x, g1, g2⟩
  cases d with
  | string =>
    simp only [hu] at hx
    exact pl _ rfl x hx
  | slice elem =>
    simp only [hu] at hx
    split at hx
    · obtain ⟨x', e1, e2⟩ := aSliceS_run hu hv hlo hhi hmx hx w
      exact ⟨x', e1, e2⟩
    · exact pl _ rfl x hx
  | array n elem =>
    simp only [hu] at hx
    cases hv with
    | ptr ha =>
      rename_i a a'
      simp only at hx
      cases hs : szof P elem with
      | none => simp [hs] at hx
      | some size =>
      simp only [hs] at hx
      cases e1 : optNat lo 0 with
      | none => simp [e1] at hx
      | some l =>
      cases e2 : optNat hi n with
      | none => simp [e1, e2] at hx
      | some hh =>
      simp only [e1, e2] at hx
      cases h1 : Nat.ble l hh with
      | false => simp [h1] at hx
      | true =>
      cases hbn : Nat.ble big n with
      | true => simp [h1, hbn] at hx
      | false =>
      have h1' := Nat.le_of_ble_eq_true h1
      have hbn' := not_ble hbn
      obtain ⟨inf, hinf, hsz⟩ := szof_some hs
      have run : ∀ (r : Nat × Nat × Nat), (Instr.sliceBounds false n n lo' hi' mx').run P w = .ok r w →
          (Instr.sliceAt t (.pointer (some a')) lo' hi' mx').run P w = .ok (.slice (some (if r.2.2 = r.1 then a' else a'.add (r.1 * size))) (r.2.1 - r.1) (r.2.2 - r.1)) w := by
        intro r hr
        unfold Instr.sliceAt
        rw [run_bind', ru hu]
        simp only [Instr.sureAddr]
        rw [run_bind', rp]
        simp only
        rw [run_bind', hr]
        simp only
        rw [run_bind', rs hinf]
        simp only [hsz]
        rfl
      cases mx with
      | none =>
        simp only [h1, hbn] at hx
        cases h2 : Nat.ble hh n with
        | false => simp [h2] at hx
        | true =>
        simp only [h2, Option.some.injEq] at hx
        subst hx
        have hb := sliceBounds_run (P := P) (isS := false) (cap' := n) hlo hhi hmx e1 e2 h1' (Nat.le_of_ble_eq_true h2) w
        refine ⟨_, run _ hb, ?_⟩
        simp only
        have hcap : ∀ a, CapRel m a (n - l) (n - l) := fun _ => ⟨fun _ => rfl, fun hlt => by omega⟩
        by_cases hcl : n = l
        · rw [if_pos hcl, hcl]
          have : Nat.beq l l = true := Nat.beq_refl l
          simp only [this]
          have h1 := hcap a
          rw [hcl] at h1
          exact .slice ha h1
        · rw [if_neg hcl, beq_f hcl]
          exact .slice (ha.add _) (hcap _)
      | some mv =>
        simp only [h1, hbn] at hx
        cases hmn : isNat mv with
        | none => simp [hmn] at hx
        | some y =>
        simp only [hmn] at hx
        cases h2 : Nat.ble hh y with
        | false => simp [h2] at hx
        | true =>
        cases h3 : Nat.ble y n with
        | false => simp [h2, h3] at hx
        | true =>
        cases hi with
        | none => simp [h2, h3] at hx
        | some hv =>
        simp only [h2, h3, Option.some.injEq] at hx
        subst hx
        have hb := sliceBounds_run (P := P) (isS := false) (len := n) (cap' := n) hlo hhi hmx e1 e2 h1' ⟨y, hmn, Nat.le_of_ble_eq_true h2, Nat.le_of_ble_eq_true h3, rfl⟩ w
        refine ⟨_, run _ hb, ?_⟩
        simp only [hmn, Option.getD_some]
        have h3' := Nat.le_of_ble_eq_true h3
        have hcap : ∀ a, CapRel m a (y - l) (y - l) := fun _ => ⟨fun _ => rfl, fun hlt => by omega⟩
        by_cases hcl : y = l
        · rw [if_pos hcl, hcl]
          have : Nat.beq l l = true := Nat.beq_refl l
          simp only [this]
          have h1 := hcap a
          rw [hcl] at h1
          exact .slice ha h1
        · rw [if_neg hcl, beq_f hcl]
          exact .slice (ha.add _) (hcap _)
    | _ => simp at hx
  | _ => simp [hu] at hx
end
end
end Go.AE
