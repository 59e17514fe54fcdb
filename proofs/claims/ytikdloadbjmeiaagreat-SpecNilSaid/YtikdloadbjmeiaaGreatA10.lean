import Derived.Test.YtikdloadbjmeiaaGreatA9
/- An evaluator over an abstract heap, part 10: slices written out; maps. -/
namespace Go.AE
open Go
noncomputable section
variable {U : Un}

section
variable {P : Program} {m : Mp} {h : AH} {w : World}

def aBuildSlice (P : Program) (t : TypeId) (len : Nat) (parts : List (Nat × Value)) (h : AH) : Option (Value × AH) := match P.underlying t with
  | some (.slice e) => match szof P e, zeroCs P e with
    | some size, some zs => match Nat.ble (len * size) 16777216, Nat.beq zs.size size, Nat.ble 1 size with
      | true, true, true => match Instr.fill (fun i => some (i * size, size)) ⟨rep zs len⟩ parts with
        | some cells => match aRow h e cells with
          | some (a, h') => some (.slice (some a) len len, h')
          | none => none
        | none => none
      | _, _, _ => none
    | _, _ => none
  | _ => none

theorem aBuildSlice_run {t : TypeId} {len : Nat} {ps : List (Nat × Value)} {ps' : Array (Nat × Value)} {x : Value} {h' : AH} (hr : HRel U m h w) (hp : PsRel m ps ps'.toList)
    (hx : aBuildSlice P t len ps h = some (x, h')) :
    ∃ m' x' w', (Instr.buildSlice t len ps').run P w = .ok x' w' ∧ Ext m w h.floor m' w' ∧ HRel U m' h' w' ∧ VRel m' x x' ∧ h'.floor = h.floor := by
  unfold aBuildSlice at hx
  cases hu : P.underlying t with
  | none => simp [hu] at hx
  | some d =>
  cases d with
  | slice e =>
    simp only [hu] at hx
    cases h1 : szof P e with
    | none => simp [h1] at hx
    | some size =>
    cases h4 : zeroCs P e with
    | none => simp [h1, h4] at hx
    | some zs =>
    simp only [h1, h4] at hx
    cases g1 : Nat.ble (len * size) 16777216 with
    | false => simp [g1] at hx
    | true =>
    cases g5 : Nat.beq zs.size size with
    | false => simp [g1, g5] at hx
    | true =>
    cases g6 : Nat.ble 1 size with
    | false => simp [g1, g5, g6] at hx
    | true =>
    simp only [g1, g5, g6] at hx
    cases hf : Instr.fill (fun i => some (i * size, size)) ⟨rep zs len⟩ ps with
    | none => simp [hf] at hx
    | some cells =>
    simp only [hf] at hx
    cases hn : aRow h e cells with
    | none => simp [hn] at hx
    | some q =>
    obtain ⟨a, h2'⟩ := q
    simp only [hn, Option.some.injEq, Prod.mk.injEq] at hx
    obtain ⟨rfl, rfl⟩ := hx
    have g1' := Nat.le_of_ble_eq_true g1
    have g5' := Nat.eq_of_beq_eq_true g5
    have g6' := Nat.le_of_ble_eq_true g6
    obtain ⟨i, hi, hsz⟩ := szof_some h1
    obtain ⟨i', z, hi', hz, hpz, hzs⟩ := zeroCs_run h4
    rw [hi] at hi'; cases hi'
    have hpl : plainL zs.toList = true := by rw [hzs]; exact plain_cells' hpz
    obtain ⟨cells', hf', hcc⟩ := fill_rel (m := m) ps ps'.toList ⟨rep zs len⟩ ⟨rep zs len⟩ cells hp (rep_rel hpl len) hf
    obtain ⟨m', a', w', r1, r2, r3, r4, r5⟩ := aRow_run (P := P) hr hn hcc
    refine ⟨m', .slice (some a') len len, w', ?_, r2, r3, .slice r4 ⟨fun _ => rfl, fun hb => ?_⟩, r5⟩
    · unfold Instr.buildSlice
      rw [run_bind', ru hu]
      simp only
      rw [run_bind', rs hi]
      simp only [hsz]
      rw [if_neg (by omega)]
      have hrep := rep_eq zs (by omega) len
      by_cases h0 : len * size = 0
      · have hl0 : len = 0 := by
          rcases Nat.mul_eq_zero.1 h0 with h | h
          · exact h
          · omega
        subst hl0
        simp only [Nat.zero_mul, if_true]
        rw [run_bind', rp]
        have : (Array.map (fun x => (#[] : Array Value)[x % (#[] : Array Value).size]!) (Array.range 0)) = ⟨rep zs 0⟩ := by simp [rep]
        simp only [this, hf']
        rw [run_bind', r1]
        rfl
      · rw [if_neg h0, run_bind', rz hi hz]
        simp only
        rw [run_bind', rp]
        simp only [← hzs]
        rw [← g5', hrep]
        rw [← g5'] at hf'
        simp only [hf']
        rw [run_bind', r1]
        rfl
    · exfalso
      have : len ≤ len * size := Nat.le_mul_of_pos_right len (by omega)
      unfold big at hb; omega
  | _ => simp [hu] at hx

/-! ### Maps -/
def aMakeMap (P : Program) (t : TypeId) (r : Option Value) (h : AH) : Option (Value × AH) := match r with
  | none => match aNew h (.map #[] 0) with
    | some (b, h') => some (.map (some b), h')
    | none => none
  | some _ => none

theorem aMakeMap_run {t : TypeId} {r r' : Option Value} {x : Value} {h' : AH} (hr : HRel U m h w) (ho : OptRel m r r') (hx : aMakeMap P t r h = some (x, h')) :
    ∃ m' x' w', (Instr.makeMap t r').run P w = .ok x' w' ∧ Ext m w h.floor m' w' ∧ HRel U m' h' w' ∧ VRel m' x x' ∧ h'.floor = h.floor := by
  unfold aMakeMap at hx
  cases r with
  | some _ => simp at hx
  | none =>
    cases r' with
    | some _ => exact ho.elim
    | none =>
      simp only at hx
      cases hn : aNew h (.map #[] 0) with
      | none => simp [hn] at hx
      | some q =>
        obtain ⟨b, h2⟩ := q
        simp only [hn, Option.some.injEq, Prod.mk.injEq] at hx
        obtain ⟨rfl, rfl⟩ := hx
        obtain ⟨m', r1, r2, r3, r4, r5⟩ := aNew_run (P := P) (o' := .map #[] 0) hr hn (fun m' hm => ⟨rfl, rfl, trivial⟩) (q := 0)
        exact ⟨m', .map (some w.heap.size), _, by unfold Instr.makeMap; simp only; rw [run_bind', r1]; rfl, r2, r3, .map (.inl r4), r5⟩

def keysPlain : List MapEntry → Bool
  | [] => true
  | e :: es => match plain e.key with
    | true => keysPlain es
    | false => false

def aAsk (P : Program) (kt : TypeId) (k : Value) : List MapEntry → Nat → Option (Option (Nat × Value))
  | [], _ => some none
  | e :: es, i => match prun P (Op.equal kt k e.key) with
    | some true => some (some (i, e.val))
    | some false => aAsk P kt k es (i + 1)
    | none => none

def aFind (P : Program) (kt : TypeId) (k : Value) (es : List MapEntry) : Option (Option (Nat × Value)) := match keysPlain es with
  | false => none
  | true => match P.underlying kt with
    | none => none
    | some d => match Instr.findNow d k es 0 with
      | some r => some r
      | none => aAsk P kt k es 0

def FoundRel (m : Mp) : Option (Nat × Value) → Option (Nat × Value) → Prop
  | none, none => True
  | some (i, v), some (i', v') => i' = i ∧ VRel m v v'
  | _, _ => False

theorem findNow_rel (d : TypeDesc) (k : Value) : ∀ (es es' : List MapEntry) (i : Nat), keysPlain es = true → ERel m es es' →
    match Instr.findNow d k es i with
    | none => Instr.findNow d k es' i = none
    | some r => ∃ r', Instr.findNow d k es' i = some r' ∧ FoundRel m r r'
  | [], [], _, _, _ => ⟨none, rfl, trivial⟩
  | [], _ :: _, _, _, h => h.elim
  | _ :: _, [], _, _, h => h.elim
  | e :: es, e' :: es', i, hk, ⟨hkey, hval, _, hes⟩ => by
    simp only [keysPlain] at hk
    cases hp : plain e.key with
    | false => simp [hp] at hk
    | true =>
      simp only [hp] at hk
      have hke := hkey.plain hp
      simp only [Instr.findNow, hke]
      cases hs : Instr.sameNow d k e.key with
      | none => rfl
      | some b =>
        cases b with
        | true => exact ⟨some (i, e'.val), rfl, rfl, hval⟩
        | false => exact findNow_rel d k es es' (i + 1) hk hes

theorem aAsk_rel (kt : TypeId) (k : Value) : ∀ (es es' : List MapEntry) (i : Nat) (r : Option (Nat × Value)), keysPlain es = true → ERel m es es' → aAsk P kt k es i = some r →
    ∃ r', (Instr.findAsking kt k es' i).run P w = .ok r' w ∧ FoundRel m r r'
  | [], [], _, r, _, _, h => by simp [aAsk] at h; subst h; exact ⟨none, rfl, trivial⟩
  | [], _ :: _, _, _, _, h, _ => h.elim
  | _ :: _, [], _, _, _, h, _ => h.elim
  | e :: es, e' :: es', i, r, hk, ⟨hkey, hval, _, hes⟩, h => by
    simp only [keysPlain] at hk
    cases hp : plain e.key with
    | false => simp [hp] at hk
    | true =>
      simp only [hp] at hk
      have hke := hkey.plain hp
      simp only [aAsk] at h
      cases hq : prun P (Op.equal kt k e.key) with
      | none => simp [hq] at h
      | some b =>
        unfold Instr.findAsking
        rw [run_bind', hke, prun_run hq]
        simp only
        cases b with
        | true =>
          simp only [hq, Option.some.injEq] at h
          subst h
          exact ⟨some (i, e'.val), rfl, rfl, hval⟩
        | false =>
          simp only [hq] at h
          exact aAsk_rel kt k es es' (i + 1) r hk hes h

theorem aFind_run {kt : TypeId} {k : Value} {es es' : List MapEntry} {r : Option (Nat × Value)} (he : ERel m es es') (hx : aFind P kt k es = some r) :
    ∃ r', (Instr.findKey kt k es').run P w = .ok r' w ∧ FoundRel m r r' := by
  unfold aFind at hx
  cases hk : keysPlain es with
  | false => simp [hk] at hx
  | true =>
  simp only [hk] at hx
  cases hu : P.underlying kt with
  | none => simp [hu] at hx
  | some d =>
  simp only [hu] at hx
  unfold Instr.findKey
  rw [run_bind', ru hu]
  simp only
  have hf := findNow_rel (m := m) d k es es' 0 hk he
  cases hn : Instr.findNow d k es 0 with
  | some q =>
    simp only [hn, Option.some.injEq] at hx hf
    subst hx
    obtain ⟨r', h1, h2⟩ := hf
    rw [h1]
    exact ⟨r', rfl, h2⟩
  | none =>
    simp only [hn] at hx hf
    rw [hf]
    exact aAsk_rel kt k es es' 0 r hk he hx

theorem ERel.isEmpty : ∀ {es es' : List MapEntry}, ERel m es es' → es'.isEmpty = es.isEmpty
  | [], [], _ => rfl
  | [], _ :: _, h => h.elim
  | _ :: _, [], h => h.elim
  | _ :: _, _ :: _, _ => rfl

theorem ERel.length : ∀ {es es' : List MapEntry}, ERel m es es' → es'.length = es.length
  | [], [], _ => rfl
  | [], _ :: _, h => h.elim
  | _ :: _, [], h => h.elim
  | _ :: _, _ :: _, ⟨_, _, _, h⟩ => by simp [ERel.length h]

theorem HRel.map (hr : HRel U m h w) {r r' : Nat} (ha : RefRel m r r') {es : Array MapEntry} {k : Nat} (hg : h.get r = some (.map es k)) :
    ∃ es', m r = some (some (r', ⟨0, 0⟩)) ∧ w.heap[r']? = some (.map es' k) ∧ ERel m es.toList es'.toList := by
  rcases hr.obj r _ hg (hr.unR ha) with ⟨hd, _⟩ | ⟨c, s, o', h0, h1, h2⟩
  · cases hd
  · have ha' : m r = some (some (r', ⟨0, 0⟩)) := by
      rcases ha with ha | ha
      · exact ha
      · rw [ha] at h0; cases h0
    rw [ha'] at h0; cases h0
    cases o' with
    | map es' k' =>
      obtain ⟨_, rfl, he⟩ := h2
      exact ⟨es', ha', h1, he⟩
    | _ => exact h2.elim

theorem rg {r : Nat} {o : Obj} (hw : w.heap[r]? = some o) (ho : ∀ C e f, o ≠ .cells C e f) : (Go.getObj r).run P w = .ok o w := by
  cases o <;> first | (simp [Go.getObj, Sem.run, hw]; done) | exact absurd rfl (ho _ _ _)

def packed (ok : Bool) (v : Value) (b : Bool) : Value := match ok with
  | true => .tuple #[v, .bool b]
  | false => v

theorem packed_rel {v v' : Value} (hv : VRel m v v') (ok b : Bool) : VRel m (packed ok v b) (packed ok v' b) := by
  cases ok
  · exact hv
  · exact .tuple (.cons hv (.cons (.bool b) .nil))

def aZero (P : Program) (t : TypeId) : Option Value := match P.info? t with
  | some i => match i.zero with
    | some z => match plain z with
      | true => some z
      | false => none
    | none => none
  | none => none

theorem aZero_run {t : TypeId} {z : Value} (hz : aZero P t = some z) (m : Mp) (w : World) : (Go.zeroValue t).run P w = .ok z w ∧ VRel m z z := by
  unfold aZero at hz
  cases hi : P.info? t with
  | none => simp [hi] at hz
  | some i =>
    cases hzz : i.zero with
    | none => simp [hi, hzz] at hz
    | some z' =>
      cases hp : plain z' with
      | false => simp [hi, hzz, hp] at hz
      | true =>
        simp only [hi, hzz, hp, Option.some.injEq] at hz
        subst hz
        exact ⟨rz hi hzz w, VRel.of_plain m _ hp⟩

def aLookup (P : Program) (t : TypeId) (mv key : Value) (ok : Bool) (h : AH) : Option Value := match P.underlying t, plain key with
  | some (.map kt et), true => match mv with
    | .map none => match prun P (Instr.checkKey true 10000 kt key), aZero P et with
      | some _, some z => some (packed ok z false)
      | _, _ => none
    | .map (some r) => match h.get r with
      | some (.map es _) => match prun P (Instr.checkKey es.isEmpty 10000 kt key) with
        | some _ => match aFind P kt key es.toList with
          | some (some (_, v)) => some (packed ok v true)
          | some none => match aZero P et with
            | some z => some (packed ok z false)
            | none => none
          | none => none
        | none => none
      | _ => none
    | _ => none
  | _, _ => none

theorem aLookup_run {t : TypeId} {mv mv' key key' x : Value} {ok : Bool} (hr : HRel U m h w) (hm : VRel m mv mv') (hk : VRel m key key') (hx : aLookup P t mv key ok h = some x) :
    ∃ x', (Instr.lookup t mv' key' ok).run P w = .ok x' w ∧ VRel m x x' := by
  unfold aLookup at hx
  cases hu : P.underlying t with
  | none => simp [hu] at hx
  | some d =>
  cases hp : plain key with
  | false => cases d <;> simp [hu, hp] at hx
  | true =>
  obtain rfl := hk.plain hp
  cases d with
  | map kt et =>
    simp only [hu, hp] at hx
    have fin : ∀ (v : Value) (b : Bool), (Pure.pure (if ok then Value.tuple #[v, .bool b] else v) : Sem Value).run P w = .ok (packed ok v b) w := by
      intro v b; cases ok <;> rfl
    cases hm with
    | mapNil =>
      simp only at hx
      cases hc : prun P (Instr.checkKey true 10000 kt key') with
      | none => simp [hc] at hx
      | some _ =>
      cases hz : aZero P et with
      | none => simp [hc, hz] at hx
      | some z =>
      simp only [hc, hz, Option.some.injEq] at hx
      subst hx
      obtain ⟨z1, z2⟩ := aZero_run hz m w
      refine ⟨_, ?_, packed_rel z2 ok false⟩
      unfold Instr.lookup
      rw [run_bind', ru hu]
      simp only
      rw [run_bind', rp]
      simp only
      rw [run_bind', show (#[] : Array MapEntry).isEmpty = true from rfl, prun_run hc]
      simp only
      have : (Instr.findKey kt key' (#[] : Array MapEntry).toList).run P w = .ok none w := by
        have hkd : ∃ dk, P.underlying kt = some dk := by
          cases hh : P.underlying kt with
          | some dk => exact ⟨dk, rfl⟩
          | none =>
            exfalso
            have : prun P (Instr.checkKey true 10000 kt key') = none := by
              unfold Instr.checkKey
              show prun P (Sem.bind (Go.underlying kt) _) = none
              simp [Go.underlying, Go.program, Bind.bind, Sem.bind, prun, hh, stuck]
            rw [this] at hc; cases hc
        obtain ⟨dk, hdk⟩ := hkd
        unfold Instr.findKey
        rw [run_bind', ru hdk]
        rfl
      rw [run_bind', this]
      simp only
      rw [run_bind', z1]
      exact fin z false
    | map ha =>
      rename_i r r'
      simp only at hx
      cases hg : h.get r with
      | none => simp [hg] at hx
      | some o =>
      cases o with
      | map es clock =>
        simp only [hg] at hx
        obtain ⟨es', h0, h1, he⟩ := hr.map ha hg
        have hemp : es'.isEmpty = es.isEmpty := by
          have := he.isEmpty; simpa using this
        cases hc : prun P (Instr.checkKey es.isEmpty 10000 kt key') with
        | none => simp [hc] at hx
        | some _ =>
        simp only [hc] at hx
        have pre : ∀ (q : Option (Nat × Value)) (res : Value × Bool) , (Instr.findKey kt key' es'.toList).run P w = .ok q w →
            (match q with | some (_, v) => res = (v, true) | none => (Go.zeroValue et).run P w = .ok res.1 w ∧ res.2 = false) →
            (Instr.lookup t (.map (some r')) key' ok).run P w = .ok (packed ok res.1 res.2) w := by
          intro q res hq hres
          unfold Instr.lookup
          rw [run_bind', ru hu]
          simp only
          rw [run_bind', rg h1 (by simp)]
          simp only
          rw [run_bind', rp]
          simp only
          rw [run_bind', hemp, prun_run hc]
          simp only
          rw [run_bind', hq]
          simp only
          obtain ⟨rv, rb⟩ := res
          cases q with
          | none =>
            simp only at hres ⊢
            rw [run_bind', hres.1, hres.2]
            exact fin rv false
          | some q =>
            obtain ⟨qi, qv⟩ := q
            simp only [Prod.mk.injEq] at hres ⊢
            obtain ⟨rfl, rfl⟩ := hres
            exact fin rv true
        cases hf : aFind P kt key' es.toList with
        | none => simp [hf] at hx
        | some q =>
        obtain ⟨q', hq1, hq2⟩ := aFind_run (w := w) he hf
        cases q with
        | some q =>
          obtain ⟨i, v⟩ := q
          simp only [hf, Option.some.injEq] at hx
          subst hx
          cases q' with
          | none => exact hq2.elim
          | some q' =>
            obtain ⟨i', v'⟩ := q'
            exact ⟨_, pre _ (v', true) hq1 rfl, packed_rel hq2.2 ok true⟩
        | none =>
          simp only [hf] at hx
          cases hz : aZero P et with
          | none => simp [hz] at hx
          | some z =>
          simp only [hz, Option.some.injEq] at hx
          subst hx
          obtain ⟨z1, z2⟩ := aZero_run hz m w
          cases q' with
          | some _ => exact hq2.elim
          | none => exact ⟨_, pre _ (z, false) hq1 ⟨z1, rfl⟩, packed_rel z2 ok false⟩
      | _ => simp [hg] at hx
    | _ => simp at hx
  | _ => simp [hu, hp] at hx
end
end
end Go.AE
