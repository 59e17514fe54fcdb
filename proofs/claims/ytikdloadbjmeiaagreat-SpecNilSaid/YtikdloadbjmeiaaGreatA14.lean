import Derived.Test.YtikdloadbjmeiaaGreatA13
/- An evaluator over an abstract heap, part 14: append, whole; copy. -/
namespace Go.AE
open Go
noncomputable section
variable {U : Un}

section
variable {P : Program} {m : Mp} {h : AH} {w : World}

def setArr : Array Value → Nat → List Value → Array Value
  | C, _, [] => C
  | C, o, v :: r => setArr (C.setIfInBounds o v) (o + 1) r

theorem setArr_size : ∀ (vs : List Value) (C : Array Value) (o : Nat), (setArr C o vs).size = C.size
  | [], _, _ => rfl
  | v :: r, C, o => by simp [setArr, setArr_size r]

theorem setArr_get : ∀ (vs : List Value) (C : Array Value) (o i : Nat), o + vs.length ≤ C.size →
    (setArr C o vs)[i]? = if o ≤ i ∧ i < o + vs.length then vs[i - o]? else C[i]?
  | [], C, o, i, _ => by
    simp only [setArr]
    rw [if_neg]
    simp
  | v :: r, C, o, i, hl => by
    simp only [List.length_cons] at hl
    simp only [setArr]
    rw [setArr_get r (C.setIfInBounds o v) (o + 1) i (by simp; omega)]
    by_cases h1 : o = i
    · subst h1
      rw [if_neg (by omega), if_pos (by simp)]
      rw [Array.getElem?_setIfInBounds]
      simp
      omega
    · by_cases h2 : o + 1 ≤ i ∧ i < o + 1 + r.length
      · rw [if_pos h2, if_pos (by simp; omega)]
        rw [show i - o = (i - (o + 1)) + 1 by omega]
        simp
      · rw [if_neg h2, if_neg (by simp; omega)]
        rw [Array.getElem?_setIfInBounds, if_neg h1]

theorem setCells_heap (b : Nat) (e : TypeId) (fr : Nat × Nat) : ∀ (vs : List Value) (o : Nat) (w : World) (C : Array Value), w.heap[b]? = some (.cells C e fr) →
    (w.setCells b o vs).heap[b]? = some (.cells (setArr C o vs) e fr) ∧ (∀ c, c ≠ b → (w.setCells b o vs).heap[c]? = w.heap[c]?) ∧ (w.setCells b o vs).heap.size = w.heap.size
  | [], _, _, _, h => ⟨h, fun _ _ => rfl, rfl⟩
  | v :: r, o, w, C, h => by
    simp only [World.setCells, setArr]
    have h1 : (w.setCell ⟨b, o, none⟩ v).heap[b]? = some (.cells (C.setIfInBounds o v) e fr) := by
      simp [World.setCell, Array.getElem?_modify, h]
    have h2 : ∀ c, c ≠ b → (w.setCell ⟨b, o, none⟩ v).heap[c]? = w.heap[c]? := by
      intro c hne
      simp only [World.setCell, Array.getElem?_modify]
      rw [if_neg (fun e => hne e.symm)]
    obtain ⟨g1, g2, g3⟩ := setCells_heap b e fr r (o + 1) _ _ h1
    exact ⟨g1, fun c hc => by rw [g2 c hc, h2 c hc], by rw [g3]; simp [World.setCell]⟩

/-- The cells of a slice that is there. -/
def aOld (h : AH) (a : Addr) (l size : Nat) : Option (Array Value) := match l with
  | 0 => some #[]
  | l + 1 => aCells h a ((l + 1) * size)

def aAppend (P : Program) (t tx : TypeId) (s x : Value) (h : AH) : Option (Value × AH) := match P.underlying t with
  | some (.slice e) => match P.info? e, zeroCs P e, srcKind P tx with
    | some i, some zs, true => match Nat.beq zs.size i.size, aNews i.size x h with
      | true, some (n, cs) => match allOne cs.toList with
        | false => none
        | true => match n with
          | 0 => match s with
            | .slice none 0 0 => some (s, h)
            | .slice (some _) l c => match Nat.ble l (capLo c) with
              | true => some (s, h)
              | false => none
            | _ => none
          | n' + 1 => match s with
            | .slice none 0 0 => match Nat.ble ((n' + 1) * i.bytes) 140737488355328, Nat.ble (n' + 1) 9223372036854775807 with
              | true, true => match aRow h e cs with
                | some (a, h') => some (.slice (some a) (n' + 1) (unk i.size (n' + 1)), h')
                | none => none
              | _, _ => none
            | .slice (some a) l c => match Nat.ble ((l + (n' + 1)) * i.bytes) 140737488355328, Nat.ble (l + (n' + 1)) 9223372036854775807 with
              | true, true => match Nat.ble big c with
                | false => match Nat.ble (l + (n' + 1)) c with
                  | true => match arun P (storeCells (a.add (l * i.size)) cs.toList 0) h with
                    | some (_, h') => some (.slice (some a) (l + (n' + 1)) c, h')
                    | none => none
                  | false => match aOld h a l i.size with
                    | none => none
                    | some old => match aRow h e (old ++ cs) with
                      | some (a', h') => some (.slice (some a') (l + (n' + 1)) (unk i.size (l + (n' + 1))), h')
                      | none => none
                | true => match Nat.beq (c / big - 1) i.size, Nat.ble h.floor a.block, aCells h a (l * i.size) with
                  | true, true, some old => match aRow (h.put a.block dead) e (old ++ cs) with
                    | some (a', h') => some (.slice (some a') (l + (n' + 1)) (unk i.size (l + (n' + 1))), h')
                    | none => none
                  | _, _, _ => none
              | _, _ => none
            | _ => none
      | _, _ => none
    | _, _, _ => none
  | _ => none

/-- What is owed of an append's answer. -/
theorem setCells_os (b : Nat) : ∀ (vs : List Value) (o : Nat) (w : World), (w.setCells b o vs).os = w.os
  | [], _, _ => rfl
  | _ :: r, _, _ => setCells_os b r _ _
theorem setCells_out (b : Nat) : ∀ (vs : List Value) (o : Nat) (w : World), (w.setCells b o vs).output = w.output
  | [], _, _ => rfl
  | _ :: r, _, _ => setCells_out b r _ _

def Grows (P : Program) (m : Mp) (h : AH) (w : World) (s : Sem Value) (x : Value) (h' : AH) : Prop :=
  ∃ m' x' w', s.run P w = .ok x' w' ∧ Ext m w h.floor m' w' ∧ HRel U m' h' w' ∧ VRel m' x x' ∧ h'.floor = h.floor

theorem grow_row {e : TypeId} {i : TypeInfo} {z : Value} {zs cs old old' : Array Value} {news : List Value} {n cap : Nat} {a : Addr} {h2 h' : AH} {w' : World} {s : Sem Value}
    (hr : HRel U m h2 w) (hfl : h2.floor = h.floor) (hzs : zs = z.cells) (hs : zs.size = i.size) (hn : aRow h2 e (old ++ cs) = some (a, h')) (ho : ArrRel m old old') (hc : VsRel m cs.toList news)
    (hsz : (old ++ cs).size = n * i.size) (hcap : n ≤ cap) (hn63 : n ≤ 9223372036854775807)
    (hrun : s.run P w = .ok (.slice (some ⟨w.heap.size, 0, none⟩) n cap) w') (hw : w'.heap = w.heap.push (.cells ((old'.toList ++ news).toArray ++ Builtin.zeroCells z.cells (cap - n)) e)) (_hi : P.info? e = some i) (hos : w'.os = w.os := by rfl) (hou : w'.output = w.output := by rfl) :
    ∃ m' x' w', s.run P w = .ok x' w' ∧ Ext m w h.floor m' w' ∧ HRel U m' h' w' ∧ VRel m' (.slice (some a) n (unk i.size n)) x' ∧ h'.floor = h.floor := by
  unfold aRow at hn
  cases hnn : aNew h2 (.cells (old ++ cs) e) with
  | none => simp [hnn] at hn
  | some q =>
    obtain ⟨b, h3⟩ := q
    simp only [hnn, Option.some.injEq, Prod.mk.injEq] at hn
    obtain ⟨rfl, rfl⟩ := hn
    have hrel : VsRel m (old ++ cs).toList (old'.toList ++ news) := by
      simp only [Array.toList_append]; exact VsRel.append ho hc
    have hlen : (old'.toList ++ news).length = n * i.size := by
      rw [hrel.length]; simpa using hsz
    have hzc : (Builtin.zeroCells z.cells (cap - n)).size = (cap - n) * i.size := by
      rw [size_zeroCells, ← hzs, hs]
    have htot : ((old'.toList ++ news).toArray ++ Builtin.zeroCells z.cells (cap - n)).size = cap * i.size := by
      rw [Array.size_append, hzc]
      have : (old'.toList ++ news).toArray.size = n * i.size := by simpa using hlen
      rw [this, ← Nat.add_mul]; congr 1; omega
    unfold aNew at hnn
    cases h1 : h2.get h2.fresh with
    | some _ => simp [h1] at hnn
    | none =>
      simp only [h1, Option.some.injEq, Prod.mk.injEq] at hnn
      obtain ⟨rfl, rfl⟩ := hnn
      have e1 : Ext m w h.floor (m.new h2.fresh w.heap.size (cap * i.size)) w' := Ext.new hr h1 hw hos hou
      refine ⟨m.new h2.fresh w.heap.size (cap * i.size), _, w', hrun, e1, hr.new h1 (fun y => AH.get_put h2 h2.fresh y _) hw ⟨rfl, ?_, ?_, ?_, ?_⟩, .slice ?_ ⟨fun hlt => ?_, fun _ => ⟨?_, fun c s e => ?_⟩⟩, hfl⟩
      · rw [hsz]; exact Nat.mul_le_mul_right _ hcap
      · rw [htot]; simp
      · intro j v hv
        have hlt : j < n * i.size := by
          have := (Array.getElem?_eq_some_iff.1 hv).1
          omega
        obtain ⟨v', g1, g2⟩ := VsRel.getElem? hrel (i := j) (v := v) (by rw [Array.getElem?_toList]; exact hv)
        refine ⟨v', ?_, g2.mono e1.le⟩
        simp only [Nat.zero_add]
        rw [Array.getElem?_append_left (by simpa using (by omega : j < (old'.toList ++ news).length))]
        simpa using g1
      · intro j _ hh; simp at hh
      · have := AddrRel.live (m := m.new h2.fresh w.heap.size (cap * i.size)) (b := h2.fresh) (c := w.heap.size) (s := ⟨0, cap * i.size⟩) (o := 0) (by simp [Mp.new])
        simpa using this
      · have := unk_big i.size n; omega
      · rw [unk_mod (by unfold big; omega)]; exact hcap
      · have : (m.new h2.fresh w.heap.size (cap * i.size)) h2.fresh = some (some (w.heap.size, ⟨0, cap * i.size⟩)) := by simp [Mp.new]
        rw [this] at e; cases e
        rw [unk_div (by unfold big; omega)]
        simp

theorem aOld_run {a a' : Addr} {l cap' : Nat} {size : Nat} {old : Array Value} (hr : HRel U m h w) (ha : AddrRel m a a' ∨ l = 0) (hx : aOld h a l size = some old) :
    ∃ old', (∀ w' : World, w'.heap = w.heap → (Builtin.firstCells size l (.slice (some a') l cap')).run P w' = .ok old' w') ∧ ArrRel m old old' ∧ old.size = l * size := by
  unfold aOld at hx
  cases l with
  | zero =>
    simp only [Option.some.injEq] at hx
    subst hx
    exact ⟨#[], fun w' _ => by simp [Builtin.firstCells, loadCells, loadCellsFrom], .nil, by simp⟩
  | succ l =>
    rcases ha with ha | ha
    · obtain ⟨xs', r1, r2, r3, _⟩ := aCells_run (P := P) hr ha hx
      exact ⟨xs', r1, r2, r3⟩
    · omega

theorem aAppend_run {t tx rt : TypeId} {s s' x x' y : Value} {h' : AH} (hr : HRel U m h w) (hs : VRel m s s') (hx : VRel m x x') (he : aAppend P t tx s x h = some (y, h')) :
    ∃ m' y' w', (Builtin.append_ #[t, tx] rt #[s', x']).run P w = .ok y' w' ∧ Ext m w h.floor m' w' ∧ HRel U m' h' w' ∧ VRel m' y y' ∧ h'.floor = h.floor := by
  unfold aAppend at he
  cases hu : P.underlying t with
  | none => simp [hu] at he
  | some d =>
  cases d with
  | slice e =>
    simp only [hu] at he
    cases hi : P.info? e with
    | none => simp [hi] at he
    | some i =>
    cases hz : zeroCs P e with
    | none => simp [hi, hz] at he
    | some zs =>
    cases hk : srcKind P tx with
    | false => simp [hi, hz, hk] at he
    | true =>
    simp only [hi, hz, hk] at he
    cases hb : Nat.beq zs.size i.size with
    | false => simp [hb] at he
    | true =>
    cases hn : aNews i.size x h with
    | none => simp [hb, hn] at he
    | some q =>
    obtain ⟨n, cs⟩ := q
    simp only [hb, hn] at he
    cases ho : allOne cs.toList with
    | false => simp [ho] at he
    | true =>
    simp only [ho] at he
    have hb' := Nat.eq_of_beq_eq_true hb
    obtain ⟨i', z, hi', hzz, hp, hzs⟩ := zeroCs_run hz
    rw [hi] at hi'; cases hi'
    obtain ⟨news, src, hnews⟩ := aNews_src (P := P) hi hr hx hn hk ho
    have hcsz : cs.size = n * i.size := (aNews_run (P := P) hr hx hn).2.2
    have fits : ∀ (need old : Nat), old < need → need * i.bytes ≤ 140737488355328 → Builtin.nextslicecap need old * i.bytes ≤ 281474976710656 := fun need old h1 h2 => growslice_fits h1 h2
    -- nothing is appended
    have nothing : n = 0 → ∀ (b : Option Addr) (l c : Nat), s' = .slice b l c → l ≤ c → (b = none → l = 0 ∧ c = 0) → (Builtin.append_ #[t, tx] rt #[s', x']).run P w = .ok s' w := by
      intro hn0 b l c hs' hl hbn
      subst hn0
      subst hs'
      have hnl : news = [] := by
        have := src.newsLen
        simp at this
        exact this
      rw [hnl] at src
      have hcells := src.cells
      have e0 : (#[.slice b l c, x'] : Array Value)[0]? = some (.slice b l c) := rfl
      have e1 : (#[.slice b l c, x'] : Array Value)[1]? = some x' := rfl
      have e2 : (#[t, tx] : Array TypeId)[0]? = some t := rfl
      have e3 : (#[t, tx] : Array TypeId)[1]? = some tx := rfl
      rcases src.kind with ⟨e', hke⟩ | hke
      all_goals
        unfold Builtin.append_
        simp only [e0, e1, e2, e3]
        rw [run_bind', ru hu]
        simp only
        rw [run_bind', rs hi]
        simp only
        rw [run_bind', ru hke]
        simp only
        rw [run_bind', rp]
        simp only [Bool.false_eq_true, if_false]
        rw [run_bind', src.len]
        simp only [Nat.add_zero]
        rw [if_pos hl]
        simp only [Bool.not_false, if_true]
        rw [run_bind', hcells]
        simp only
        cases b with
        | none => rfl
        | some a => simp only [storeCells]; rw [run_bind', rp]; rfl
    cases n with
    | zero =>
      simp only at he
      cases hs with
      | sliceNil =>
        simp at he
        obtain ⟨rfl, rfl⟩ := he
        exact ⟨m, _, w, nothing rfl none 0 0 rfl (Nat.le_refl _) (fun _ => ⟨rfl, rfl⟩), .refl .., hr, .sliceNil, rfl⟩
      | slice ha hc =>
        rename_i a a' l k k'
        simp only at he
        cases hle : Nat.ble l (capLo k) with
        | false => simp [hle] at he
        | true =>
          simp only [hle, Option.some.injEq, Prod.mk.injEq] at he
          obtain ⟨rfl, rfl⟩ := he
          have hlow : capLo k ≤ k' := by
            unfold capLo
            cases hbk : Nat.ble big k with
            | true => exact (hc.2 (Nat.le_of_ble_eq_true hbk)).1
            | false => simp only; rw [hc.1 (not_ble hbk)]; exact Nat.le_refl _
          exact ⟨m, _, w, nothing rfl (some a') l k' rfl (Nat.le_trans (Nat.le_of_ble_eq_true hle) hlow) (fun h => by cases h), .refl .., hr, .slice ha hc, rfl⟩
      | sliceEmpty hbd hc =>
        simp only at he
        split at he
        · simp only [Option.some.injEq, Prod.mk.injEq] at he
          obtain ⟨rfl, rfl⟩ := he
          exact ⟨m, _, w, nothing rfl (some _) 0 0 rfl (Nat.le_refl _) (fun h => by cases h), .refl .., hr, .sliceEmpty hbd hc, rfl⟩
        · simp at he
      | _ => simp at he
    | succ n' =>
      simp only at he
      -- there is room: the cells are stored
      have room : ∀ (a' : Addr) (l c : Nat) (w' : World), s' = .slice (some a') l c → l + (n' + 1) ≤ c → (storeCells (a'.add (l * i.size)) news 0).run P w = .ok () w' →
          (Builtin.append_ #[t, tx] rt #[s', x']).run P w = .ok (.slice (some a') (l + (n' + 1)) c) w' := by
        intro a' l c w' hs' hl hst
        subst hs'
        have hcells := src.cells
        have e0 : (#[.slice (some a') l c, x'] : Array Value)[0]? = some (.slice (some a') l c) := rfl
        have e1 : (#[.slice (some a') l c, x'] : Array Value)[1]? = some x' := rfl
        have e2 : (#[t, tx] : Array TypeId)[0]? = some t := rfl
        have e3 : (#[t, tx] : Array TypeId)[1]? = some tx := rfl
        rcases src.kind with ⟨e', hke⟩ | hke
        all_goals
          unfold Builtin.append_
          simp only [e0, e1, e2, e3]
          rw [run_bind', ru hu]
          simp only
          rw [run_bind', rs hi]
          simp only
          rw [run_bind', ru hke]
          simp only
          rw [run_bind', rp]
          simp only [Bool.false_eq_true, if_false]
          rw [run_bind', src.len]
          simp only
          rw [if_pos hl]
          simp only [Bool.not_false, if_true]
          rw [run_bind', hcells]
          simp only
          rw [run_bind', hst]
          rfl
      -- there is none
      have grow : ∀ (base : Option Addr) (l c : Nat) (old old' : Array Value) (m2 : Mp) (h2 : AH) (b : Addr) (h3 : AH), s' = .slice base l c → c < l + (n' + 1) → Mle m m2 → HRel U m2 h2 w → h2.floor = h.floor →
          (∀ w' : World, w'.heap = w.heap → (Builtin.firstCells i.size l (.slice base l c)).run P w' = .ok old' w') → ArrRel m2 old old' → old.size = l * i.size →
          (l + (n' + 1)) * i.bytes ≤ 140737488355328 → l + (n' + 1) ≤ 9223372036854775807 → aRow h2 e (old ++ cs) = some (b, h3) →
          ∃ m' y' w', (Builtin.append_ #[t, tx] rt #[s', x']).run P w = .ok y' w' ∧ Ext m2 w h.floor m' w' ∧ HRel U m' h3 w' ∧ VRel m' (.slice (some b) (l + (n' + 1)) (unk i.size (l + (n' + 1)))) y' ∧ h3.floor = h.floor := by
        intro base l c old old' m2 h2 b h3 hs' hc hle hr2 hf2 hold hrel hosz hbb h63 hrow
        subst hs'
        have hrun := run_append_grow_src w t tx rt e i z hu hi hzz base l c old'.toList (by rw [Array.toArray_toList]; exact hold w.drew rfl) x' (n' + 1) news src hc (by omega) (fits _ _ hc hbb)
        exact grow_row hr2 hf2 hzs hb' hrow hrel (hnews.mono hle) (by rw [Array.size_append, hosz, hcsz]; exact (Nat.add_mul l (n' + 1) i.size).symm) (grownCap_ge w _ _ _) h63 hrun rfl hi
      -- the old block dies, and there is none
      have die : ∀ (a : Addr) (base : Option Addr) (l c : Nat) (old old' : Array Value) (b : Addr) (h3 : AH), U a.block = none → s' = .slice base l c → c < l + (n' + 1) →
          (∀ w' : World, w'.heap = w.heap → (Builtin.firstCells i.size l (.slice base l c)).run P w' = .ok old' w') → ArrRel m old old' → old.size = l * i.size →
          (l + (n' + 1)) * i.bytes ≤ 140737488355328 → l + (n' + 1) ≤ 9223372036854775807 → aRow (h.put a.block dead) e (old ++ cs) = some (b, h3) →
          ∃ m' y' w', (Builtin.append_ #[t, tx] rt #[s', x']).run P w = .ok y' w' ∧ Ext m w h.floor m' w' ∧ HRel U m' h3 w' ∧ VRel m' (.slice (some b) (l + (n' + 1)) (unk i.size (l + (n' + 1)))) y' ∧ h3.floor = h.floor := by
        intro a base l c old old' b h3 hua hs' hc hold hrel hosz hbb h63 hrow
        obtain ⟨m2, d1, d2, d3, _⟩ := hr.dies hua (h' := h.put a.block dead) (b := a.block) (fun x => AH.get_put h a.block x dead)
        obtain ⟨m', y', w', q1, q2, q3, q4, q5⟩ := grow base l c old old' m2 (h.put a.block dead) b h3 hs' hc d1 d2 rfl hold (hrel.mono d1) hosz hbb h63 hrow
        have e1 : Ext m w h.floor m2 w := ⟨d1, Nat.le_refl _, fun _ _ _ => rfl, fun b c s e _ => .inl (d3 b c s e), rfl, rfl⟩
        exact ⟨m', y', w', q1, e1.trans q2, q3, q4, q5⟩
      cases hs with
      | sliceNil =>
        simp only at he
        cases g1 : Nat.ble ((n' + 1) * i.bytes) 140737488355328 with
        | false => simp [g1] at he
        | true =>
        cases g2 : Nat.ble (n' + 1) 9223372036854775807 with
        | false => simp [g1, g2] at he
        | true =>
        simp only [g1, g2] at he
        cases hrow : aRow h e cs with
        | none => simp [hrow] at he
        | some q =>
        obtain ⟨b, h3⟩ := q
        simp only [hrow, Option.some.injEq, Prod.mk.injEq] at he
        obtain ⟨rfl, rfl⟩ := he
        have g1' := Nat.le_of_ble_eq_true g1
        have g2' := Nat.le_of_ble_eq_true g2
        have := grow none 0 0 #[] #[] m h b h3 rfl (by omega) (.refl m) hr rfl (fun w' _ => rfl) .nil (by simp) (by rw [Nat.zero_add]; exact g1') (by rw [Nat.zero_add]; exact g2') (by rw [Array.empty_append]; exact hrow)
        rw [Nat.zero_add] at this
        exact this
      | sliceEmpty hbd hc =>
        rename_i a a' k
        simp only at he
        cases g1 : Nat.ble ((0 + (n' + 1)) * i.bytes) 140737488355328 with
        | false => simp only [g1] at he; cases he
        | true =>
        cases g2 : Nat.ble (0 + (n' + 1)) 9223372036854775807 with
        | false => simp only [g1, g2] at he; cases he
        | true =>
        simp only [g1, g2] at he
        have g1' := Nat.le_of_ble_eq_true g1
        have g2' := Nat.le_of_ble_eq_true g2
        cases hbk : Nat.ble big k with
        | false =>
          have hk0 : k = 0 := hc.1 (not_ble hbk)
          subst hk0
          have g3 : Nat.ble (0 + (n' + 1)) 0 = false := ble_f (by omega)
          simp only [hbk, g3, aOld] at he
          cases hrow : aRow h e (#[] ++ cs) with
          | none => simp only [hrow] at he; cases he
          | some q =>
          obtain ⟨b, h3⟩ := q
          simp only [hrow, Option.some.injEq, Prod.mk.injEq] at he
          obtain ⟨rfl, rfl⟩ := he
          exact grow (some a') 0 0 #[] #[] m h b h3 rfl (by omega) (.refl m) hr rfl (fun w' _ => by simp [Builtin.firstCells, loadCells, loadCellsFrom]) .nil (by simp) g1' g2' hrow
        | true =>
          simp only [hbk] at he
          cases g3 : Nat.beq (k / big - 1) i.size with
          | false => simp only [g3] at he; cases he
          | true =>
          cases g4 : Nat.ble h.floor a.block with
          | false => simp only [g3, g4] at he; cases he
          | true =>
          cases hco : aCells h a (0 * i.size) with
          | none => simp only [g3, g4, hco] at he; cases he
          | some old =>
          simp only [g3, g4, hco] at he
          cases hrow : aRow (h.put a.block dead) e (old ++ cs) with
          | none => simp only [hrow] at he; cases he
          | some q =>
          obtain ⟨b, h3⟩ := q
          simp only [hrow, Option.some.injEq, Prod.mk.injEq] at he
          obtain ⟨rfl, rfl⟩ := he
          have hold : old = #[] := by
            unfold aCells at hco
            cases hsp : a.spot with
            | some _ => simp [hsp] at hco
            | none =>
              simp only [hsp] at hco
              cases hg : h.get a.block with
              | none => simp [hg] at hco
              | some ob =>
                cases ob with
                | cells C e2 f2 =>
                  simp only [hg] at hco
                  split at hco
                  · simp only [Option.some.injEq] at hco
                    subst hco
                    rw [Nat.zero_mul, Nat.add_zero]
                    exact Array.eq_empty_of_size_eq_zero (by rw [Array.size_extract]; omega)
                  · cases hco
                | _ => simp [hg] at hco
          subst hold
          exact die a (some a') 0 0 #[] #[] b h3 (by obtain ⟨_, hbd⟩ := hbd; exact hr.un hbd) rfl (by omega) (fun w' _ => by simp [Builtin.firstCells, loadCells, loadCellsFrom]) .nil (by simp) g1' g2' hrow
      | slice ha hc =>
        rename_i a a' l k k'
        simp only at he
        cases g1 : Nat.ble ((l + (n' + 1)) * i.bytes) 140737488355328 with
        | false => simp only [g1] at he; cases he
        | true =>
        cases g2 : Nat.ble (l + (n' + 1)) 9223372036854775807 with
        | false => simp only [g1, g2] at he; cases he
        | true =>
        simp only [g1, g2] at he
        have g1' := Nat.le_of_ble_eq_true g1
        have g2' := Nat.le_of_ble_eq_true g2
        cases hbk : Nat.ble big k with
        | false =>
          have hkk : k' = k := hc.1 (not_ble hbk)
          subst hkk
          simp only [hbk] at he
          cases g3 : Nat.ble (l + (n' + 1)) k' with
          | true =>
            simp only [g3] at he
            cases hst : arun P (storeCells (a.add (l * i.size)) cs.toList 0) h with
            | none => simp only [hst] at he; cases he
            | some q =>
            obtain ⟨_, h3⟩ := q
            simp only [hst, Option.some.injEq, Prod.mk.injEq] at he
            obtain ⟨rfl, rfl⟩ := he
            obtain ⟨m', _, w', q1, q2, q3, _⟩ := sim_storeCells (P := P) cs.toList m h w _ _ 0 news hr (ha.add (l * i.size)) hnews () h3 hst
            exact ⟨m', _, w', room a' l k' w' rfl (Nat.le_of_ble_eq_true g3) q1, q2, q3, .slice (ha.mono q2.le) (hc.mono ha q2.le), (arun_keeps _ _ _ _ hst).1⟩
          | false =>
            simp only [g3] at he
            cases hco : aOld h a l i.size with
            | none => simp only [hco] at he; cases he
            | some old =>
            simp only [hco] at he
            cases hrow : aRow h e (old ++ cs) with
            | none => simp only [hrow] at he; cases he
            | some q =>
            obtain ⟨b, h3⟩ := q
            simp only [hrow, Option.some.injEq, Prod.mk.injEq] at he
            obtain ⟨rfl, rfl⟩ := he
            obtain ⟨old', o1, o2, o3⟩ := aOld_run (P := P) (cap' := k') hr (.inl ha) hco
            exact grow (some a') l k' old old' m h b h3 rfl (not_ble g3) (.refl m) hr rfl o1 o2 o3 g1' g2' hrow
        | true =>
          simp only [hbk] at he
          cases g3 : Nat.beq (k / big - 1) i.size with
          | false => simp only [g3] at he; cases he
          | true =>
          cases g4 : Nat.ble h.floor a.block with
          | false => simp only [g3, g4] at he; cases he
          | true =>
          cases hco : aCells h a (l * i.size) with
          | none => simp only [g3, g4, hco] at he; cases he
          | some old =>
          simp only [g3, g4, hco] at he
          cases hrow : aRow (h.put a.block dead) e (old ++ cs) with
          | none => simp only [hrow] at he; cases he
          | some q =>
          obtain ⟨b, h3⟩ := q
          simp only [hrow, Option.some.injEq, Prod.mk.injEq] at he
          obtain ⟨rfl, rfl⟩ := he
          obtain ⟨old', o1, o2, o3, _⟩ := aCells_run (P := P) hr ha hco
          have o1' : ∀ w' : World, w'.heap = w.heap → (Builtin.firstCells i.size l (.slice (some a') l k')).run P w' = .ok old' w' := fun w' hw' => o1 w' hw'
          by_cases hfit : l + (n' + 1) ≤ k'
          · have hsz := (hc.2 (Nat.le_of_ble_eq_true hbk)).2
            rw [Nat.eq_of_beq_eq_true g3] at hsz
            have hlive : ∃ C e2 f2, h.get a.block = some (.cells C e2 f2) := by
              unfold aCells at hco
              cases hsp : a.spot with
              | some _ => simp [hsp] at hco
              | none =>
                simp only [hsp] at hco
                cases hg : h.get a.block with
                | none => simp [hg] at hco
                | some ob => cases ob <;> simp [hg] at hco ⊢
            obtain ⟨C, e2, f2, hg⟩ := hlive
            obtain ⟨x0, hx0⟩ := ha.some
            obtain ⟨c, sp, C', e', lo, hi', h0, h1, hfr, q1, q2, h3c, h4⟩ := hr.cells hg hx0
            cases ha with
            | dead hm => rw [h0] at hm; cases hm
            | live hm =>
            rw [h0] at hm; cases hm
            rename_i ab ao _
            have hroom := hsz c sp h0
            have hnl : news.length = (n' + 1) * i.size := src.newsLen
            have hlt : (l + (n' + 1)) * i.size ≤ k' * i.size := Nat.mul_le_mul_right _ hfit
            rw [Nat.add_mul] at hlt
            simp only at hroom
            have hrun := run_append_room_src w t tx rt e i hu hi c (sp.off + ao) l k' x' (n' + 1) news src hfit
              (by
                intro j hj
                have : sp.off + ao + l * i.size + j < C'.size := by omega
                simp [World.cell?, h1, this])
              (by
                intro j hj
                have := h4 (ao + l * i.size + j) (by omega)
                simp only [World.frozen?, h1]
                rw [Bool.and_eq_false_iff]
                by_cases hlo : lo ≤ sp.off + ao + l * i.size + j
                · right
                  simp; omega
                · left; simp; omega)
            obtain ⟨g5, g6, g7⟩ := setCells_heap c e' (lo, hi') news (sp.off + ao + l * i.size) w C' h1
            unfold aRow at hrow
            cases hnn : aNew (h.put ab dead) (.cells (old ++ cs) e) with
            | none => simp [hnn] at hrow
            | some q =>
            obtain ⟨b', h4'⟩ := q
            simp only [hnn, Option.some.injEq, Prod.mk.injEq] at hrow
            obtain ⟨rfl, rfl⟩ := hrow
            unfold aNew at hnn
            cases h5 : (h.put ab dead).get (h.put ab dead).fresh with
            | some _ => simp [h5] at hnn
            | none =>
            simp only [h5, Option.some.injEq, Prod.mk.injEq] at hnn
            obtain ⟨rfl, rfl⟩ := hnn
            have hfr5 : h.get h.fresh = none ∧ ab ≠ h.fresh := by
              have h5' : (h.put ab dead).get h.fresh = none := h5
              rw [AH.get_put] at h5'
              by_cases hab : h.fresh = ab
              · rw [if_pos hab] at h5'; cases h5'
              · rw [if_neg hab] at h5'; exact ⟨h5', fun hh => hab hh.symm⟩
            obtain ⟨m1, m2, m3⟩ := hr.moved (h' := { (h.put ab dead).put h.fresh (.cells (old ++ cs) e) with fresh := h.fresh + 1 }) (w' := w.setCells c (sp.off + ao + l * i.size) news) (b := ab) (b' := h.fresh)
              (o := .cells (old ++ cs) e) (s' := ⟨sp.off + ao, sp.room - ao⟩) h0 hfr5.1 hfr5.2
              (fun x => by
                show ((h.put ab dead).put h.fresh (.cells (old ++ cs) e)).get x = _
                rw [AH.get_put, AH.get_put])
              g5 g6
              (fun m' hle => by
                have hosz : old.size = l * i.size := o3
                refine ⟨rfl, ?_, ?_, ?_, ?_⟩
                · rw [Array.size_append, hosz, hcsz]; show _ ≤ sp.room - ao; omega
                · rw [setArr_size]; show sp.off + ao + (sp.room - ao) ≤ C'.size; omega
                · intro j v hv
                  show ∃ v', (setArr C' (sp.off + ao + l * i.size) news)[sp.off + ao + j]? = some v' ∧ _
                  rw [setArr_get _ _ _ _ (by omega)]
                  by_cases hj : j < old.size
                  · rw [if_neg (by omega)]
                    rw [Array.getElem?_append_left hj] at hv
                    have hv2 : C[ao + j]? = some v := by
                      unfold aCells at hco
                      simp only [hg] at hco
                      split at hco
                      · simp only [Option.some.injEq] at hco
                        subst hco
                        rw [Array.getElem?_extract] at hv
                        split at hv
                        · exact hv
                        · cases hv
                      · cases hco
                    obtain ⟨v', e1, e2⟩ := h3c _ _ hv2
                    exact ⟨v', by rw [Nat.add_assoc]; exact e1, e2.mono hle⟩
                  · rw [Array.getElem?_append_right (by omega)] at hv
                    have hjl : j - old.size < cs.size := (Array.getElem?_eq_some_iff.1 hv).1
                    obtain ⟨v', e1, e2⟩ := VsRel.getElem? hnews (i := j - old.size) (v := v) (by rw [Array.getElem?_toList]; exact hv)
                    refine ⟨v', ?_, e2.mono hle⟩
                    rw [if_pos (by omega)]
                    rw [show sp.off + ao + j - (sp.off + ao + l * i.size) = j - old.size by omega]
                    exact e1
                · intro j hj
                  have hj' : j < sp.room - ao := hj
                  have := h4 (ao + j) (by omega)
                  show ¬ (lo ≤ sp.off + ao + j ∧ sp.off + ao + j < hi')
                  rw [Nat.add_assoc]; exact this)
            have hbk' : h.floor ≤ ab := Nat.le_of_ble_eq_true g4
            refine ⟨_, .slice (some ⟨c, sp.off + ao, none⟩) (l + (n' + 1)) k', _, hrun, ⟨m1, Nat.le_of_eq g7.symm, ?_, ?_, setCells_os _ _ _ _, setCells_out _ _ _ _⟩, m2, .slice ?_ ⟨fun hlt => ?_, fun _ => ⟨?_, fun c2 s2 e2 => ?_⟩⟩, rfl⟩
            · intro c2 hc2 hall
              exact g6 c2 (fun hh => by have := hall ab sp (hh ▸ h0); omega)
            · intro x c2 s2 e2 hc2
              rcases m3 x c2 s2 e2 with h6 | ⟨rfl, rfl⟩
              · exact .inl h6
              · exact .inr ⟨ab, sp, h0, hbk'⟩
            · have := AddrRel.live (m := m.move ab h.fresh c ⟨sp.off + ao, sp.room - ao⟩) (b := h.fresh) (c := c) (s := ⟨sp.off + ao, sp.room - ao⟩) (o := 0) (Mp.move_new ..)
              show AddrRel _ ⟨h.fresh, 0, none⟩ _
              simpa using this
            · have := unk_big i.size (l + (n' + 1)); omega
            · rw [unk_mod (by unfold big; omega)]; exact hfit
            · have := Mp.move_new m ab h.fresh c ⟨sp.off + ao, sp.room - ao⟩
              simp only at e2
              have e2' : m.move ab h.fresh c ⟨sp.off + ao, sp.room - ao⟩ h.fresh = some (some (c2, s2)) := e2
              rw [this] at e2'; cases e2'
              rw [unk_div (by unfold big; omega)]
              show 0 + k' * i.size ≤ sp.room - ao
              omega
          · exact die a (some a') l k' old old' b h3 (hr.unA ha) rfl (by omega) o1' o2 o3 g1' g2' hrow
      | _ => simp at he
  | _ => simp [hu] at he
end
end
end Go.AE
