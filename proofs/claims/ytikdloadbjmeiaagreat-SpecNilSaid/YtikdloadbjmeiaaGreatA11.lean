import Derived.Test.YtikdloadbjmeiaaGreatA10
/- An evaluator over an abstract heap, part 11: maps written; what goes over a map. -/
namespace Go.AE
open Go
noncomputable section
variable {U : Un}

section
variable {P : Program} {m : Mp} {h : AH} {w : World}

theorem ERel.modify {es es' : List MapEntry} (he : ERel m es es') (i : Nat) {f g : MapEntry → MapEntry}
    (hfg : ∀ e e', VRel m e.key e'.key → VRel m e.val e'.val → e'.born = e.born → VRel m (f e).key (g e').key ∧ VRel m (f e).val (g e').val ∧ (g e').born = (f e).born) :
    ERel m (es.modify i f) (es'.modify i g) := by
  induction es generalizing es' i with
  | nil => cases es' with
    | nil => simp; trivial
    | cons _ _ => exact he.elim
  | cons e es ih =>
    cases es' with
    | nil => exact he.elim
    | cons e' es' =>
      obtain ⟨h1, h2, h3, h4⟩ := he
      cases i with
      | zero =>
        obtain ⟨g1, g2, g3⟩ := hfg e e' h1 h2 h3
        simp only [List.modify_zero_cons]
        exact ⟨g1, g2, g3, h4⟩
      | succ i =>
        simp only [List.modify_succ_cons]
        exact ⟨h1, h2, h3, ih h4 i⟩

theorem ERel.append {es es' fs fs' : List MapEntry} (he : ERel m es es') (hf : ERel m fs fs') : ERel m (es ++ fs) (es' ++ fs') := by
  induction es generalizing es' with
  | nil => cases es' with
    | nil => exact hf
    | cons _ _ => exact he.elim
  | cons e es ih =>
    cases es' with
    | nil => exact he.elim
    | cons e' es' =>
      obtain ⟨h1, h2, h3, h4⟩ := he
      exact ⟨h1, h2, h3, ih h4⟩

theorem ERel.erase {es es' : List MapEntry} (he : ERel m es es') (i : Nat) : ERel m (es.eraseIdx i) (es'.eraseIdx i) := by
  induction es generalizing es' i with
  | nil => cases es' with
    | nil => simp; trivial
    | cons _ _ => exact he.elim
  | cons e es ih =>
    cases es' with
    | nil => exact he.elim
    | cons e' es' =>
      obtain ⟨h1, h2, h3, h4⟩ := he
      cases i with
      | zero => exact h4
      | succ i => exact ⟨h1, h2, h3, ih h4 i⟩

theorem ERel.get {es es' : List MapEntry} (he : ERel m es es') {i : Nat} {e : MapEntry} (hi : es[i]? = some e) : ∃ e', es'[i]? = some e' ∧ VRel m e.key e'.key ∧ VRel m e.val e'.val ∧ e'.born = e.born := by
  induction es generalizing es' i with
  | nil => simp at hi
  | cons x es ih =>
    cases es' with
    | nil => exact he.elim
    | cons e' es' =>
      obtain ⟨h1, h2, h3, h4⟩ := he
      cases i with
      | zero => simp at hi; subst hi; exact ⟨e', rfl, h1, h2, h3⟩
      | succ i => simpa using ih h4 (by simpa using hi)

/-- A block that is no cells is put anew. -/
theorem put_run (hr : HRel U m h w) {r r' : Nat} (ha : m r = some (some (r', ⟨0, 0⟩))) {p p' o o' : Obj} (_hg : h.get r = some p) (hw : w.heap[r']? = some p') (hp : ∀ C e f, p' ≠ .cells C e f)
    (ho : ORel m ⟨0, 0⟩ o o') (hf : h.floor ≤ r) : ∃ w', (Go.setObj r' o').run P w = .ok () w' ∧ Ext m w h.floor m w' ∧ HRel U m (h.put r o) w' := by
  have hlt : r' < w.heap.size := (Array.getElem?_eq_some_iff.1 hw).1
  have hthere : ({ w with heap := w.heap.setIfInBounds r' o' } : World).heap[r']? = some o' := by
    show (w.heap.setIfInBounds r' o')[r']? = _
    rw [Array.getElem?_setIfInBounds]; simp [hlt]
  have hother : ∀ c', c' ≠ r' → ({ w with heap := w.heap.setIfInBounds r' o' } : World).heap[c']? = w.heap[c']? := by
    intro c' hne
    show (w.heap.setIfInBounds r' o')[c']? = _
    rw [Array.getElem?_setIfInBounds, if_neg (fun e => hne e.symm)]
  refine ⟨_, ?_, Ext.change ha hf (by simp) hother, hr.change ha (fun x => AH.get_put h r x o) hthere ho hother⟩
  cases p' <;> first | (simp [Go.setObj, Sem.run, hw]; done) | exact absurd rfl (hp _ _ _)

def aMapUpdate (P : Program) (t : TypeId) (mv key val : Value) (h : AH) : Option AH := match P.underlying t with
  | some (.map kt _) => match plain key with
    | false => none
    | true => match mv with
    | .map (some r) => match Nat.ble h.floor r with
      | false => none
      | true => match h.get r with
        | some (.map es clock) => match prun P (Instr.checkKey false 10000 kt key) with
          | none => none
          | some _ => match aFind P kt key es.toList with
            | some (some (i, _)) => match es[i]? with
              | some e => match prun P (Instr.keyThatStays e.key key) with
                | some k' => match plain k' with
                  | true => some (h.put r (.map (es.modify i fun e => { e with key := k', val }) clock))
                  | false => none
                | none => none
              | none => none
            | some none => some (h.put r (.map (es.push { key, val, born := clock }) (clock + 1)))
            | none => none
        | _ => none
    | _ => none
  | _ => none

theorem aMapUpdate_run {t : TypeId} {mv mv' key key' val val' : Value} {h' : AH} (hr : HRel U m h w) (hm : VRel m mv mv') (hk : VRel m key key') (hv : VRel m val val')
    (hx : aMapUpdate P t mv key val h = some h') :
    ∃ w', (Instr.mapUpdate t mv' key' val').run P w = .ok () w' ∧ Ext m w h.floor m w' ∧ HRel U m h' w' ∧ h'.floor = h.floor := by
  unfold aMapUpdate at hx
  cases hu : P.underlying t with
  | none => simp [hu] at hx
  | some d =>
  cases d with
  | map kt et =>
    simp only [hu] at hx
    cases hp : plain key with
    | false => simp [hp] at hx
    | true =>
    obtain rfl := hk.plain hp
    simp only [hp] at hx
    cases hm with
    | map ha =>
      rename_i r r'
      simp only at hx
      cases hf : Nat.ble h.floor r with
      | false => simp [hf] at hx
      | true =>
      simp only [hf] at hx
      have hf' := Nat.le_of_ble_eq_true hf
      cases hg : h.get r with
      | none => simp [hg] at hx
      | some o =>
      cases o with
      | map es clock =>
        simp only [hg] at hx
        obtain ⟨es', h0, h1, he⟩ := hr.map ha hg
        cases hc : prun P (Instr.checkKey false 10000 kt key') with
        | none => simp [hc] at hx
        | some _ =>
        simp only [hc] at hx
        cases hfi : aFind P kt key' es.toList with
        | none => simp [hfi] at hx
        | some q =>
        obtain ⟨q', hq1, hq2⟩ := aFind_run (w := w) he hfi
        cases q with
        | some q =>
          obtain ⟨i, v⟩ := q
          simp only [hfi] at hx
          cases q' with
          | none => exact hq2.elim
          | some q' =>
          obtain ⟨i', v'⟩ := q'
          obtain ⟨rfl, hv2⟩ := hq2
          cases hei : es[i']? with
          | none => simp [hei] at hx
          | some e =>
          simp only [hei] at hx
          cases hks : prun P (Instr.keyThatStays e.key key') with
          | none => simp [hks] at hx
          | some k' =>
          simp only [hks] at hx
          cases hpk : plain k' with
          | false => simp [hpk] at hx
          | true =>
          simp only [hpk, Option.some.injEq] at hx
          subst hx
          obtain ⟨e', hei', hkk, hvv, hbb⟩ := ERel.get he (i := i') (e := e) (by simpa using hei)
          have hei'' : es'[i']? = some e' := by simpa using hei'
          obtain ⟨w', r1, r2, r3⟩ := put_run (P := P) hr h0 hg h1 (by simp) (o := .map (es.modify i' fun e => { e with key := k', val }) clock) (o' := .map (es'.modify i' fun e => { e with key := k', val := val' }) clock)
            ⟨rfl, rfl, by
              simp only [Array.toList_modify]
              exact he.modify i' fun a b ha hb hc => ⟨VRel.of_plain m k' hpk, hv, hc⟩⟩ hf'
          refine ⟨w', ?_, r2, r3, rfl⟩
          unfold Instr.mapUpdate
          rw [run_bind', ru hu]
          simp only
          rw [run_bind', rg h1 (by simp)]
          simp only
          rw [run_bind', prun_run hc]
          simp only
          rw [run_bind', hq1]
          simp only [hei'', Option.map_some, Option.getD_some]
          have hke : e'.key = e.key := by
            have : plain e.key = true := by
              have hkp : keysPlain es.toList = true := by
                unfold aFind at hfi
                cases hkp : keysPlain es.toList with
                | true => rfl
                | false => simp [hkp] at hfi
              have : ∀ (l : List MapEntry) (j : Nat) (x : MapEntry), keysPlain l = true → l[j]? = some x → plain x.key = true := by
                intro l
                induction l with
                | nil => intro j x _ hj; simp at hj
                | cons y l ih =>
                  intro j x hl hj
                  simp only [keysPlain] at hl
                  cases hpy : plain y.key with
                  | false => simp [hpy] at hl
                  | true =>
                    simp only [hpy] at hl
                    cases j with
                    | zero => simp at hj; subst hj; exact hpy
                    | succ j => exact ih j x hl (by simpa using hj)
              exact this _ i' e hkp (by simpa using hei)
            exact hkk.plain this
          rw [run_bind', hke, prun_run hks]
          exact r1
        | none =>
          simp only [hfi, Option.some.injEq] at hx
          subst hx
          cases q' with
          | some _ => exact hq2.elim
          | none =>
          obtain ⟨w', r1, r2, r3⟩ := put_run (P := P) hr h0 hg h1 (by simp) (o := .map (es.push { key := key', val, born := clock }) (clock + 1)) (o' := .map (es'.push { key := key', val := val', born := clock }) (clock + 1))
            ⟨rfl, rfl, by
              simp only [Array.toList_push]
              exact he.append ⟨VRel.of_plain m key' hp, hv, rfl, trivial⟩⟩ hf'
          refine ⟨w', ?_, r2, r3, rfl⟩
          unfold Instr.mapUpdate
          rw [run_bind', ru hu]
          simp only
          rw [run_bind', rg h1 (by simp)]
          simp only
          rw [run_bind', prun_run hc]
          simp only
          rw [run_bind', hq1]
          exact r1
      | _ => simp [hg] at hx
    | _ => simp at hx
  | _ => simp [hu] at hx

def aDelete (P : Program) (t : TypeId) (mv key : Value) (h : AH) : Option AH := match P.underlying t with
  | some (.map kt _) => match plain key with
    | false => none
    | true => match mv with
    | .map (some r) => match Nat.ble h.floor r with
      | false => none
      | true => match h.get r with
        | some (.map es clock) => match prun P (Instr.checkKey es.isEmpty 10000 kt key) with
          | none => none
          | some _ => match aFind P kt key es.toList with
            | some (some (i, _)) => some (h.put r (.map (es.eraseIdxIfInBounds i) clock))
            | some none => some (h.put r (.map es clock))
            | none => none
        | _ => none
    | _ => none
  | _ => none

theorem aDelete_run {t : TypeId} {ts : Array TypeId} {rt : TypeId} {mv mv' key key' : Value} {h' : AH} (hr : HRel U m h w) (hm : VRel m mv mv') (hk : VRel m key key') (ht : ts[0]? = some t)
    (hx : aDelete P t mv key h = some h') :
    ∃ w', (Builtin.delete_ ts rt #[mv', key']).run P w = .ok (.tuple #[]) w' ∧ Ext m w h.floor m w' ∧ HRel U m h' w' ∧ h'.floor = h.floor := by
  unfold aDelete at hx
  cases hu : P.underlying t with
  | none => simp [hu] at hx
  | some d =>
  cases d with
  | map kt et =>
    simp only [hu] at hx
    cases hp : plain key with
    | false => simp [hp] at hx
    | true =>
    obtain rfl := hk.plain hp
    simp only [hp] at hx
    cases hm with
    | map ha =>
      rename_i r r'
      simp only at hx
      cases hf : Nat.ble h.floor r with
      | false => simp [hf] at hx
      | true =>
      simp only [hf] at hx
      have hf' := Nat.le_of_ble_eq_true hf
      cases hg : h.get r with
      | none => simp [hg] at hx
      | some o =>
      cases o with
      | map es clock =>
        simp only [hg] at hx
        obtain ⟨es', h0, h1, he⟩ := hr.map ha hg
        have hemp : es'.isEmpty = es.isEmpty := by
          have := he.isEmpty; simpa using this
        cases hc : prun P (Instr.checkKey es.isEmpty 10000 kt key') with
        | none => simp [hc] at hx
        | some _ =>
        simp only [hc] at hx
        cases hfi : aFind P kt key' es.toList with
        | none => simp [hfi] at hx
        | some q =>
        obtain ⟨q', hq1, hq2⟩ := aFind_run (w := w) he hfi
        have body : ∀ (o o' : Obj), (match q' with | some (i, _) => o' = .map (es'.eraseIdxIfInBounds i) clock | none => o' = .map es' clock) → ORel m ⟨0, 0⟩ o o' →
            ∃ w', (Builtin.delete_ ts rt #[.map (some r'), key']).run P w = .ok (.tuple #[]) w' ∧ Ext m w h.floor m w' ∧ HRel U m (h.put r o) w' ∧ (h.put r o).floor = h.floor := by
          intro o o' ho' ho
          obtain ⟨w', r1, r2, r3⟩ := put_run (P := P) hr h0 hg h1 (by simp) (o := o) (o' := o') ho hf'
          refine ⟨w', ?_, r2, r3, rfl⟩
          unfold Builtin.delete_
          have e0 : (#[.map (some r'), key'] : Array Value)[0]? = some (.map (some r')) := rfl
          have e1 : (#[.map (some r'), key'] : Array Value)[1]? = some key' := rfl
          simp only [ht, e0, e1]
          rw [run_bind', ru hu]
          simp only
          rw [run_bind', rg h1 (by simp)]
          simp only
          rw [run_bind', hemp, prun_run hc]
          simp only
          rw [run_bind', hq1]
          simp only
          cases q' with
          | none => simp only at ho' ⊢; subst ho'; rw [run_bind', r1]; rfl
          | some q' => obtain ⟨i, v⟩ := q'; simp only at ho' ⊢; subst ho'; rw [run_bind', r1]; rfl
        cases q with
        | none =>
          simp only [hfi, Option.some.injEq] at hx
          subst hx
          cases q' with
          | some _ => exact hq2.elim
          | none => exact body _ _ rfl ⟨rfl, rfl, he⟩
        | some q =>
          obtain ⟨i, v⟩ := q
          simp only [hfi, Option.some.injEq] at hx
          subst hx
          cases q' with
          | none => exact hq2.elim
          | some q' =>
            obtain ⟨i', v'⟩ := q'
            obtain ⟨rfl, _⟩ := hq2
            refine body _ _ rfl ⟨rfl, rfl, ?_⟩
            simp only [Array.toList_eraseIdxIfInBounds]
            exact he.erase i'
      | _ => simp [hg] at hx
    | _ => simp at hx
  | _ => simp [hu] at hx
end
end
end Go.AE
