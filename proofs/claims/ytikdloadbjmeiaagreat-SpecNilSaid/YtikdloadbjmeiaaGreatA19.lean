import Derived.Test.YtikdloadbjmeiaaGreatB2
import Derived.Maps.RangeRun
/- An evaluator over an abstract heap, part 19: a range over a map. -/
namespace Go.AE
open Go
noncomputable section
variable {U : Un}

def aRange (P : Program) (t : TypeId) (x : Value) (h : AH) : Option (Value × AH) := match P.underlying t with
  | some (.map _ _) => match x with
    | .map none => match aNew h (.mapIter none 0 #[] 0) with
      | some (b, h') => some (.pointer (some ⟨b, 0, none⟩), h')
      | none => none
    | .map (some r) => match h.get r with
      | some (.map _ clock) => match aNew h (.mapIter (some r) clock #[] clock) with
        | some (b, h') => some (.pointer (some ⟨b, 0, none⟩), h')
        | none => none
      | _ => none
    | _ => none
  | _ => none

def inL (n : Nat) : List Nat → Bool
  | [] => false
  | x :: xs => match Nat.beq n x with
    | true => true
    | false => inL n xs

/-- The entries that are left; none: one of them is younger than the loop. -/
def aLeft (since : Nat) (seen : List Nat) : List MapEntry → Option (List MapEntry)
  | [] => some []
  | e :: es => match Nat.ble since e.born with
    | true => none
    | false => match aLeft since seen es with
      | none => none
      | some l => match inL e.born seen with
        | true => some l
        | false => some (e :: l)

/-- Each way in which the step may go. -/
def aNexts (it : Value) (h : AH) : Option (List (Value × AH)) := match it with
  | .pointer (some a) => match a.spot with
    | some _ => none
    | none => match Nat.beq a.off 0 with
      | false => none
      | true => match Nat.ble h.floor a.block with
        | false => none
        | true => match h.get a.block with
          | some (.mapIter none _ _ _) => some [(.tuple #[.bool false], h)]
          | some (.mapIter (some q) since seen c) => match h.get q with
            | some (.map es clock) => match Nat.ble since c with
              | false => none
              | true => match aLeft since seen.toList es.toList with
                | none => none
                | some [] => some [(.tuple #[.bool false], h)]
                | some l => some (l.map fun e => (.tuple #[.bool true, e.key, e.val], h.put a.block (.mapIter (some q) since (seen.push e.born) clock)))
            | _ => none
          | _ => none
  | _ => none

def aFirstBorn (n : Nat) : List MapEntry → Option MapEntry
  | [] => none
  | e :: es => match Nat.beq e.born n with
    | true => some e
    | false => aFirstBorn n es

def lastOf : List Nat → Option Nat
  | [] => none
  | [x] => some x
  | _ :: y :: xs => lastOf (y :: xs)

def aEntry (it : Value) (h : AH) : Option Value := match it with
  | .pointer (some a) => match a.spot with
    | some _ => none
    | none => match Nat.beq a.off 0 with
      | false => none
      | true => match h.get a.block with
        | some (.mapIter (some q) _ seen stepped) => match lastOf seen.toList with
          | none => none
          | some n => match h.get q with
            | some (.map es clock) => match Nat.beq clock stepped with
              | false => none
              | true => match aFirstBorn n es.toList with
                | some e => some (.tuple #[e.key, e.val])
                | none => none
            | _ => none
        | _ => none
  | _ => none

section
variable {P : Program} {m : Mp} {h : AH} {w : World}

theorem aRange_run {t : TypeId} {x x' v : Value} {h' : AH} (hr : HRel U m h w) (hv : VRel m x x') (hx : aRange P t x h = some (v, h')) :
    ∃ m' v' w', (Instr.range t x').run P w = .ok v' w' ∧ Ext m w h.floor m' w' ∧ HRel U m' h' w' ∧ VRel m' v v' ∧ h'.floor = h.floor := by
  unfold aRange at hx
  cases hu : P.underlying t with
  | none => simp [hu] at hx
  | some d =>
  cases d <;> simp only [hu] at hx <;> try (cases hx; done)
  have fin : ∀ (o o' : Obj) (b : Nat) (h2 : AH), aNew h o = some (b, h2) → (∀ m', Mle m m' → ORel m' ⟨0, 0⟩ o o') → v = .pointer (some ⟨b, 0, none⟩) → h' = h2 →
      (∀ w' : World, w'.heap = w.heap.push o' → (Instr.range t x').run P w = .ok (.pointer (some ⟨w.heap.size, 0, none⟩)) { w with heap := w.heap.push o' }) →
      ∃ m' v' w', (Instr.range t x').run P w = .ok v' w' ∧ Ext m w h.floor m' w' ∧ HRel U m' h' w' ∧ VRel m' v v' ∧ h'.floor = h.floor := by
    intro o o' b h2 hn ho hv' hh' hrun
    subst hv' hh'
    obtain ⟨m', r1, r2, r3, r4, r5⟩ := aNew_run (P := P) (o' := o') (q := 0) hr hn ho
    refine ⟨m', _, _, hrun { w with heap := w.heap.push o' } rfl, r2, r3, .ptr ?_, r5⟩
    have := AddrRel.live (o := 0) r4
    simpa using this
  cases hv with
  | mapNil =>
    simp only at hx
    cases hn : aNew h (.mapIter none 0 #[] 0) with
    | none => simp [hn] at hx
    | some q =>
      obtain ⟨b, h2⟩ := q
      simp only [hn, Option.some.injEq, Prod.mk.injEq] at hx
      obtain ⟨rfl, rfl⟩ := hx
      refine fin _ (.mapIter none 0 #[] 0) b _ hn (fun m' _ => ⟨rfl, rfl, rfl, rfl, trivial⟩) rfl rfl fun w' _ => ?_
      unfold Instr.range
      rw [run_bind', ru hu]
      rfl
  | map ha =>
    rename_i r r'
    simp only at hx
    cases hg : h.get r with
    | none => simp [hg] at hx
    | some o =>
      cases o with
      | map es clock =>
        simp only [hg] at hx
        cases hn : aNew h (.mapIter (some r) clock #[] clock) with
        | none => simp [hn] at hx
        | some q =>
          obtain ⟨b, h2⟩ := q
          simp only [hn, Option.some.injEq, Prod.mk.injEq] at hx
          obtain ⟨rfl, rfl⟩ := hx
          obtain ⟨es', q1, q2, q3⟩ := hr.map ha hg
          refine fin _ (.mapIter (some r') clock #[] clock) b _ hn (fun m' hm => ⟨rfl, rfl, rfl, rfl, ha.mono hm⟩) rfl rfl fun w' _ => ?_
          unfold Instr.range
          rw [run_bind', ru hu]
          simp only
          rw [run_bind', rg q2 (by simp)]
          rfl
      | _ => simp [hg] at hx
  | _ => simp at hx

theorem inL_spec {n : Nat} : ∀ {l : List Nat}, inL n l = decide (n ∈ l)
  | [] => by simp [inL]
  | x :: xs => by
    simp only [inL]
    by_cases e : n = x
    · subst e; simp
    · rw [beq_f e]; simp only; rw [inL_spec]; simp [e]

/-- What is left here is what is left there. -/
theorem aLeft_run {since : Nat} {seen : Array Nat} : ∀ {es es' l : List MapEntry}, ERel m es es' → aLeft since seen.toList es = some l →
    (∀ x ∈ es', x.born < since) ∧ ERel m l (es'.filter fun e => !seen.contains e.born)
  | [], [], l, _, h => by simp [aLeft] at h; subst h; simp [ERel]
  | [], _ :: _, _, h, _ => h.elim
  | _ :: _, [], _, h, _ => h.elim
  | e :: es, e' :: es', l, ⟨h1, h2, h3, h4⟩, h => by
    simp only [aLeft] at h
    cases hb : Nat.ble since e.born with
    | true => simp [hb] at h
    | false =>
      simp only [hb] at h
      cases hl : aLeft since seen.toList es with
      | none => simp [hl] at h
      | some l0 =>
        simp only [hl] at h
        obtain ⟨g1, g2⟩ := aLeft_run h4 hl
        have hlt : e'.born < since := by rw [h3]; exact not_ble hb
        refine ⟨fun x hx => by
          rcases List.mem_cons.1 hx with rfl | hx
          · exact hlt
          · exact g1 x hx, ?_⟩
        have hc : seen.contains e'.born = inL e.born seen.toList := by
          rw [inL_spec, h3]; simp
        cases hi : inL e.born seen.toList with
        | true =>
          simp only [hi, Option.some.injEq] at h
          subst h
          rw [List.filter_cons, hc, hi]
          simpa using g2
        | false =>
          simp only [hi, Option.some.injEq] at h
          subst h
          rw [List.filter_cons, hc, hi]
          simp only [Bool.not_false, if_true]
          exact ⟨h1, h2, h3, g2⟩

theorem ERel.mem {es es' : List MapEntry} : ERel m es es' → ∀ {e' : MapEntry}, e' ∈ es' → ∃ e ∈ es, VRel m e.key e'.key ∧ VRel m e.val e'.val ∧ e'.born = e.born := by
  induction es generalizing es' with
  | nil => intro h e' he; cases es' with
    | nil => cases he
    | cons _ _ => exact h.elim
  | cons e es ih =>
    intro h e' he
    cases es' with
    | nil => exact h.elim
    | cons f es' =>
      obtain ⟨h1, h2, h3, h4⟩ := h
      rcases List.mem_cons.1 he with rfl | he
      · exact ⟨e, by simp, h1, h2, h3⟩
      · obtain ⟨x, hx, r⟩ := ih h4 he
        exact ⟨x, by simp [hx], r⟩

def IterRel (m : Mp) : Option Nat → Option Nat → Prop
  | none, none => True
  | some x, some y => RefRel m x y
  | _, _ => False

theorem iter_at (hr : HRel U m h w) {a a' : Addr} (ha : AddrRel m a a') (h0 : a.off = 0) {q : Option Nat} {since c : Nat} {seen : Array Nat} (hg : h.get a.block = some (.mapIter q since seen c)) :
    ∃ r q', a' = ⟨r, 0, none⟩ ∧ m a.block = some (some (r, ⟨0, 0⟩)) ∧ w.heap[r]? = some (.mapIter q' since seen c) ∧ IterRel m q q' := by
  rcases hr.obj a.block _ hg (hr.unA ha) with ⟨hd, _⟩ | ⟨r, s, o', g0, g1, g2⟩
  · cases hd
  · cases o' <;> try (exact g2.elim)
    rename_i q' _ _ _
    obtain ⟨rfl, rfl, rfl, rfl, g3⟩ := g2
    cases ha with
    | dead hm => rw [hm] at g0; cases g0
    | live hm =>
      rw [hm] at g0; cases g0
      simp only at h0
      subst h0
      refine ⟨r, q', by simp [o0], hm, g1, ?_⟩
      cases q <;> cases q' <;> first | exact g3 | trivial

theorem aNexts_run {it it' : Value} {l : List (Value × AH)} (ty : TypeId) (hr : HRel U m h w) (hv : VRel m it it') (hx : aNexts it h = some l) :
    ∃ p ∈ l, ∃ v' w', (Instr.next it' false ty).run P w = .ok v' w' ∧ Ext m w h.floor m w' ∧ HRel U m p.2 w' ∧ VRel m p.1 v' ∧ p.2.floor = h.floor := by
  unfold aNexts at hx
  cases hv <;> simp only at hx <;> try (cases hx; done)
  rename_i a a' ha
  cases hsp : a.spot with
  | some _ => simp [hsp] at hx
  | none =>
  simp only [hsp] at hx
  cases h0 : Nat.beq a.off 0 with
  | false => simp [h0] at hx
  | true =>
  have h0' := Nat.eq_of_beq_eq_true h0
  simp only [h0] at hx
  cases hf : Nat.ble h.floor a.block with
  | false => simp [hf] at hx
  | true =>
  simp only [hf] at hx
  have hf' := Nat.le_of_ble_eq_true hf
  have over : VRel m (.tuple #[.bool false]) (.tuple #[.bool false]) := VRel.of_plain m _ rfl
  cases hg : h.get a.block with
  | none => simp [hg] at hx
  | some o =>
  cases o <;> simp only [hg] at hx <;> try (cases hx; done)
  rename_i q since seen c
  obtain ⟨r, q', rfl, hm, hw, hq⟩ := iter_at hr ha h0' hg
  cases q with
  | none =>
    simp only [Option.some.injEq] at hx
    subst hx
    cases q' with
    | some _ => exact hq.elim
    | none =>
      refine ⟨_, List.mem_singleton.2 rfl, _, w, ?_, .refl .., hr, over, rfl⟩
      unfold Instr.next
      simp only
      rw [run_bind', rg hw (by simp)]
      rfl
  | some q =>
    cases q' with
    | none => exact hq.elim
    | some q' =>
    simp only at hq hx
    cases hgq : h.get q with
    | none => simp [hgq] at hx
    | some oq =>
    cases oq <;> simp only [hgq] at hx <;> try (cases hx; done)
    rename_i es clock
    obtain ⟨es', m1, w1, he⟩ := hr.map hq hgq
    cases hsc : Nat.ble since c with
    | false => simp [hsc] at hx
    | true =>
    simp only [hsc] at hx
    cases hl : aLeft since seen.toList es.toList with
    | none => simp [hl] at hx
    | some lf =>
    simp only [hl] at hx
    obtain ⟨old, left⟩ := aLeft_run he hl
    have hleft : ERel m lf (leftOf es' seen).toList := by simpa [leftOf] using left
    rcases run_next_at (P := P) w ty r q' since c seen es' clock hw w1 old (Nat.le_of_ble_eq_true hsc) with ⟨hz, hrun⟩ | ⟨e', he', w2, hw2, hrun⟩
    · have : lf = [] := by
        have := hleft.length
        have hz' : (leftOf es' seen).toList.length = 0 := by simpa using hz
        exact List.eq_nil_of_length_eq_zero (by omega)
      subst this
      simp only [Option.some.injEq] at hx
      subst hx
      exact ⟨_, List.mem_singleton.2 rfl, _, w, hrun, .refl .., hr, over, rfl⟩
    · obtain ⟨e, hel, hk, hvv, hb⟩ := hleft.mem he'
      have hne : lf ≠ [] := fun hn => by subst hn; cases hel
      have hx' : l = lf.map fun e => (.tuple #[.bool true, e.key, e.val], h.put a.block (.mapIter (some q) since (seen.push e.born) clock)) := by
        cases lf with
        | nil => exact absurd rfl hne
        | cons _ _ => simp only [Option.some.injEq] at hx; exact hx.symm
      subst hx'
      refine ⟨_, List.mem_map.2 ⟨e, hel, rfl⟩, _, _, hrun, ?_, ?_, .tuple (.cons (.bool _) (.cons hk (.cons hvv .nil))), rfl⟩
      · rcases hw2 with rfl | rfl
        · exact Ext.change hm hf' (by simp [Go.ChangeMaps.setBlock]) (fun c' hc => by simp [Go.ChangeMaps.setBlock, Array.getElem?_setIfInBounds, Ne.symm hc])
        · exact Ext.change hm hf' (by simp [Go.ChangeMaps.setBlock, show w.drew.heap = w.heap from rfl]) (fun c' hc => by simp [Go.ChangeMaps.setBlock, show w.drew.heap = w.heap from rfl, Array.getElem?_setIfInBounds, Ne.symm hc])
      · have hlt : r < w.heap.size := (Array.getElem?_eq_some_iff.1 hw).1
        have ho : ORel m ⟨0, 0⟩ (.mapIter (some q) since (seen.push e.born) clock) (.mapIter (some q') since (seen.push e'.born) clock) := by
          rw [hb]; exact ⟨rfl, rfl, rfl, rfl, hq⟩
        rcases hw2 with rfl | rfl
        · exact hr.change hm (fun x => AH.get_put h a.block x _) (by simp [Go.ChangeMaps.setBlock, Array.getElem?_setIfInBounds, hlt]) ho (fun c' hc => by simp [Go.ChangeMaps.setBlock, Array.getElem?_setIfInBounds, Ne.symm hc])
        · exact hr.change hm (fun x => AH.get_put h a.block x _) (by simp [Go.ChangeMaps.setBlock, show w.drew.heap = w.heap from rfl, Array.getElem?_setIfInBounds, hlt]) ho (fun c' hc => by simp [Go.ChangeMaps.setBlock, show w.drew.heap = w.heap from rfl, Array.getElem?_setIfInBounds, Ne.symm hc])

theorem lastOf_eq : ∀ (l : List Nat), lastOf l = l.getLast?
  | [] => rfl
  | [x] => rfl
  | x :: y :: xs => by rw [lastOf, lastOf_eq (y :: xs)]; simp

theorem aFirstBorn_run {n : Nat} : ∀ {es es' : List MapEntry} {e : MapEntry}, ERel m es es' → aFirstBorn n es = some e → ∃ e', es'.find? (·.born == n) = some e' ∧ VRel m e.key e'.key ∧ VRel m e.val e'.val
  | [], _, _, _, h => by simp [aFirstBorn] at h
  | _ :: _, [], _, h, _ => h.elim
  | e :: es, e' :: es', x, ⟨h1, h2, h3, h4⟩, h => by
    simp only [aFirstBorn] at h
    cases hb : Nat.beq e.born n with
    | true =>
      simp only [hb, Option.some.injEq] at h
      subst h
      have := Nat.eq_of_beq_eq_true hb
      exact ⟨e', by rw [List.find?_cons, h3, this]; simp, h1, h2⟩
    | false =>
      simp only [hb] at h
      obtain ⟨y, g1, g2⟩ := aFirstBorn_run h4 h
      have hne : ¬ e.born = n := fun hh => by subst hh; simp at hb
      have hne' : (e'.born == n) = false := by rw [h3]; simpa using hne
      exact ⟨y, by rw [List.find?_cons, hne']; exact g1, g2⟩

theorem aEntry_run {it it' v : Value} (hr : HRel U m h w) (hv : VRel m it it') (hx : aEntry it h = some v) : ∃ v', (Instr.entry it').run P w = .ok v' w ∧ VRel m v v' := by
  unfold aEntry at hx
  cases hv <;> simp only at hx <;> try (cases hx; done)
  rename_i a a' ha
  cases hsp : a.spot with
  | some _ => simp [hsp] at hx
  | none =>
  simp only [hsp] at hx
  cases h0 : Nat.beq a.off 0 with
  | false => simp [h0] at hx
  | true =>
  have h0' := Nat.eq_of_beq_eq_true h0
  simp only [h0] at hx
  cases hg : h.get a.block with
  | none => simp [hg] at hx
  | some o =>
  cases o <;> simp only [hg] at hx <;> try (cases hx; done)
  rename_i q since seen c
  obtain ⟨r, q', rfl, hm, hw, hq⟩ := iter_at hr ha h0' hg
  cases q with
  | none => simp at hx
  | some q =>
    cases q' with
    | none => exact hq.elim
    | some q' =>
    simp only at hx
    cases hl : lastOf seen.toList with
    | none => simp [hl] at hx
    | some n =>
    simp only [hl] at hx
    cases hgq : h.get q with
    | none => simp [hgq] at hx
    | some oq =>
    cases oq <;> simp only [hgq] at hx <;> try (cases hx; done)
    rename_i es clock
    obtain ⟨es', m1, w1, he⟩ := hr.map hq hgq
    cases hc : Nat.beq clock c with
    | false => simp [hc] at hx
    | true =>
    have hc' := Nat.eq_of_beq_eq_true hc
    subst hc'
    simp only [hc] at hx
    cases hf : aFirstBorn n es.toList with
    | none => simp [hf] at hx
    | some e =>
    simp only [hf, Option.some.injEq] at hx
    subst hx
    obtain ⟨e', f1, f2, f3⟩ := aFirstBorn_run he hf
    refine ⟨.tuple #[e'.key, e'.val], ?_, .tuple (.cons f2 (.cons f3 .nil))⟩
    have hback : seen.back? = some n := by
      rw [lastOf_eq] at hl
      rw [← hl, List.getLast?_eq_getElem?, Array.back?]
      simp
    have hfind : es'.find? (·.born == n) = some e' := by rw [← Array.find?_toList]; exact f1
    unfold Instr.entry
    simp only
    rw [run_bind', rg hw (by simp)]
    simp only [hback]
    rw [run_bind', rg w1 (by simp)]
    simp only [bne_self_eq_false, Bool.false_eq_true, if_false, hfind]
    rfl
end
end
end Go.AE
