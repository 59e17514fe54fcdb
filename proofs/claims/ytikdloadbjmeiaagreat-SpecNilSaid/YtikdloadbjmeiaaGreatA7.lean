import Derived.Test.YtikdloadbjmeiaaGreatA6
import Derived.Laws.Tables
/- An evaluator over an abstract heap, part 7: values put together and taken apart; slices; make. -/
namespace Go.AE
open Go
noncomputable section
variable {U : Un}

def PsRel (m : Mp) : List (Nat × Value) → List (Nat × Value) → Prop
  | [], [] => True
  | (i, v) :: ps, (i', v') :: ps' => i' = i ∧ VRel m v v' ∧ PsRel m ps ps'
  | _, _ => False

section
variable {P : Program} {m : Mp} {h : AH} {w : World}

theorem ArrRel.set {xs xs' : Array Value} (hx : ArrRel m xs xs') (i : Nat) {v v' : Value} (hv : VRel m v v') : ArrRel m (xs.setIfInBounds i v) (xs'.setIfInBounds i v') := by
  unfold ArrRel at *
  simp only [Array.toList_setIfInBounds]
  exact VsRel.set hx i hv

theorem ArrRel.get {xs xs' : Array Value} (hx : ArrRel m xs xs') {i : Nat} {v : Value} (hv : xs[i]? = some v) : ∃ v', xs'[i]? = some v' ∧ VRel m v v' := by
  obtain ⟨v', e1, e2⟩ := VsRel.getElem? hx (i := i) (v := v) (by simpa using hv)
  exact ⟨v', by simpa using e1, e2⟩

theorem ArrRel.getD {xs xs' : Array Value} (hx : ArrRel m xs xs') (i : Nat) {d : Value} (hd : VRel m d d) : VRel m (xs.getD i d) (xs'.getD i d) := by
  have hs : xs'.size = xs.size := VsRel.size hx
  simp only [Array.getD]
  by_cases hi : i < xs.size
  · rw [dif_pos hi, dif_pos (by omega)]
    obtain ⟨v', e1, e2⟩ := hx.get (i := i) (v := xs[i]) (by simp [hi])
    have : xs'[i]? = some xs'[i] := by simp [hs, hi]
    rw [this] at e1
    cases e1
    exact e2
  · rw [dif_neg hi, dif_neg (by omega)]; exact hd

theorem ArrRel.extract {xs xs' : Array Value} (hx : ArrRel m xs xs') (a b : Nat) : ArrRel m (xs.extract a b) (xs'.extract a b) := by
  unfold ArrRel at *
  simp only [Array.toList_extract, List.extract_eq_take_drop]
  exact VsRel.take (VsRel.drop hx _) _

theorem ArrRel.append {xs xs' ys ys' : Array Value} (hx : ArrRel m xs xs') (hy : ArrRel m ys ys') : ArrRel m (xs ++ ys) (xs' ++ ys') := by
  unfold ArrRel at *
  simp only [Array.toList_append]
  exact VsRel.append hx hy

theorem ArrRel.size {xs xs' : Array Value} (hx : ArrRel m xs xs') : xs'.size = xs.size := VsRel.size hx

theorem foldl_set_rel (off : Nat) : ∀ (vs vs' : List Value) (j : Nat) (cs cs' : Array Value), VsRel m vs vs' → ArrRel m cs cs' →
    ArrRel m ((vs.zipIdx j).foldl (fun cs (c, j) => cs.setIfInBounds (off + j) c) cs) ((vs'.zipIdx j).foldl (fun cs (c, j) => cs.setIfInBounds (off + j) c) cs')
  | [], _, _, _, _, hv, hc => by cases hv; exact hc
  | v :: vs, _, j, cs, cs', hv, hc => by
    cases hv with
    | cons a as =>
      simp only [List.zipIdx_cons, List.foldl_cons]
      exact foldl_set_rel off vs _ (j + 1) _ _ as (hc.set (off + j) a)

theorem fill_rel {place : Nat → Option (Nat × Nat)} : ∀ (ps ps' : List (Nat × Value)) (cs cs' r : Array Value), PsRel m ps ps' → ArrRel m cs cs' → Instr.fill place cs ps = some r →
    ∃ r', Instr.fill place cs' ps' = some r' ∧ ArrRel m r r'
  | [], [], cs, cs', r, _, hc, e => by simp [Instr.fill] at e; subst e; exact ⟨cs', rfl, hc⟩
  | [], _ :: _, _, _, _, h, _, _ => h.elim
  | _ :: _, [], _, _, _, h, _, _ => h.elim
  | (i, v) :: ps, (i', v') :: ps', cs, cs', r, ⟨hi, hv, hp⟩, hc, e => by
    subst hi
    have hs := hv.cells.size
    have hcs := hc.size
    unfold Instr.fill at e ⊢
    cases hpl : place i' with
    | none => simp [hpl] at e
    | some q =>
      obtain ⟨off, size⟩ := q
      simp only [hpl] at e ⊢
      by_cases hn : v.cells.size ≠ size ∨ off + v.cells.size > cs.size
      · rw [if_pos (by simpa using hn)] at e; simp at e
      · rw [if_neg (by simpa using hn)] at e
        rw [if_neg (by rw [hs, hcs]; simpa using hn)]
        refine fill_rel ps ps' _ _ r hp ?_ e
        have := foldl_set_rel (m := m) off v.cells.toList v'.cells.toList 0 cs cs' hv.cells hc
        have e1 : ∀ (a c : Array Value), a.zipIdx.foldl (fun cs (c, j) => cs.setIfInBounds (off + j) c) c = (a.toList.zipIdx).foldl (fun cs (c, j) => cs.setIfInBounds (off + j) c) c := by
          intro a c; rw [← Array.foldl_toList, Array.toList_zipIdx]
        rw [e1, e1]; exact this

def aBuild (P : Program) (t : TypeId) (parts : List (Nat × Value)) : Option Value := match zok P t with
  | true => match P.built t parts with
    | some cells => some (.agg cells)
    | none => none
  | false => none

theorem plain_cells {z : Value} (hz : plain z = true) : ArrRel m z.cells z.cells := (VRel.of_plain m z hz).cells

theorem aBuild_run {t : TypeId} {ps : List (Nat × Value)} {ps' : Array (Nat × Value)} {x : Value} (hp : PsRel m ps ps'.toList) (hx : aBuild P t ps = some x) (w : World) :
    ∃ x', (Instr.build t ps').run P w = .ok x' w ∧ VRel m x x' := by
  unfold aBuild at hx
  cases hz : zok P t with
  | false => simp [hz] at hx
  | true =>
    simp only [hz] at hx
    cases hb : P.built t ps with
    | none => simp [hb] at hx
    | some cells =>
      simp only [hb, Option.some.injEq] at hx
      subst hx
      have : ∃ cells', P.built t ps'.toList = some cells' ∧ ArrRel m cells cells' := by
        unfold zok at hz
        unfold Program.built at hb ⊢
        cases hi : P.info? t with
        | none => simp [hi] at hz
        | some it =>
          simp only [hi] at hz hb ⊢
          cases hzz : it.zero with
          | none => simp [hzz] at hz
          | some z =>
            simp only [hzz] at hz hb ⊢
            cases hu : P.underlying t with
            | none => simp [hu] at hb
            | some d =>
              cases d with
              | array n e =>
                simp only [hu] at hb ⊢
                cases hie : P.info? e with
                | none => simp [hie] at hb
                | some ie =>
                  simp only [hzz, hie] at hb ⊢
                  exact fill_rel ps _ _ _ _ hp (plain_cells hz) hb
              | struct fields =>
                simp only [hu] at hb ⊢
                cases hpl : fields.toList.mapM (fun f => (P.info? f.type).map fun i => (f.offset, i.size)) with
                | none => simp [hpl] at hb
                | some places =>
                  simp only [hzz, hpl] at hb ⊢
                  exact fill_rel ps _ _ _ _ hp (plain_cells hz) hb
              | _ => simp [hu] at hb
      obtain ⟨cells', h1, h2⟩ := this
      exact ⟨.agg cells', run_build w t ps' cells' h1, .agg' h2⟩

/-! ### Parts -/
def aggT (P : Program) (t : TypeId) : Option Bool := match P.underlying t with
  | some (.struct _) => some true
  | some (.array _ _) => some true
  | some _ => some false
  | none => none

theorem aggT_run {t : TypeId} {b : Bool} (hb : aggT P t = some b) (w : World) : (Go.isAgg t).run P w = .ok b w := by
  unfold aggT at hb
  unfold Go.isAgg
  cases hu : P.underlying t with
  | none => simp [hu] at hb
  | some d => rw [run_bind', ru hu]; cases d <;> simp [hu] at hb <;> subst hb <;> rfl

def aPart (P : Program) (t : TypeId) (cs : Array Value) (off : Nat) : Option Value := match aggT P t with
  | some true => match szof P t with
    | some n => some (.agg (cs.extract off (off + n)))
    | none => none
  | some false => cs[off]?
  | none => none

theorem aPart_run {t : TypeId} {cs cs' : Array Value} {off : Nat} {x : Value} (hc : ArrRel m cs cs') (hx : aPart P t cs off = some x) (w : World) :
    ∃ x', (part t cs' off).run P w = .ok x' w ∧ VRel m x x' := by
  unfold aPart at hx
  cases ha : aggT P t with
  | none => simp [ha] at hx
  | some b =>
    unfold part
    cases b with
    | true =>
      simp only [ha] at hx
      cases hs : szof P t with
      | none => simp [hs] at hx
      | some n =>
        simp only [hs, Option.some.injEq] at hx
        subst hx
        obtain ⟨inf, hi, hsz⟩ := szof_some hs
        refine ⟨.agg (cs'.extract off (off + n)), ?_, .agg' (hc.extract _ _)⟩
        rw [run_bind', aggT_run ha]
        simp only [if_true]
        rw [run_bind', rs hi]
        simp only [hsz]
        rfl
    | false =>
      simp only [ha] at hx
      obtain ⟨x', e1, e2⟩ := hc.get hx
      refine ⟨x', ?_, e2⟩
      rw [run_bind', aggT_run ha]
      simp only [if_false, Bool.false_eq_true, e1]
      rfl

def aField (P : Program) (t : TypeId) (v : Value) (i : Nat) : Option Value := match v with
  | .agg cs => match P.underlying t with
    | some (.struct fs) => match fs[i]? with
      | some f => aPart P f.type cs f.offset
      | none => none
    | _ => none
  | _ => none

theorem aField_run {t : TypeId} {v v' x : Value} {i : Nat} (hv : VRel m v v') (hx : aField P t v i = some x) (w : World) :
    ∃ x', (Instr.field t v' i).run P w = .ok x' w ∧ VRel m x x' := by
  unfold aField at hx
  cases hv with
  | agg hc =>
    simp only at hx
    cases hu : P.underlying t with
    | none => simp [hu] at hx
    | some d =>
      cases d with
      | struct fs =>
        simp only [hu] at hx
        cases hf : fs[i]? with
        | none => simp [hf] at hx
        | some f =>
          simp only [hf] at hx
          rename_i xs xs'
          obtain ⟨x', e1, e2⟩ := aPart_run (cs := ⟨xs⟩) (cs' := ⟨xs'⟩) hc hx w
          refine ⟨x', ?_, e2⟩
          unfold Instr.field
          rw [run_bind', ru hu]
          simp only [hf, asAgg]
          rw [run_bind', rp]
          exact e1
      | _ => simp [hu] at hx
  | _ => simp at hx

def aIndex (P : Program) (t : TypeId) (v i : Value) : Option Value := match i with
  | .int _ n => match P.underlying t, v with
    | some (.array len e), .agg cs => match inb n len with
      | false => none
      | true => match szof P e with
        | some s => aPart P e cs (n.toNat * s)
        | none => none
    | some .string, .string s => match inb n s.size with
      | false => none
      | true => match s[n.toNat]? with
        | some b => some (.int .u8 b.toNat)
        | none => none
    | _, _ => none
  | _ => none

theorem aIndex_run {t : TypeId} {v v' i i' x : Value} (hv : VRel m v v') (hi : VRel m i i') (hx : aIndex P t v i = some x) (w : World) :
    ∃ x', (Instr.index t v' i').run P w = .ok x' w ∧ VRel m x x' := by
  unfold aIndex at hx
  cases hi with
  | int k n =>
    simp only at hx
    cases hu : P.underlying t with
    | none => simp [hu] at hx
    | some d =>
      cases d with
      | array len e =>
        cases hv with
        | agg hc =>
          rename_i xs xs'
          simp only [hu] at hx
          cases hb : inb n len with
          | false => simp [hb] at hx
          | true =>
          cases hs : szof P e with
          | none => simp [hb, hs] at hx
          | some s =>
          simp only [hb, hs] at hx
          obtain ⟨h1, h2⟩ := inb_spec hb
          obtain ⟨inf, hi, hsz⟩ := szof_some hs
          obtain ⟨x', e1, e2⟩ := aPart_run (cs := ⟨xs⟩) (cs' := ⟨xs'⟩) hc hx w
          refine ⟨x', ?_, e2⟩
          unfold Instr.index
          simp only [asIntOf]
          rw [run_bind', rp]
          simp only
          rw [run_bind', ru hu]
          simp only
          rw [if_pos ⟨h1, h2⟩, run_bind', rs hi]
          simp only [hsz]
          exact e1
        | _ => simp [hu] at hx
      | string =>
        cases hv with
        | string s =>
          simp only [hu] at hx
          cases hb : inb n s.size with
          | false => simp [hb] at hx
          | true =>
          simp only [hb] at hx
          obtain ⟨h1, h2⟩ := inb_spec hb
          cases hg : s[n.toNat]? with
          | none => simp [hg] at hx
          | some b =>
            simp only [hg, Option.some.injEq] at hx
            subst hx
            refine ⟨_, ?_, .int _ _⟩
            unfold Instr.index
            simp only [asIntOf]
            rw [run_bind', rp]
            simp only
            rw [run_bind', ru hu]
            simp only
            rw [if_pos h1, hg]
            rfl
        | _ => simp [hu] at hx
      | _ => simp [hu] at hx
  | _ => simp at hx

def aExtract (v : Value) (i : Nat) : Option Value := match v with
  | .tuple vs => vs[i]?
  | _ => none

theorem aExtract_run {v v' x : Value} {i : Nat} (hv : VRel m v v') (hx : aExtract v i = some x) (w : World) : ∃ x', (Instr.extract v' i).run P w = .ok x' w ∧ VRel m x x' := by
  unfold aExtract at hx
  cases hv with
  | tuple hc =>
    rename_i xs xs'
    obtain ⟨x', e1, e2⟩ := ArrRel.get (xs := ⟨xs⟩) (xs' := ⟨xs'⟩) hc hx
    exact ⟨x', by simp only [Instr.extract, e1]; rfl, e2⟩
  | _ => simp at hx
end
end
end Go.AE
