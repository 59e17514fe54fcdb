import Derived.Test.YtikdloadbjmeiaaGreatS4
/- An evaluator over an abstract heap: a function's call out of its body. -/
namespace Go.AE
open Go
noncomputable section
variable {U : Un}

section
variable {P : Program} {m : Mp} {h : AH} {w : World}

theorem enter_get : ∀ (vs : List Value) (i : Nat) (t : Tr Value) (k : Nat), (enter vs i t).get (k + 1) = if i ≤ k ∧ k < i + vs.length then vs[k - i]? else t.get (k + 1)
  | [], i, t, k => by simp [enter]; omega
  | v :: vs, i, t, k => by
    simp only [enter]
    rw [enter_get vs (i + 1) _ k]
    by_cases h1 : i = k
    · subst h1
      rw [if_neg (by omega), if_pos (by simp), Tr.get_set _ _ _ _ (by omega) (by omega), if_pos rfl]
      simp
    · by_cases h2 : i + 1 ≤ k ∧ k < i + 1 + vs.length
      · rw [if_pos h2, if_pos (by simp; omega), show k - i = (k - (i + 1)) + 1 by omega]
        simp
      · rw [if_neg h2, if_neg (by simp; omega), Tr.get_set _ _ _ _ (by omega) (by omega), if_neg (by omega)]

theorem Tr.get_nil' {α : Type} (k : Nat) : (Tr.nil : Tr α).get k = none := Tr.get_nil k

theorem vrel_undef : VRel m undef undef := .tuple .nil

theorem enter_rel {args : List Value} {args' tmps' : List Value} (ha : VsRel m args args') (he : ∀ i, i < args'.length → tmps'[i]? = args'[i]?) (hu : ∀ i, args'.length ≤ i → tmps'[i]? = none ∨ tmps'[i]? = some undef) (n : Nat) (h : AH) (ds : List Deferred) (r : Option Nat) (i : Nat) :
    VRel m (St.get ⟨enter args 0 .nil, n, h, ds, r⟩ i) ((⟨tmps'⟩ : Array Value).getD i undef) := by
  unfold St.get
  simp only
  rw [enter_get]
  have hlen := ha.length
  have hgd : (⟨tmps'⟩ : Array Value).getD i undef = (tmps'[i]?).getD undef := by simp [Array.getD_eq_getD_getElem?]
  rw [hgd]
  by_cases hi : i < args.length
  · rw [if_pos (by omega)]
    have hx : args[i]? = some args[i] := by simp [hi]
    obtain ⟨v', e1, e2⟩ := VsRel.getElem? ha hx
    rw [he i (by omega), e1, Nat.sub_zero, hx]
    exact e2
  · rw [if_neg (by omega), Tr.get_nil']
    rcases hu i (by omega) with e | e <;> rw [e] <;> exact vrel_undef

/-- The state in which a function's body begins. -/
def st0 (fn : Func) (args : Array Value) (h : AH) : St := { tmps := enter args.toList 0 .nil, n := max args.size fn.ntmps, heap := h, defers := [], round := none }

theorem st0_rel (fn : Func) {args args' : Array Value} (hr : HRel U m h w) (ha : ArrRel m args args') : SRel U m (st0 fn args h) { tmps := args' ++ Array.replicate (fn.ntmps - args'.size) undef, defers := [] } w := by
  have hs : args'.size = args.size := VsRel.size ha
  refine ⟨?_, fun i => ?_, trivial, hr⟩
  · simp [st0]; omega
  · have := enter_rel (tmps' := args'.toList ++ List.replicate (fn.ntmps - args'.size) undef) ha ?_ ?_ (max args.size fn.ntmps) h [] none i
    · have e : (args' ++ Array.replicate (fn.ntmps - args'.size) undef) = (⟨args'.toList ++ List.replicate (fn.ntmps - args'.size) undef⟩ : Array Value) := by
        apply Array.ext'; simp
      simp only
      rw [e]
      exact this
    · intro i hi
      rw [List.getElem?_append_left (by simpa using hi)]
    · intro i hi
      rw [List.getElem?_append_right (by simpa using hi)]
      by_cases h2 : i - args'.toList.length < fn.ntmps - args'.size
      · right; simp at h2; simp [List.getElem?_replicate]; omega
      · left; simp at h2; simp [List.getElem?_replicate]; omega

theorem loadAt_ptr (t : TypeId) (a : Addr) : Instr.loadAt t (.pointer (some a)) = loadVar t a := rfl

def resF (tmps : Array Value) : ResultVar → Sem Value
  | .tmp t => pure (tmps.getD t undef)
  | .cell x t => do loadVar t (← asAddr (tmps.getD x undef))

theorem results_eq (fn : Func) (tmps : Array Value) : results fn tmps = (do let vs ← fn.results.mapM (resF tmps); pure (if h : vs.size = 1 then vs[0] else .tuple vs)) := rfl

theorem aRes_list {s : St} {a : Act} (hs : SRel U m s a w) : ∀ {rs : List ResultVar} {vs : List Value}, aRes P s rs = some vs →
    ∃ vs', (rs.mapM (resF a.tmps)).run P w = .ok vs' w ∧ VsRel m vs vs'
  | [], vs, e => by simp [aRes] at e; subst e; exact ⟨[], rfl, .nil⟩
  | .tmp t :: rs, vs, e => by
    simp only [aRes] at e
    cases h1 : aRes P s rs with
    | none => simp [h1] at e
    | some l =>
      simp only [h1, Option.some.injEq] at e
      subst e
      obtain ⟨l', r1, r2⟩ := aRes_list hs h1
      refine ⟨a.tmps.getD t undef :: l', ?_, .cons (hs.tmp t) r2⟩
      rw [List.mapM_cons, run_bind']
      simp only [resF]
      rw [rp]
      simp only
      rw [run_bind', r1]
      rfl
  | .cell x t :: rs, vs, e => by
    simp only [aRes] at e
    cases h0 : aLoadF P t (s.get x) s.heap with
    | none => simp [h0] at e
    | some v =>
      simp only [h0] at e
      cases h1 : aRes P s rs with
      | none => simp [h1] at e
      | some l =>
        simp only [h1, Option.some.injEq] at e
        subst e
        obtain ⟨l', r1, r2⟩ := aRes_list hs h1
        obtain ⟨v', q1, q2⟩ := aLoadF_run (P := P) hs.heap (hs.tmp x) h0
        have hp : ∃ ad, a.tmps.getD x undef = .pointer (some ad) := by
          unfold aLoadF at h0
          have := hs.tmp x
          cases hv : s.get x <;> simp only [hv] at h0 <;> try (cases h0; done)
          rename_i o
          cases o with
          | none => simp at h0
          | some ad =>
            rw [hv] at this
            generalize a.tmps.getD x undef = z at this
            cases this with
            | ptr ha => exact ⟨_, rfl⟩
        obtain ⟨ad, had⟩ := hp
        refine ⟨v' :: l', ?_, .cons q2 r2⟩
        rw [had, loadAt_ptr] at q1
        rw [List.mapM_cons, run_bind']
        simp only [resF]
        have : ((do loadVar t (← asAddr (a.tmps.getD x undef))) : Sem Value).run P w = .ok v' w := by
          rw [had]; exact q1
        simp only [this]
        rw [run_bind', r1]
        rfl

theorem aRes_run {fn : Func} {s : St} {a : Act} {vs : List Value} (hs : SRel U m s a w) (he : aRes P s fn.results.toList = some vs) :
    ∃ v', (results fn a.tmps).run P w = .ok v' w ∧ VRel m (oneOf vs) v' := by
  obtain ⟨vs', r1, r2⟩ := aRes_list hs he
  refine ⟨if h : vs'.toArray.size = 1 then vs'.toArray[0] else .tuple vs'.toArray, ?_, ?_⟩
  · rw [results_eq]
    rw [Array.mapM_eq_mapM_toList, run_bind', map_eq_pure_bind, run_bind', r1]
    rfl
  · have hl := r2.length
    unfold oneOf
    split
    · rename_i v
      cases r2 with
      | cons h1 h2 => cases h2; simpa using h1
    · rename_i h1
      have : ¬ vs'.toArray.size = 1 := by
        intro hx
        simp at hx
        rw [hl] at hx
        match vs, hx with
        | [v], _ => exact h1 v rfl
      rw [dif_neg this]
      exact .tuple r2
end

/-- A deferred call. -/
def OkD (P : Program) (f : FuncId) (args : Array Value) (h : AH) (R : AH → Prop) : Prop :=
  ∀ (U : Un) (m : Mp) (w : World) (args' : Array Value) (u : FrameMode), HRel U m h w → ArrRel m args args' →
    CallsDIn Fence.wide 0 P f args' u w fun e u' w' => u' = u ∧ ∃ v' m' h', e = .returned v' ∧ Ext m w h.floor m' w' ∧ HRel U m' h' w' ∧ h'.floor = h.floor ∧ R h'

theorem OkD.mono {P : Program} {f : FuncId} {args : Array Value} {h : AH} {R R' : AH → Prop} (ho : OkD P f args h R) (hR : ∀ h', R h' → R' h') : OkD P f args h R' :=
  fun U m w args' u hr ha => (ho U m w args' u hr ha).mono fun _ _ _ ⟨e, v', m', h', a, b, c, d, x⟩ => ⟨e, v', m', h', a, b, c, d, hR _ x⟩

/-- On the way out. -/
def LvA (P : Program) (fn : Func) (s : St) (R : Value → AH → Prop) : List Deferred → AH → Prop
  | [], h => ∃ vs, aRes P (s.on h) fn.results.toList = some vs ∧ R (oneOf vs) h
  | d :: ds, h => match d.target with
    | .collected r => h.floor ≤ r ∧ h.get r = some (.deferred (some [])) ∧ LvA P fn s R ds (h.put r (.deferred none))
    | .fn (.func g) cap => (∃ fg, P.funcs[g]? = some fg ∧ fg.body.isSome = true ∧ (fg.name == "runtime.NumGoroutine") = false) ∧ OkD P g (d.args ++ cap) h fun h' => LvA P fn s R ds h'
    | _ => False

def endsBody (P : Program) (fn : Func) (R : Value → AH → Prop) : Exit → St → Prop
  | .normal, s => LvA P fn s R s.defers s.heap
  | .ret, s => LvA P fn s R s.defers s.heap
  | _, _ => False

section
variable {P : Program}

theorem settle_ret : settle .returning = .returning := rfl

theorem collected_ok {m : Mp} {h : AH} {w : World} {r r' : Nat} (hr : HRel U m h w) (hf : h.floor ≤ r) (hg : h.get r = some (.deferred (some []))) (hrr : RefRel m r r') :
    ∃ w', (Instr.takeDeferred r').run P w = .ok [] w' ∧ Ext m w h.floor m w' ∧ HRel U m (h.put r (.deferred none)) w' := by
  rcases hr.obj r _ hg (hr.unR hrr) with ⟨hd, _⟩ | ⟨c, s, o', h0, h1, h2⟩
  · cases hd
  · have hl0 : m r = some (some (r', ⟨0, 0⟩)) := by
      rcases hrr with hl | hl
      · exact hl
      · rw [hl] at h0; cases h0
    rw [hl0] at h0; cases h0
    have ho' : o' = .deferred (some []) := by
      cases o' <;> try (exact h2.elim)
      rename_i c
      cases c with
      | none => exact h2.elim
      | some l => cases l with
        | nil => rfl
        | cons _ _ => exact h2.elim
    subst ho'
    have hsz : r' < w.heap.size := (Array.getElem?_eq_some_iff.1 h1).1
    refine ⟨{ w with heap := w.heap.setIfInBounds r' (.deferred none) }, ?_, ?_, ?_⟩
    · unfold Instr.takeDeferred
      rw [run_bind', rg h1 (by simp)]
      simp only
      rw [run_bind']
      have : (Go.setObj r' (.deferred none)).run P w = .ok () { w with heap := w.heap.setIfInBounds r' (.deferred none) } := by
        simp only [Go.setObj, Sem.run, h1]
      rw [this]
      rfl
    · exact Ext.change hl0 hf (by simp) fun c' hc => by simp [Ne.symm hc]
    · exact HRel.change (o' := .deferred none) hr hl0 (fun x => AH.get_put ..) (by simp [hsz]) rfl fun c' hc => by simp [Ne.symm hc]

theorem LvA.out {fn : Func} {s : St} {R : Value → AH → Prop} {m0 : Mp} {w0 : World} {h0 : AH} : ∀ (ds : List Deferred) (h : AH) (m : Mp) (a : Act) (w : World) (ds' : List Deferred), LvA P fn s R ds h → SRel U m (s.on h) a w → DsRel m ds ds' →
    Ext m0 w0 h0.floor m w → h.floor = h0.floor → LeavesInM Fence.wide 0 P fn a.tmps (CallPost U m0 w0 h0 R) ds' .returning w
  | [], h, m, a, w, ds', hl, hs, hd, hx, hf => by
    cases ds' with
    | cons _ _ => exact hd.elim
    | nil =>
      obtain ⟨vs, h1, h2⟩ := hl
      obtain ⟨v', r1, r2⟩ := aRes_run hs h1
      refine ⟨v', r1, _, m, h, hx, ?_, r2, hf, h2⟩
      have := hs.heap
      cases s; exact this
  | d :: ds, h, m, a, w, ds', hl, hs, hd, hx, hf => by
    cases ds' with
    | nil => exact hd.elim
    | cons d' ds' =>
      obtain ⟨⟨t1, t2⟩, hds⟩ := hd
      have hh : HRel U m h w := by have := hs.heap; cases s; exact this
      refine ⟨by simp, ?_⟩
      simp only [LvA] at hl
      cases ht : d.target <;> simp only [ht] at hl <;> try (exact hl.elim)
      case collected r =>
        left
        obtain ⟨l1, l2, l3⟩ := hl
        rw [ht] at t1
        cases ht' : d'.target <;> rw [ht'] at t1 <;> try (exact t1.elim)
        rename_i r'
        obtain ⟨w', k1, k2, k3⟩ := collected_ok (P := P) hh l1 l2 t1
        refine ⟨r', w', rfl, k1, ?_⟩
        refine LvA.out ds _ m a w' ds' l3 ?_ hds (hx.trans (by rw [← hf]; exact k2)) hf
        have := hs.on (h' := h.put r (.deferred none)) k2.le k3
        cases s; exact this
      case fn f cap =>
        right
        cases f <;> try (exact hl.elim)
        rename_i g
        obtain ⟨⟨fg, n1, n2, n3⟩, hl⟩ := hl
        rw [ht] at t1
        cases ht' : d'.target <;> rw [ht'] at t1 <;> try (exact t1.elim)
        rename_i f' cap'
        obtain ⟨t1, t3⟩ := t1
        have hff : f' = .func g := t1
        subst hff
        refine ⟨fun hd => by simp [Fence.wide] at hd, .func g, cap', g, d'.args ++ cap', rfl, ?_, fun _ _ => trivial, ?_⟩
        · show (callFunc g (d'.args ++ cap')).run P w = _
          obtain ⟨c, hc⟩ := Option.isSome_iff_exists.1 n2
          unfold callFunc
          rw [run_bind']
          rw [show Go.program.run P w = .ok P w from rfl]
          simp only [n1, n3, hc, Option.isNone_some, Bool.false_eq_true, if_false]
          rfl
        · refine (hl U m w (d'.args ++ cap') .returning hh (ArrRel.append t2 t3)).mono ?_
          rintro e u' w' ⟨rfl, v', m', h', rfl, k1, k2, k3, k4⟩
          simp only [settle_ret]
          have hx' : Ext m0 w0 h0.floor m' w' := hx.trans (by rw [← hf]; exact k1)
          refine LvA.out ds _ m' a w' ds' k4 ?_ (hds.mono k1.le) hx' (k3.trans hf)
          have := hs.on (h' := h') k1.le k2
          cases s; exact this

/-- A function's call out of its body. -/
theorem Ok.body {f : FuncId} {fn : Func} {c : Code} {args : Array Value} {h : AH} {R : Value → AH → Prop} (hf : P.funcs[f]? = some fn) (hb : fn.body = some c)
    (hw : Wc P c (st0 fn args h) (endsBody P fn R)) : Ok P f args h R := by
  intro U m w args' hr ha
  have h1 : CallsIn Fence.wide 0 P f args' w (CallPost U m w h R) := by
    refine callsIn_of_wp_marks hf hb trivial ?_
    have := (hw U m _ w none (st0_rel fn hr ha) trivial).wpIn
    refine wpIn_mono (F := Fr none) this ?_
    rintro e a' w' ⟨m', s', r, hk⟩
    have hs' : SRel U m' (s'.on s'.heap) a' w' := by have := r.rel; cases s'; exact this
    have go : LvA P fn s' R s'.defers s'.heap → LeavesInM (Fr none) 0 P fn a'.tmps (CallPost U m w h R) a'.defers .returning w' := fun hl => LvA.out _ _ _ _ _ _ hl hs' r.rel.defers r.ext r.floor
    cases e <;> first | exact go hk | exact hk.elim
  exact callsIn_wide.1 h1

/-- A deferred call out of its body: it defers nothing itself. -/
theorem OkD.body {f : FuncId} {fn : Func} {c : Code} {args : Array Value} {h : AH} {R : AH → Prop} (hf : P.funcs[f]? = some fn) (hb : fn.body = some c)
    (hw : Wc P c (st0 fn args h) (fun e s => (e = .normal ∨ e = .ret) ∧ s.defers = [] ∧ (∃ vs, aRes P s fn.results.toList = some vs) ∧ R s.heap)) : OkD P f args h R := by
  intro U m w args' u hr ha
  have h1 := callsDIn_of_wp (F := Fence.wide) (n := 0) (P := P) (f := f) (fn := fn) (c := c) (args := args') (u := u) (w := w) (R := fun e w' => ∃ v' m' h', e = .returned v' ∧ Ext m w h.floor m' w' ∧ HRel U m' h' w' ∧ h'.floor = h.floor ∧ R h') hf hb trivial ?_
  · exact h1
  · have := (hw U m _ w none (st0_rel fn hr ha) trivial).wpIn
    refine wpIn_mono (F := Fr none) this ?_
    rintro e a' w' ⟨m', s', r, he, hd, ⟨vs, hv⟩, hR⟩
    obtain ⟨v', r1, r2⟩ := aRes_run r.rel hv
    have hd' : a'.defers = [] := by
      have := r.rel.defers
      rw [hd] at this
      cases hx : a'.defers with
      | nil => rfl
      | cons _ _ => rw [hx] at this; exact this.elim
    have fin : a'.defers = [] ∧ ∃ v, (results fn a'.tmps).run P w' = .ok v w' ∧ ∃ v' m' h', Ending.returned v = .returned v' ∧ Ext m w h.floor m' w' ∧ HRel U m' h' w' ∧ h'.floor = h.floor ∧ R h' :=
      ⟨hd', v', r1, v', m', s'.heap, rfl, r.ext, r.rel.heap, r.floor, hR⟩
    rcases he with rfl | rfl <;> exact fin
end
end
end Go.AE
