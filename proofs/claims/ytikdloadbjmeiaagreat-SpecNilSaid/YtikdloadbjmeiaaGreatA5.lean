import Derived.Test.YtikdloadbjmeiaaGreatA4
/- An evaluator over an abstract heap, part 5: zero values, variables of several cells, parts. -/
namespace Go.AE
open Go
noncomputable section
variable {U : Un}

/-- A type's zero value is known, and has no address. -/
def zok (P : Program) (t : TypeId) : Bool := match P.info? t with
  | some i => match i.zero with
    | some z => plain z
    | none => false
  | none => false

section
variable {P : Program} {α β : Type} {m : Mp} {h : AH} {w : World} {R : Mp → α → β → Prop}

theorem Sim.sizeOf {t : TypeId} {f : Nat → Sem α} {f' : Nat → Sem β} (hf : ∀ n, Sim U P m h w (f n) (f' n) R) : Sim U P m h w (Go.sizeOf t >>= f) (Go.sizeOf t >>= f') R := by
  have : ∀ {γ : Type} (g : Nat → Sem γ), (Go.sizeOf t >>= g) = (Go.typeInfo t >>= fun i => g i.size) := by
    intro γ g
    show Sem.bind (Sem.bind (Go.typeInfo t) _) g = _
    show _ = Sem.bind (Go.typeInfo t) _
    simp only [Go.typeInfo, Go.program, Bind.bind, Sem.bind]
    congr 1; funext p
    cases p.info? t <;> rfl
  rw [this, this]
  exact Sim.typeInfo fun d _ => hf d.size

theorem Sim.zeroValue {t : TypeId} (hz : zok P t = true) {f : Value → Sem α} {f' : Value → Sem β} (hf : ∀ z, plain z = true → VRel m z z → Sim U P m h w (f z) (f' z) R) :
    Sim U P m h w (Go.zeroValue t >>= f) (Go.zeroValue t >>= f') R := by
  have : ∀ {γ : Type} (g : Value → Sem γ), (Go.zeroValue t >>= g) = (Go.typeInfo t >>= fun i => match i.zero with | some v => g v | none => Go.unsupported (.resourceLimit "a value of more than 2^22 cells")) := by
    intro γ g
    show Sem.bind (Sem.bind (Go.typeInfo t) _) g = Sem.bind (Go.typeInfo t) _
    simp only [Go.typeInfo, Go.program, Bind.bind, Sem.bind]
    congr 1; funext p
    cases p.info? t with
    | none => rfl
    | some i => cases hz : i.zero <;> simp [Sem.bind, Pure.pure, hz, Go.unsupported]
  rw [this, this]
  refine Sim.typeInfo fun d hd => ?_
  unfold zok at hz
  rw [hd] at hz
  simp only at hz
  cases hzz : d.zero with
  | none => simp [hzz] at hz
  | some z => simp only [hzz] at hz ⊢; exact hf z hz (VRel.of_plain m z hz)

theorem Sim.isAgg {t : TypeId} {f : Bool → Sem α} {f' : Bool → Sem β} (hf : ∀ b, Sim U P m h w (f b) (f' b) R) : Sim U P m h w (Go.isAgg t >>= f) (Go.isAgg t >>= f') R := by
  have : ∀ {γ : Type} (g : Bool → Sem γ), (Go.isAgg t >>= g) = (Go.underlying t >>= fun d => match d with | .struct _ | .array _ _ => g true | _ => g false) := by
    intro γ g
    show Sem.bind (Sem.bind (Go.underlying t) _) g = Sem.bind (Go.underlying t) _
    simp only [Go.underlying, Go.program, Bind.bind, Sem.bind]
    congr 1; funext p
    cases p.underlying t with
    | none => rfl
    | some d => cases d <;> rfl
  rw [this, this]
  refine Sim.underlying fun d _ => ?_
  cases d <;> exact hf _

theorem AddrRel.add {a a' : Addr} (ha : AddrRel m a a') (n : Nat) : AddrRel m (a.add n) (a'.add n) := by
  unfold Addr.add
  by_cases hn : n = 0
  · rw [if_pos hn, if_pos hn]; exact ha
  · rw [if_neg hn, if_neg hn]
    cases ha with
    | live hm => simp only [Nat.add_assoc]; exact .live hm
    | dead hm => exact .dead hm

/-- What a relation of results over a bind's end is. -/
theorem bind_pure' {α : Type} (s : Sem α) : s = (s >>= Pure.pure) := by
  show s = Sem.bind s Sem.pure
  induction s with
  | pure a => rfl
  | load m a k ih => simp only [Sem.bind]; congr 1; funext v; exact ih v
  | store m a v k ih => simp only [Sem.bind]; congr 1
  | new o k ih => simp only [Sem.bind]; congr 1; funext v; exact ih v
  | shape r k ih => simp only [Sem.bind]; congr 1; funext v; exact ih v
  | freeze a n k ih => simp only [Sem.bind]; congr 1
  | frozen a k ih => simp only [Sem.bind]; congr 1; funext v; exact ih v
  | getObj r k ih => simp only [Sem.bind]; congr 1; funext v; exact ih v
  | setObj r o k ih => simp only [Sem.bind]; congr 1
  | choose q k ih => simp only [Sem.bind]; congr 1; funext v; exact ih v
  | sys c k ih => simp only [Sem.bind]; congr 1; funext v; exact ih v
  | program k ih => simp only [Sem.bind]; congr 1; funext v; exact ih v
  | mark _ k ih => simp only [Sem.bind]; congr 1
  | halt x => rfl

theorem Sim.last {s : Sem α} {s' : Sem β} (hs : Sim U P m h w (s >>= Pure.pure) (s' >>= Pure.pure) R) : Sim U P m h w s s' R := by
  rw [← bind_pure' s, ← bind_pure' s'] at hs; exact hs

def ArrRel (m : Mp) (xs xs' : Array Value) : Prop := VsRel m xs.toList xs'.toList

theorem ArrRel.push {xs xs' : Array Value} (hx : ArrRel m xs xs') {v v' : Value} (hv : VRel m v v') : ArrRel m (xs.push v) (xs'.push v') := by
  unfold ArrRel at *
  simp only [Array.toList_push]
  exact hx.append (.one hv)

theorem ArrRel.mono {m' : Mp} {xs xs' : Array Value} (hx : ArrRel m xs xs') (hm : Mle m m') : ArrRel m' xs xs' := VsRel.mono hx hm

theorem sim_loadCellsFrom (hr : HRel U m h w) (n : Nat) : ∀ (a a' : Addr) (i : Nat) (acc acc' : Array Value), AddrRel m a a' → ArrRel m acc acc' →
    Sim U P m h w (loadCellsFrom a i n acc) (loadCellsFrom a' i n acc') ArrRel := by
  induction n with
  | zero => intro a a' i acc acc' _ hx; exact Sim.pure hr hx
  | succ n ih =>
    intro a a' i acc acc' ha hx
    unfold loadCellsFrom
    exact Sim.load hr (ha.add i) fun v v' hv _ => ih a a' (i + 1) _ _ ha (hx.push hv)

theorem sim_loadCells (hr : HRel U m h w) {a a' : Addr} (ha : AddrRel m a a') (n : Nat) : Sim U P m h w (loadCells a n) (loadCells a' n) ArrRel :=
  sim_loadCellsFrom hr n a a' 0 #[] #[] ha .nil

theorem arun_loadCellsFrom (n : Nat) : ∀ (h : AH) (a : Addr) (i : Nat) (acc : Array Value) (x : Array Value) (h' : AH), arun P (loadCellsFrom a i n acc) h = some (x, h') → h' = h := by
  induction n with
  | zero => intro h a i acc x h' e; simp [loadCellsFrom, Pure.pure, arun] at e; exact e.2.symm
  | succ n ih =>
    intro h a i acc x h' e
    unfold loadCellsFrom at e
    rw [arun_bind] at e
    simp only [Go.load, arun] at e
    cases hc : h.cell (a.add i) with
    | none => simp [hc] at e
    | some v => simp only [hc] at e; exact ih _ _ _ _ _ _ e

theorem sim_storeCells (vs : List Value) : ∀ (m : Mp) (h : AH) (w : World) (a a' : Addr) (i : Nat) (vs' : List Value), HRel U m h w → AddrRel m a a' → VsRel m vs vs' →
    Sim U P m h w (storeCells a vs i) (storeCells a' vs' i) (fun _ _ _ => True) := by
  induction vs with
  | nil => intro m h w a a' i vs' hr _ hv; cases hv; exact Sim.pure hr trivial
  | cons v vs ih =>
    intro m h w a a' i vs' hr ha hv
    cases hv with
    | cons hv hvs =>
      unfold storeCells
      exact Sim.store hr (ha.add i) hv fun h1 w1 _ hr1 _ => ih m h1 w1 a a' (i + 1) _ hr1 ha hvs

theorem sim_loadVar (hr : HRel U m h w) {a a' : Addr} (ha : AddrRel m a a') (t : TypeId) : Sim U P m h w (loadVar t a) (loadVar t a') VRel := by
  unfold loadVar
  refine Sim.isAgg fun b => ?_
  cases b with
  | true =>
    simp only [if_true]
    refine Sim.sizeOf fun n => ?_
    refine Sim.bind (sim_loadCells hr ha n) fun m1 x y h1 w1 _ hr1 hxy => ?_
    exact Sim.pure hr1 (.agg' hxy)
  | false =>
    simp only [if_false, Bool.false_eq_true]
    exact Sim.last (Sim.load hr ha fun v v' hv _ => Sim.pure hr hv)

theorem sim_storeVar (hr : HRel U m h w) {a a' : Addr} (ha : AddrRel m a a') (t : TypeId) {v v' : Value} (hv : VRel m v v') : Sim U P m h w (storeVar t a v) (storeVar t a' v') (fun _ _ _ => True) := by
  unfold storeVar
  refine Sim.sizeOf fun n => ?_
  have hs : v'.cells.size = v.cells.size := hv.cells.size
  by_cases hn : v.cells.size ≠ n
  · rw [if_pos hn]; exact Sim.halt
  · rw [if_neg hn, if_neg (by rw [hs]; exact hn)]
    exact sim_storeCells _ m h w a a' 0 _ hr ha hv.cells

def AddrAt (m : Mp) (a a' : Addr) : Prop := AddrRel m a a'

theorem sim_newRow (hr : HRel U m h w) (e : TypeId) {xs xs' : Array Value} (hx : ArrRel m xs xs') : Sim U P m h w (newRow e xs) (newRow e xs') AddrRel := by
  unfold newRow
  refine Sim.newObj (o := .cells xs e) (o' := .cells xs' e) (q := xs'.size) hr (fun m' hm => ⟨rfl, Nat.le_of_eq (VsRel.size hx).symm, by simp, ?_, ?_⟩) fun m1 h1 w1 b c _ hr1 _ hb => Sim.pure hr1 ?_
  · intro i v hv
    have hv' : xs.toList[i]? = some v := by simpa using hv
    obtain ⟨v', e1, e2⟩ := VsRel.getElem? hx hv'
    exact ⟨v', by simpa using e1, e2.mono hm⟩
  · intro i _ hh; simp at hh
  · have := AddrRel.live (o := 0) hb
    simpa using this

theorem sim_newVar (hr : HRel U m h w) (t : TypeId) {v v' : Value} (hv : VRel m v v') : Sim U P m h w (newVar t v) (newVar t v') AddrRel := sim_newRow hr t hv.cells

theorem sim_part (hr : HRel U m h w) (t : TypeId) {xs xs' : Array Value} (hx : ArrRel m xs xs') (off : Nat) : Sim U P m h w (part t xs off) (part t xs' off) VRel := by
  unfold part
  refine Sim.isAgg fun b => ?_
  cases b with
  | true =>
    simp only [if_true]
    refine Sim.sizeOf fun n => Sim.pure hr (.agg' ?_)
    simp only [Array.toList_extract]
    simp only [List.extract_eq_take_drop]
    exact VsRel.take (VsRel.drop hx _) _
  | false =>
    simp only [if_false, Bool.false_eq_true]
    cases hc : xs[off]? with
    | none => exact Sim.halt
    | some v =>
      obtain ⟨v', e1, e2⟩ := VsRel.getElem? hx (i := off) (v := v) (by simpa using hc)
      have : xs'[off]? = some v' := by simpa using e1
      rw [this]
      exact Sim.pure hr e2
end
end
end Go.AE
