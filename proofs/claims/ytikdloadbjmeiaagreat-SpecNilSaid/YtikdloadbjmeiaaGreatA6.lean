import Derived.Test.YtikdloadbjmeiaaGreatA5
import GoSem.Dispatch
/- An evaluator over an abstract heap, part 6: the operations on variables, fields, elements. -/
namespace Go.AE
open Go
noncomputable section
variable {U : Un}

section
variable {P : Program} {α β : Type} {m : Mp} {h : AH} {w : World} {R : Mp → α → β → Prop}

/-! ### What the small steps come to in a world -/
theorem ru {t : TypeId} {d : TypeDesc} (hd : P.underlying t = some d) (w : World) : (Go.underlying t).run P w = .ok d w := by
  simp [Go.underlying, Go.program, Sem.run, Bind.bind, Sem.bind, hd, Pure.pure]
theorem ri {t : TypeId} {d : TypeInfo} (hd : P.info? t = some d) (w : World) : (Go.typeInfo t).run P w = .ok d w := by
  simp [Go.typeInfo, Go.program, Sem.run, Bind.bind, Sem.bind, hd, Pure.pure]
theorem rs {t : TypeId} {d : TypeInfo} (hd : P.info? t = some d) (w : World) : (Go.sizeOf t).run P w = .ok d.size w := by
  unfold Go.sizeOf
  rw [run_bind', ri hd]; rfl
theorem rp {α : Type} (a : α) (w : World) : (Pure.pure a : Sem α).run P w = .ok a w := rfl
theorem rp' {α : Type} (a : α) (w : World) : (Sem.pure a : Sem α).run P w = .ok a w := rfl

theorem Sim.asIntOf {v v' : Value} (hv : VRel m v v') {f : IntKind × Int → Sem α} {f' : IntKind × Int → Sem β} (hf : ∀ k n, v = .int k n → Sim U P m h w (f (k, n)) (f' (k, n)) R) :
    Sim U P m h w (Go.asIntOf v >>= f) (Go.asIntOf v' >>= f') R := by
  cases hv with
  | int k n => exact hf k n rfl
  | _ => intro a h' e; simp [Go.asIntOf, arun_bind, stuck, unsupported, arun] at e

theorem Sim.sureAddr {v v' : Value} (hv : VRel m v v') {f : Addr → Sem α} {f' : Addr → Sem β} (hf : ∀ a a', AddrRel m a a' → Sim U P m h w (f a) (f' a') R) :
    Sim U P m h w (Instr.sureAddr v >>= f) (Instr.sureAddr v' >>= f') R := by
  cases hv with
  | ptr ha => exact hf _ _ ha
  | _ => intro a h' e; simp [Instr.sureAddr, arun_bind, stuck, arun] at e

theorem Sim.asAgg {v v' : Value} (hv : VRel m v v') {f : Array Value → Sem α} {f' : Array Value → Sem β} (hf : ∀ a a', ArrRel m a a' → Sim U P m h w (f a) (f' a') R) :
    Sim U P m h w (Go.asAgg v >>= f) (Go.asAgg v' >>= f') R := by
  cases hv with
  | agg ha => exact hf _ _ ha
  | _ => intro a h' e; simp [Go.asAgg, arun_bind, stuck, arun] at e

theorem sim_alloc (hr : HRel U m h w) {t : TypeId} (hz : zok P t = true) : Sim U P m h w (Instr.alloc t true (.tuple #[])) (Instr.alloc t true (.tuple #[])) VRel := by
  unfold Instr.alloc
  refine Sim.zeroValue hz fun z _ hzz => ?_
  simp only
  exact Sim.bind (sim_newVar hr t hzz) fun m1 x y h1 w1 _ hr1 hxy => Sim.pure hr1 (.ptr hxy)

theorem sim_box (hr : HRel U m h w) (t : TypeId) {v v' : Value} (hv : VRel m v v') : Sim U P m h w (Instr.box t v) (Instr.box t v') VRel := by
  unfold Instr.box
  exact Sim.bind (sim_newVar hr t hv) fun m1 x y h1 w1 _ hr1 hxy => Sim.pure hr1 (.ptr hxy)

theorem sim_loadAt (hr : HRel U m h w) (t : TypeId) {v v' : Value} (hv : VRel m v v') : Sim U P m h w (Instr.loadAt t v) (Instr.loadAt t v') VRel := by
  unfold Instr.loadAt
  exact Sim.sureAddr hv fun a a' ha => sim_loadVar hr ha t

theorem sim_storeAt (hr : HRel U m h w) (t : TypeId) {v v' x x' : Value} (hv : VRel m v v') (hx : VRel m x x') : Sim U P m h w (Instr.storeAt t v x) (Instr.storeAt t v' x') (fun _ _ _ => True) := by
  unfold Instr.storeAt
  exact Sim.sureAddr hv fun a a' ha => sim_storeVar hr ha t hx

theorem sim_field (hr : HRel U m h w) (t : TypeId) {v v' : Value} (hv : VRel m v v') (i : Nat) : Sim U P m h w (Instr.field t v i) (Instr.field t v' i) VRel := by
  unfold Instr.field
  refine Sim.underlying fun d _ => ?_
  cases d with
  | struct fields =>
    simp only
    cases hf : fields[i]? with
    | none => exact Sim.halt
    | some f => exact Sim.asAgg hv fun a a' ha => sim_part hr _ ha _
  | _ => exact Sim.halt

/-! ### Addresses of fields and elements -/
def szof (P : Program) (t : TypeId) : Option Nat := match P.info? t with
  | some i => some i.size
  | none => none

theorem szof_some {t : TypeId} {n : Nat} (hs : szof P t = some n) : ∃ i, P.info? t = some i ∧ i.size = n := by
  unfold szof at hs
  cases hi : P.info? t with
  | none => simp [hi] at hs
  | some i => simp [hi] at hs; exact ⟨i, rfl, hs⟩

def aFieldAt (P : Program) (s : TypeId) (v : Value) (i : Nat) : Option Value := match v with
  | .pointer (some a) => match P.underlying s with
    | some (.struct fs) => match fs[i]? with
      | some f => match szof P f.type with
        | some (_ + 1) => some (.pointer (some (a.add f.offset)))
        | _ => none
      | none => none
    | _ => none
  | _ => none

theorem aFieldAt_run {s : TypeId} {v v' x : Value} {i : Nat} (hv : VRel m v v') (hx : aFieldAt P s v i = some x) (w : World) :
    ∃ x', (Instr.fieldAt s v' i).run P w = .ok x' w ∧ VRel m x x' := by
  unfold aFieldAt at hx
  cases hv with
  | ptr ha =>
    rename_i a a'
    simp only at hx
    cases hu : P.underlying s with
    | none => simp [hu] at hx
    | some d =>
      cases d with
      | struct fs =>
        simp only [hu] at hx
        cases hf : fs[i]? with
        | none => simp [hf] at hx
        | some f =>
          simp only [hf] at hx
          cases hs : szof P f.type with
          | none => simp [hs] at hx
          | some n =>
            cases n with
            | zero => simp [hs] at hx
            | succ n =>
              simp only [hs, Option.some.injEq] at hx
              subst hx
              obtain ⟨inf, hi, hsz⟩ := szof_some hs
              refine ⟨.pointer (some (a'.add f.offset)), ?_, .ptr (ha.add _)⟩
              unfold Instr.fieldAt fieldPlace
              simp [run_bind', ru hu, hf, Instr.sureAddr, rp, rs hi, hsz]
      | _ => simp [hu] at hx
  | _ => simp at hx

def inb (n : Int) (len : Nat) : Bool := match n with
  | .ofNat k => Nat.ble (k + 1) len
  | .negSucc _ => false

theorem inb_spec {n : Int} {len : Nat} (hi : inb n len = true) : 0 ≤ n ∧ n < len := by
  cases n with
  | ofNat k =>
    have := Nat.le_of_ble_eq_true hi
    simp; omega
  | negSucc k => simp [inb] at hi

def aIndexAt (P : Program) (t : TypeId) (v i : Value) : Option Value := match i with
  | .int _ n => match P.underlying t, v with
    | some (.array len e), .pointer (some a) => match inb n len with
      | false => none
      | true => match szof P e with
        | some s => some (.pointer (some (a.add (n.toNat * s))))
        | none => none
    | some (.slice e), .slice (some a) len _ => match inb n len with
      | false => none
      | true => match szof P e with
        | some s => some (.pointer (some (a.add (n.toNat * s))))
        | none => none
    | _, _ => none
  | _ => none

theorem aIndexAt_run {t : TypeId} {v v' i i' x : Value} (hv : VRel m v v') (hi : VRel m i i') (hx : aIndexAt P t v i = some x) (w : World) :
    ∃ x', (Instr.indexAt t v' i').run P w = .ok x' w ∧ VRel m x x' := by
  unfold aIndexAt at hx
  cases hi with
  | int k n =>
    simp only at hx
    cases hu : P.underlying t with
    | none => simp [hu] at hx
    | some d =>
      cases d with
      | array len e =>
        cases hv with
        | ptr ha =>
          rename_i a a'
          simp only [hu] at hx
          cases hb : inb n len with
          | false => simp [hb] at hx
          | true =>
          cases hs : szof P e with
          | none => simp [hb, hs] at hx
          | some s =>
          simp only [hb, hs, Option.some.injEq] at hx
          subst hx
          obtain ⟨h1, h2⟩ := inb_spec hb
          obtain ⟨inf, hi, hsz⟩ := szof_some hs
          refine ⟨.pointer (some (a'.add (n.toNat * s))), ?_, .ptr (ha.add _)⟩
          unfold Instr.indexAt
          simp [run_bind', asIntOf, ru hu, Instr.sureAddr, rp, rs hi, hsz, h1, h2]
        | _ => simp [hu] at hx
      | slice e =>
        cases hv with
        | sliceEmpty hbd hc =>
          simp only [hu] at hx
          cases hb : inb n 0 with
          | false => simp [hb] at hx
          | true => have := inb_spec hb; omega
        | slice ha hc =>
          rename_i a a' l c c'
          simp only [hu] at hx
          cases hb : inb n l with
          | false => simp [hb] at hx
          | true =>
          cases hs : szof P e with
          | none => simp [hb, hs] at hx
          | some s =>
          simp only [hb, hs, Option.some.injEq] at hx
          subst hx
          obtain ⟨h1, h2⟩ := inb_spec hb
          obtain ⟨inf, hi, hsz⟩ := szof_some hs
          refine ⟨.pointer (some (a'.add (n.toNat * s))), ?_, .ptr (ha.add _)⟩
          unfold Instr.indexAt
          simp [run_bind', asIntOf, ru hu, rp, rs hi, hsz, h1, h2]
        | _ => simp [hu] at hx
      | _ => simp [hu] at hx
  | _ => simp at hx
end
end
end Go.AE
