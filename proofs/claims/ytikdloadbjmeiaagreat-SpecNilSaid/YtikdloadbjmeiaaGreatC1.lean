import Derived.Test.YtikdloadbjmeiaaGreatF3
import Derived.Laws.Externs
import Derived.Below
/- An evaluator over an abstract heap: closed runs. -/
namespace Go.AE
open Go
noncomputable section

theorem intEq_ok {a b : Int} (h : intEq a b = true) : a = b := by
  unfold intEq at h
  split at h
  · rw [Nat.eq_of_beq_eq_true h]
  · rw [Nat.eq_of_beq_eq_true h]
  · cases h

theorem kindEq_ok {a b : IntKind} (h : kindEq a b = true) : a = b := by
  have := Nat.eq_of_beq_eq_true h
  cases a <;> cases b <;> first | rfl | (exact absurd this (by decide))

theorem addrEq_ok {a b : Addr} (h : addrEq a b = true) : a = b := by
  obtain ⟨x, y, z⟩ := a
  obtain ⟨x', y', z'⟩ := b
  unfold addrEq at h
  cases z <;> cases z' <;> simp only at h <;> try (cases h; done)
  cases hb : Nat.beq x x' with
  | false => simp [hb] at h
  | true =>
    simp only [hb] at h
    rw [Nat.eq_of_beq_eq_true hb, Nat.eq_of_beq_eq_true h]

mutual
theorem veq_ok : ∀ (v v' : Value), veq v v' = true → v = v' := fun v v' h => by
  unfold veq at h
  split at h
  · rename_i a b; cases a <;> cases b <;> simp at h ⊢
  · rename_i k a l b
    cases hk : kindEq k l with
    | false => simp [hk] at h
    | true => simp only [hk] at h; rw [kindEq_ok hk, intEq_ok h]
  · rfl
  · rw [addrEq_ok h]
  · rename_i a b c d
    cases h1 : Nat.beq a c with
    | false => simp [h1] at h
    | true => simp only [h1] at h; rw [Nat.eq_of_beq_eq_true h1, Nat.eq_of_beq_eq_true h]
  · rename_i x a b y c d
    cases h0 : addrEq x y with
    | false => simp [h0] at h
    | true =>
      simp only [h0] at h
      cases h1 : Nat.beq a c with
      | false => simp [h1] at h
      | true => simp only [h1] at h; rw [addrEq_ok h0, Nat.eq_of_beq_eq_true h1, Nat.eq_of_beq_eq_true h]
  · rfl
  · rw [Nat.eq_of_beq_eq_true h]
  · rename_i f a b g c d
    cases h0 : Nat.beq f g with
    | false => simp [h0] at h
    | true =>
      simp only [h0] at h
      cases h1 : veqL a c with
      | false => simp [h1] at h
      | true => simp only [h1] at h; rw [Nat.eq_of_beq_eq_true h0, veqL_ok _ _ h1, veqL_ok _ _ h]
  · rfl
  · rfl
  · rename_i t v t' v'
    cases h0 : Nat.beq t t' with
    | false => simp [h0] at h
    | true => simp only [h0] at h; rw [Nat.eq_of_beq_eq_true h0, veq_ok _ _ h]
  · rw [veqL_ok _ _ h]
  · rw [veqL_ok _ _ h]
  · cases h
theorem veqL_ok : ∀ (v v' : List Value), veqL v v' = true → v = v'
  | [], [], _ => rfl
  | [], _ :: _, h => by simp [veqL] at h
  | _ :: _, [], h => by simp [veqL] at h
  | v :: vs, v' :: vs', h => by
    simp only [veqL] at h
    cases h0 : veq v v' with
    | false => simp [h0] at h
    | true => simp only [h0] at h; rw [veq_ok _ _ h0, veqL_ok _ _ h]
end

def allB : List Bool → Bool := fun l => List.rec true (fun x _ ih => Bool.rec false ih x) l
theorem allB_ok : ∀ {l : List Bool}, allB l = true → ∀ x ∈ l, x = true
  | [], _, x, hx => by cases hx
  | y :: l, h, x, hx => by
    have h' : Bool.rec false (allB l) y = true := h
    cases y with
    | false => cases h'
    | true =>
      rcases List.mem_cons.1 hx with rfl | hx
      · rfl
      · exact allB_ok h' x hx

abbrev Con := FuncId → Option (Array Value → AH → (Value → AH → Bool) → Bool)

def GB (con : Con) : Giv Bool := { bad := false, both := allB, same := fun v v' x => match veq v v' with | true => x | false => false, con := con }

def ConOK (P : Program) (con : Con) : Prop := ∀ f k args h K, con f = some k → k args h K = true → Ok P f args h fun v h' => K v h' = true

theorem GB_ok {P : Program} {con : Con} (hc : ConOK P con) : GivOK P (fun b => b = true) (GB con) where
  bad := by simp [GB]
  both l h := allB_ok h
  same v v' x h := by
    simp only [GB] at h
    cases hv : veq v v' with
    | false => simp [hv] at h
    | true => simp only [hv] at h; exact ⟨veq_ok _ _ hv, h⟩
  con f k args h K h1 h2 := hc f k args h K h1 h2

def noCon : Con := fun _ => none
theorem noCon_ok (P : Program) : ConOK P noCon := fun _ _ _ _ _ h => by cases h

/-- A heap without blocks. -/
def hE : AH := { base := fun _ => none, tr := .nil, fresh := 1, floor := 0 }
theorem hE_get (b : Nat) : hE.get b = none := by
  unfold hE AH.get
  simp only [Tr.get_nil]

theorem hE_rel (w : World) : HRel (fun _ => none) (fun _ => none) hE w where
  obj b o h := by rw [hE_get] at h; cases h
  res b o h := by cases h
  no b _ := rfl
  inj b b' c s s' h := by cases h

/-- A closed run. -/
def closed (E : Env) (con : Con) (n f : Nat) (args : List Value) (r : Value) : Bool := evFn E (GB con) (evQ E (GB con) n) f ⟨args⟩ hE fun v _ => veq v r

theorem closed_ok {E : Env} (hE' : EnvOK E) (hm : E.P.follows .mixedOrders = true) {con : Con} (hc : ConOK E.P con) {n f : Nat} {args : List Value} {r : Value} (h : closed E con n f args r = true) : Ok E.P f ⟨args⟩ hE fun v _ => v = r :=
  (evFn_ok (GB_ok hc) (evQ_ok hE' hm (GB_ok hc) n) h).mono fun _ _ hv => veq_ok _ _ hv

/-- What was found over no memory holds over any. -/
theorem Ok.frame {P : Program} {f : FuncId} {args : List Value} {r : Value} (ho : Ok P f ⟨args⟩ hE fun v _ => v = r) (ha : plainL args = true) (hp : plain r = true) (h : AH) : Ok P f ⟨args⟩ h fun v h' => v = r ∧ h' = h := by
  intro U m w args' hr hargs
  obtain ⟨args'⟩ := args'
  have e : args' = args := VsRel.plain hargs ha
  subst e
  refine (ho (fun _ => none) (fun _ => none) w ⟨args'⟩ (hE_rel w) (VsRel.of_plain _ _ ha)).mono ?_
  intro e w' hp'
  cases e <;> simp only [CallPost] at hp' ⊢
  rename_i v'
  obtain ⟨v, m', h', x, _, hv, _, rfl⟩ := hp'
  have hv' := hv.plain hp
  subst hv'
  have keep : ∀ c, c < w.heap.size → w'.heap[c]? = w.heap[c]? := fun c hc => x.keep c hc fun b s e => by cases e
  refine ⟨v', m, h, ⟨.refl m, x.size, fun c hc _ => keep c hc, fun b c s e _ => .inl e, x.os, x.out⟩, ⟨?_, hr.res, hr.no, hr.inj⟩, .of_plain m _ hp, rfl, rfl, rfl⟩
  intro b o hb hu
  rcases hr.obj b o hb hu with h0 | ⟨c, s, o', h1, h2, h3⟩
  · exact .inl h0
  · exact .inr ⟨c, s, o', h1, by rw [keep c (Array.getElem?_eq_some_iff.1 h2).1]; exact h2, h3⟩

/-- A function that is known at some arguments. -/
structure Row where
  f : Nat
  args : List Value
  r : Value

def rowsCon (rows : List Row) (f : FuncId) : Option (Array Value → AH → (Value → AH → Bool) → Bool) :=
  List.rec none (fun q _ ih => match Nat.beq q.f f with
    | true => some fun args h K => List.rec false (fun q _ ih => match Nat.beq q.f f with
        | true => match veqL args.toList q.args with
          | true => K q.r h
          | false => ih
        | false => ih) rows
    | false => ih) rows

theorem rowsCon_ok {P : Program} {rows : List Row} (h : ∀ q ∈ rows, plainL q.args = true ∧ plain q.r = true ∧ Ok P q.f ⟨q.args⟩ hE fun v _ => v = q.r) : ConOK P (rowsCon rows) := by
  intro f k args hp K hk hg
  have key : ∀ l : List Row, (∀ q ∈ l, q ∈ rows) → (List.rec false (fun q _ ih => match Nat.beq q.f f with
        | true => match veqL args.toList q.args with
          | true => K q.r hp
          | false => ih
        | false => ih) l : Bool) = true → Ok P f args hp fun v h' => K v h' = true := by
    intro l
    induction l with
    | nil => intro _ h; cases h
    | cons q l ih =>
      intro hl h0
      have h1 : (match Nat.beq q.f f with
        | true => match veqL args.toList q.args with
          | true => K q.r hp
          | false => (List.rec false (fun q _ ih => match Nat.beq q.f f with
        | true => match veqL args.toList q.args with
          | true => K q.r hp
          | false => ih
        | false => ih) l : Bool)
        | false => (List.rec false (fun q _ ih => match Nat.beq q.f f with
        | true => match veqL args.toList q.args with
          | true => K q.r hp
          | false => ih
        | false => ih) l : Bool)) = true := h0
      cases hf : Nat.beq q.f f with
      | false => simp only [hf] at h1; exact ih (fun x hx => hl x (by simp [hx])) h1
      | true =>
        simp only [hf] at h1
        cases hv : veqL args.toList q.args with
        | false => simp only [hv] at h1; exact ih (fun x hx => hl x (by simp [hx])) h1
        | true =>
          simp only [hv] at h1
          obtain ⟨p1, p2, p3⟩ := h q (hl q (by simp))
          have e1 := Nat.eq_of_beq_eq_true hf
          have e2 := veqL_ok _ _ hv
          obtain ⟨args⟩ := args
          simp only at e2
          subst e2
          rw [← e1]
          exact (p3.frame p1 p2 hp).mono fun v h' ⟨a, b⟩ => by rw [a, b]; exact h1
  have key2 : ∀ l : List Row, (List.rec none (fun q _ ih => match Nat.beq q.f f with
    | true => some fun args h K => List.rec false (fun q _ ih => match Nat.beq q.f f with
        | true => match veqL args.toList q.args with
          | true => K q.r h
          | false => ih
        | false => ih) rows
    | false => ih) l : Option (Array Value → AH → (Value → AH → Bool) → Bool)) = some k → k = fun args h K => List.rec false (fun q _ ih => match Nat.beq q.f f with
        | true => match veqL args.toList q.args with
          | true => K q.r h
          | false => ih
        | false => ih) rows := by
    intro l
    induction l with
    | nil => intro h; cases h
    | cons q l ih =>
      intro h0
      have h1 : (match Nat.beq q.f f with
        | true => some fun (args : Array Value) (h : AH) (K : Value → AH → Bool) => (List.rec false (fun q _ ih => match Nat.beq q.f f with
            | true => match veqL args.toList q.args with
              | true => K q.r h
              | false => ih
            | false => ih) rows : Bool)
        | false => _) = some k := h0
      cases hf : Nat.beq q.f f with
      | false => simp only [hf] at h1; exact ih h1
      | true => simp only [hf, Option.some.injEq] at h1; exact h1.symm
  rw [key2 rows hk] at hg
  exact key rows (fun _ h => h) hg

/-! ### Functions without a body -/
/-- Of plain arguments, without memory. -/
def extPlain (P : Program) (e : Array Value → Sem Value) (args : Array Value) (h : AH) : Option (Value × AH) := match plainL args.toList with
  | true => match pv P (e args) with
    | some v => some (v, h)
    | none => none
  | false => none

def ExtRun (P : Program) (e : Array Value → Sem Value) (x : Array Value → AH → Option (Value × AH)) : Prop := ∀ (args : Array Value) (h : AH) (v : Value) (h' : AH), x args h = some (v, h') → ∀ (U : Un) (m : Mp) (w : World) (args' : Array Value), HRel U m h w → ArrRel m args args' →
    ∃ m' v' w', (e args').run P w = .ok v' w' ∧ Ext m w h.floor m' w' ∧ HRel U m' h' w' ∧ VRel m' v v' ∧ h'.floor = h.floor

theorem extPlain_ok (P : Program) (e : Array Value → Sem Value) : ExtRun P e (extPlain P e) := by
  intro args h v h' hx U m w args' hr ha
  unfold extPlain at hx
  cases hp : plainL args.toList with
  | false => simp [hp] at hx
  | true =>
    simp only [hp] at hx
    cases hv : pv P (e args) with
    | none => simp [hv] at hx
    | some r =>
      simp only [hv, Option.some.injEq, Prod.mk.injEq] at hx
      obtain ⟨rfl, rfl⟩ := hx
      have : args' = args := by
        obtain ⟨a⟩ := args; obtain ⟨a'⟩ := args'
        have := VsRel.plain ha hp
        simp only at this; rw [this]
      subst this
      obtain ⟨e1, e2⟩ := pv_run hv m w
      exact ⟨m, r, w, e1, .refl .., hr, e2, rfl⟩

def extClone (args : Array Value) (h : AH) : Option (Value × AH) := match args.toList with
  | [.iface t (.map (some r))] => match h.get r with
    | some (.map es c) => match aNew h (.map es c) with
      | some (b, h') => some (.iface t (.map (some b)), h')
      | none => none
    | _ => none
  | _ => none

theorem extClone_ok (P : Program) : ExtRun P Extern.MapsClone.clone extClone := by
  intro args h v h' hx U m w args' hr ha
  obtain ⟨args⟩ := args
  obtain ⟨args'⟩ := args'
  unfold extClone at hx
  simp only at hx
  split at hx
  · rename_i t r
    have ha' : VsRel m [.iface t (.map (some r))] args' := ha
    cases ha' with
    | cons h1 h2 =>
      cases h2
      cases h1 with
      | iface _ hv =>
        cases hv with
        | map hrr =>
          rename_i r'
          cases hg : h.get r with
          | none => simp [hg] at hx
          | some o =>
            cases o <;> simp only [hg] at hx <;> try (cases hx; done)
            rename_i es c
            cases hn : aNew h (.map es c) with
            | none => simp [hn] at hx
            | some q =>
              obtain ⟨b, h2⟩ := q
              simp only [hn, Option.some.injEq, Prod.mk.injEq] at hx
              obtain ⟨rfl, rfl⟩ := hx
              rcases hr.obj r _ hg (hr.unR hrr) with ⟨hd, _⟩ | ⟨c2, s, o', h0, h1, h3⟩
              · cases hd
              · have hl0 : m r = some (some (r', ⟨0, 0⟩)) := by
                  rcases hrr with hl | hl
                  · exact hl
                  · rw [hl] at h0; cases h0
                rw [hl0] at h0; cases h0
                cases o' <;> try (exact h3.elim)
                rename_i es' c'
                obtain ⟨_, rfl, h5⟩ := h3
                obtain ⟨m', k1, k2, k3, k4, k5⟩ := aNew_run (P := P) (o' := .map es' c') (q := 0) hr hn (fun m' hm => ⟨rfl, rfl, h5.mono hm⟩)
                refine ⟨m', .iface t (.map (some w.heap.size)), _, ?_, k2, k3, .iface t (.map (.inl k4)), k5⟩
                show (Extern.MapsClone.clone #[.iface t (.map (some r'))]).run P w = _
                have e : Extern.MapsClone.clone #[.iface t (.map (some r'))] = (getObj r' >>= fun o => match o with
                  | .map entries clock => (newObj (.map entries clock) >>= fun b => pure (.iface t (.map (some b))))
                  | _ => stuck "maps.clone: a map expected") := rfl
                rw [e, run_bind', rg h1 (by simp)]
                simp only
                rw [run_bind', k1]
                rfl
  · cases hx

/-- The functions without a body that are known. -/
structure Xr where
  f : Nat
  x : Array Value → AH → Option (Value × AH)

def extOf (l : List Xr) (f : FuncId) (args : Array Value) (h : AH) : Option (Value × AH) := List.rec none (fun q _ ih => match Nat.beq q.f f with
  | true => q.x args h
  | false => ih) l

structure XrOK (P : Program) (q : Xr) : Prop where
  run : ∃ (g : Func) (e : Array Value → Sem Value), P.funcs[q.f]? = some g ∧ (g.name == "runtime.NumGoroutine") = false ∧ g.body.isNone = true ∧ Extern.findNext g = none ∧ Extern.find g = some e ∧ ExtRun P e q.x

theorem extOf_ok {P : Program} {l : List Xr} (hl : ∀ q ∈ l, XrOK P q) {f : FuncId} {args : Array Value} {h : AH} {v : Value} {h' : AH} (hx : extOf l f args h = some (v, h')) (U : Un) (m : Mp) (w : World) (args' : Array Value) (hr : HRel U m h w) (ha : ArrRel m args args') :
    ∃ m' v' w', (callFunc f args').run P w = .ok (.value v') w' ∧ Ext m w h.floor m' w' ∧ HRel U m' h' w' ∧ VRel m' v v' ∧ h'.floor = h.floor := by
  induction l with
  | nil => cases hx
  | cons q l ih =>
    have h1 : (match Nat.beq q.f f with
      | true => q.x args h
      | false => extOf l f args h) = some (v, h') := hx
    cases hf : Nat.beq q.f f with
    | false => simp only [hf] at h1; exact ih (fun x hx => hl x (by simp [hx])) h1
    | true =>
      simp only [hf] at h1
      have e1 := Nat.eq_of_beq_eq_true hf
      subst e1
      obtain ⟨g, e, g1, g2, g3, g4, g5, g6⟩ := (hl q (by simp)).run
      obtain ⟨m', v', w', r1, r2, r3, r4, r5⟩ := g6 args h v h' h1 U m w args' hr ha
      exact ⟨m', v', w', by rw [run_callFunc_extern g1 g2 g3 g4 g5, r1]; rfl, r2, r3, r4, r5⟩

def namesOk (l : List Func) : Bool := l.all fun g => !(g.name == "runtime.NumGoroutine")

theorem env_ok {P : Program} {l : List Xr} (hn : namesOk P.funcs.toList = true) (hl : ∀ q ∈ l, XrOK P q) : EnvOK { P := P, ext := extOf l } where
  names f g hf _ := by
    unfold namesOk at hn
    rw [List.all_eq_true] at hn
    have := hn g (by simpa using Array.mem_of_getElem? hf)
    simpa using this
  ext f g args h v h' _ _ hx U m w args' hr ha := extOf_ok hl hx U m w args' hr ha

/-- What is left of a closed call in the world. -/
theorem Ok.calls {P : Program} {f : FuncId} {r : Value} (ho : Ok P f #[] hE fun v _ => v = r) (hp : plain r = true) (w : World) : Calls P f #[] w fun e w' => e = .returned r ∧ w'.os = w.os ∧ w'.output = w.output ∧ w.heap.size ≤ w'.heap.size ∧ ∀ c, c < w.heap.size → w'.heap[c]? = w.heap[c]? := by
  refine (ho (fun _ => none) (fun _ => none) w #[] (hE_rel w) .nil).mono ?_
  intro e w' hp'
  cases e <;> simp only [CallPost] at hp'
  rename_i v'
  obtain ⟨v, m', h', x, _, hv, _, rfl⟩ := hp'
  have hv' := hv.plain hp
  subst hv'
  exact ⟨rfl, x.os, x.out, x.size, fun c hc => x.keep c hc fun b s e => by cases e⟩
end
end Go.AE
