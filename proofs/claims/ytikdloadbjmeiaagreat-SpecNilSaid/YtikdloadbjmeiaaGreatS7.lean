import Derived.Test.YtikdloadbjmeiaaGreatS6
/- An evaluator over an abstract heap: operations that may come at more times than one. -/
namespace Go.AE
open Go
noncomputable section
variable {U : Un}

section
variable (E : Env)

def convF (s d : TypeId) (v : Value) : Option Value := match aConvF E.P s d v with
  | some r => some r
  | none => match plain v with
    | true => pv E.P (convert s d v)
    | false => none

/-- An operation that makes no memory and changes none. -/
def aflt (o : Oper) (ρ : Operand → Value) (h : AH) : Option Value := match o.op with
  | .move x => some (ρ x)
  | .assign x => some (ρ x)
  | .pick c a b => match ρ c with
    | .bool t => some (match t with | true => ρ a | false => ρ b)
    | _ => none
  | .build t ps => aBuild E.P t (ps.toList.map fun p => (p.1, ρ p.2))
  | .load t a => aLoadF E.P t (ρ a) h
  | .nilCheck x => aNil (ρ x)
  | .binOp op t x y _ => match aBinF op (ρ x) (ρ y) with
    | some v => some v
    | none => aBin E.P op t x y (ρ x) (ρ y)
  | .unOp op _ x => match plain (ρ x) with
    | true => pv E.P (Op.unary op (ρ x))
    | false => none
  | .convert s d x => match ρ x with
    | .slice _ _ _ => aStr E.P s d (ρ x) h
    | .string _ => match E.P.underlying d with
      | some (.slice _) => none
      | _ => convF E s d (ρ x)
    | _ => convF E s d (ρ x)
  | .makeInterface t x => aIface E.P t (ρ x)
  | .makeFunc fn first cap => match fn with
    | .func f => some (.func (.func f) (first.map ρ) (cap.map ρ))
    | _ => none
  | .slice t x lo hi mx => aSlice E.P t (ρ x) (lo.map ρ) (hi.map ρ) (mx.map ρ)
  | .fieldAddr s x f => aFieldAt E.P s (ρ x) f
  | .field t x f => aField E.P t (ρ x) f
  | .indexAddr t x i => aIndexAt E.P t (ρ x) (ρ i)
  | .index t x i => aIndex E.P t (ρ x) (ρ i)
  | .lookup t x i ok => aLookup E.P t (ρ x) (ρ i) ok h
  | .typeAssert x _ t ok => aAssert E.P (ρ x) t ok
  | .extract x i => aExtract (ρ x) i
  | .call c => match c.callee with
    | .builtin .len => match c.argTypes.toList, (c.args.map ρ).toList with
      | [t], [x] => aLen E.P t x h
      | _, _ => none
    | _ => none
  | _ => none

/-- Does it read memory? -/
def reads (o : Oper) : Bool := match o.op with
  | .load _ _ => true
  | .lookup _ _ _ _ => true
  | .convert s _ _ => match E.P.underlying s with
    | some (.slice _) => true
    | _ => false
  | .call c => match c.argTypes.toList with
    | [t] => match E.P.underlying t with
      | some (.map _ _) => true
      | _ => false
    | _ => true
  | _ => false

/-- Does it make memory, and nothing else? -/
def makes (o : Oper) : Bool := match o.op with
  | .alloc _ => true
  | .box _ _ => true
  | .makeMap _ _ => true
  | .makeSlice _ _ _ => true
  | .buildSlice _ _ _ => true
  | _ => false

variable {E}

theorem aflt_op {o : Oper} {ρ : Operand → Value} {h : AH} {v : Value} (he : aflt E o ρ h = some v) : aopX E o ρ h = some (.value v, h) := by
  obtain ⟨dst, op, type, pos, after, guard⟩ := o
  have hval : ∀ {r : Option Value}, r = some v → AE.val r h = some (.value v, h) := by
    intro r hr; subst hr; rfl
  have hconv : ∀ {s d : TypeId} {x : Operand}, convF E s d (ρ x) = some v → aopF E ⟨dst, .convert s d x, type, pos, after, guard⟩ ρ h = some (.value v, h) := by
    intro s d x hc
    unfold convF at hc
    unfold aopF
    simp only
    cases h1 : aConvF E.P s d (ρ x) with
    | some r => simp only [h1, Option.some.injEq] at hc ⊢; subst hc; rfl
    | none =>
      simp only [h1] at hc ⊢
      unfold aop
      simp only
      cases hp : plain (ρ x) with
      | false => simp [hp] at hc
      | true => simp only [hp] at hc ⊢; exact hval hc
  unfold aflt at he
  unfold aopX
  cases op <;> simp only at he ⊢ <;> try (cases he; done)
  case convert s d x =>
    cases hv : ρ x <;> simp only [hv] at he ⊢ <;> try (exact hconv (by rw [hv]; exact he))
    · cases hu : E.P.underlying d with
      | none => simp only [hu] at he ⊢; exact hconv (by rw [hv]; exact he)
      | some dd => cases dd <;> simp only [hu] at he ⊢ <;> first | (exact hconv (by rw [hv]; exact he)) | cases he
    · exact hval he
  case load t a =>
    unfold aopF
    simp only [he]
  case binOp op t x y u =>
    unfold aopF
    simp only
    cases h1 : aBinF op (ρ x) (ρ y) with
    | some r => simp only [h1, Option.some.injEq] at he ⊢; subst he; rfl
    | none =>
      simp only [h1] at he ⊢
      unfold aop
      exact hval he
  case move x => cases he; rfl
  case assign x => cases he; rfl
  case pick c a b =>
    unfold aopF aop
    simp only
    cases hc : ρ c <;> simp only [hc] at he ⊢ <;> try (cases he; done)
    simp only [Option.some.injEq] at he; subst he; rfl
  case build t ps => exact hval he
  case nilCheck x => exact hval he
  case unOp op t x =>
    unfold aopF aop
    simp only
    cases hp : plain (ρ x) with
    | false => simp [hp] at he
    | true => simp only [hp] at he ⊢; exact hval he
  case makeInterface t x => exact hval he
  case makeFunc fn first cap =>
    cases fn <;> simp only at he <;> try (cases he; done)
    cases he; rfl
  case slice t x lo hi mx => exact hval he
  case fieldAddr s x f => exact hval he
  case field t x f => exact hval he
  case indexAddr t x i => exact hval he
  case index t x i => exact hval he
  case lookup t x i ok => exact hval he
  case typeAssert x xt t ok => exact hval he
  case extract x i => exact hval he
  case call c =>
    unfold aopF aop aCall
    simp only
    cases hc : c.callee <;> simp only [hc] at he ⊢ <;> try (cases he; done)
    rename_i b
    cases b <;> simp only at he ⊢ <;> try (cases he; done)
    unfold aBuiltin
    split at he
    · rename_i t x e1 e2
      rw [e1, e2]
      simp only [he]
    · cases he

/-- One heap has all that another one has. -/
def AHle (h h2 : AH) : Prop := ∀ b o, h.get b = some o → h2.get b = some o

theorem AHle.refl (h : AH) : AHle h h := fun _ _ e => e
theorem AHle.trans {h h1 h2 : AH} (a : AHle h h1) (b : AHle h1 h2) : AHle h h2 := fun x o e => b x o (a x o e)

theorem aCells_mono {h h2 : AH} (hl : AHle h h2) {a : Addr} {n : Nat} {xs : Array Value} (he : aCells h a n = some xs) : aCells h2 a n = some xs := by
  unfold aCells at he ⊢
  cases hs : a.spot with
  | some _ => simp [hs] at he
  | none =>
    simp only [hs] at he ⊢
    cases hg : h.get a.block with
    | none => simp [hg] at he
    | some o => rw [hl _ _ hg]; rw [hg] at he; exact he

theorem aCellsF_mono {h h2 : AH} (hl : AHle h h2) {a : Addr} {n : Nat} {xs : List Value} (he : aCellsF h a n = some xs) : aCellsF h2 a n = some xs := by
  unfold aCellsF at he ⊢
  cases hs : a.spot with
  | some _ => simp [hs] at he
  | none =>
    simp only [hs] at he ⊢
    cases hg : h.get a.block with
    | none => simp [hg] at he
    | some o => rw [hl _ _ hg]; rw [hg] at he; exact he

theorem cell_mono {h h2 : AH} (hl : AHle h h2) {a : Addr} {v : Value} (he : h.cell a = some v) : h2.cell a = some v := by
  unfold AH.cell at he ⊢
  cases hs : a.spot with
  | some _ => simp [hs] at he
  | none =>
    simp only [hs] at he ⊢
    cases hg : h.get a.block with
    | none => simp [hg] at he
    | some o => rw [hl _ _ hg]; rw [hg] at he; exact he

theorem aLoadF_mono {P : Program} {h h2 : AH} (hl : AHle h h2) {t : TypeId} {v x : Value} (he : aLoadF P t v h = some x) : aLoadF P t v h2 = some x := by
  unfold aLoadF at he ⊢
  cases v <;> (try simp only at he ⊢) <;> try (cases he; done)
  rename_i a
  cases a with
  | none => simp at he
  | some a =>
    simp only at he ⊢
    cases ha : aggT P t with
    | none => simp [ha] at he
    | some b =>
      cases b with
      | false => simp only [ha] at he ⊢; exact cell_mono hl he
      | true =>
        simp only [ha] at he ⊢
        cases hs : szof P t with
        | none => simp [hs] at he
        | some n =>
          cases n with
          | zero => simp [hs] at he
          | succ n =>
            simp only [hs] at he ⊢
            cases hc : aCellsF h a (n + 1) with
            | none => simp [hc] at he
            | some ys => rw [aCellsF_mono hl hc]; rw [hc] at he; exact he

theorem aStr_mono {P : Program} {h h2 : AH} (hl : AHle h h2) {s d : TypeId} {v x : Value} (he : aStr P s d v h = some x) : aStr P s d v h2 = some x := by
  unfold aStr at he ⊢
  repeat' split at he
  all_goals first
    | (cases he; done)
    | skip
  all_goals simp_all
  all_goals (rename_i hc _ _; rw [aCells_mono hl (by assumption)]; simp_all)

theorem aLookup_mono {P : Program} {h h2 : AH} (hl : AHle h h2) {t : TypeId} {mv key x : Value} {ok : Bool} (he : aLookup P t mv key ok h = some x) : aLookup P t mv key ok h2 = some x := by
  unfold aLookup at he ⊢
  split at he
  · cases mv <;> (try simp only at he ⊢) <;> try (cases he; done)
    rename_i r
    cases r with
    | none => exact he
    | some r =>
      simp only at he ⊢
      cases hg : h.get r with
      | none => simp [hg] at he
      | some o => rw [hl _ _ hg]; rw [hg] at he; exact he
  · cases he

theorem aLen_mono {P : Program} {h h2 : AH} (hl : AHle h h2) {t : TypeId} {v x : Value} (he : aLen P t v h = some x) : aLen P t v h2 = some x := by
  unfold aLen at he ⊢
  cases hu : P.underlying t with
  | none => simp [hu] at he
  | some d =>
    cases d <;> simp only [hu] at he ⊢ <;> try (first | exact he | (cases he; done))
    cases v <;> (try simp only at he ⊢) <;> try (cases he; done)
    rename_i r
    cases r with
    | none => exact he
    | some r =>
      simp only at he ⊢
      cases hg : h.get r with
      | none => simp [hg] at he
      | some o => rw [hl _ _ hg]; rw [hg] at he; exact he

theorem aflt_mono {o : Oper} {ρ : Operand → Value} {h h2 : AH} {v : Value} (hl : AHle h h2) (he : aflt E o ρ h = some v) : aflt E o ρ h2 = some v := by
  obtain ⟨dst, op, type, pos, after, guard⟩ := o
  unfold aflt at he ⊢
  cases op <;> simp only at he ⊢ <;> try exact he
  case load t a => exact aLoadF_mono hl he
  case lookup t x i ok => exact aLookup_mono hl he
  case convert s d x =>
    cases hv : ρ x <;> simp only [hv] at he ⊢ <;> try exact he
    exact aStr_mono hl he
  case call c =>
    cases hc : c.callee <;> simp only [hc] at he ⊢ <;> try (cases he; done)
    rename_i b
    cases b <;> simp only at he ⊢ <;> try (cases he; done)
    split at he
    · exact aLen_mono hl he
    · cases he

theorem aflt_pure {o : Oper} {ρ : Operand → Value} {h h2 : AH} {v : Value} (hp : reads E o = false) (he : aflt E o ρ h = some v) : aflt E o ρ h2 = some v := by
  obtain ⟨dst, op, type, pos, after, guard⟩ := o
  unfold aflt at he ⊢
  unfold reads at hp
  cases op <;> simp only at he hp ⊢ <;> try exact he
  case load t a => cases hp
  case lookup t x i ok => cases hp
  case convert s d x =>
    cases hv : ρ x <;> simp only [hv] at he ⊢ <;> try exact he
    unfold aStr at he
    cases hu : E.P.underlying s with
    | none => simp [hu] at he
    | some ds => cases ds <;> simp [hu] at he hp
  case call c =>
    cases hc : c.callee <;> simp only [hc] at he ⊢ <;> try (cases he; done)
    rename_i b
    cases b <;> simp only at he ⊢ <;> try (cases he; done)
    split at he
    · rename_i t x e1 e2
      rw [e1] at hp
      simp only at hp
      unfold aLen at he ⊢
      cases hu : E.P.underlying t with
      | none => simp [hu] at he
      | some d => cases d <;> simp only [hu] at he hp ⊢ <;> first | exact he | cases hp
    · cases he

theorem aflt_congr {o : Oper} {ρ ρ' : Operand → Value} {h : AH} (hx : ∀ x ∈ o.op.operands, ρ x = ρ' x) : aflt E o ρ h = aflt E o ρ' h := by
  obtain ⟨dst, op, type, pos, after, guard⟩ := o
  simp only at hx
  unfold aflt
  cases op <;> simp only [Op.operands] at hx ⊢
  case call c =>
    have ha : c.args.map ρ = c.args.map ρ' := arrMap_congr _ fun x hm => hx x (by simp [Call.operands, hm])
    rw [ha]
  case build t ps => rw [psMap_congr ps hx]
  case makeFunc fn first cap =>
    cases fn <;> simp only
    rw [arrMap_congr first fun x hm => hx x (by simp [hm]), arrMap_congr cap fun x hm => hx x (by simp [hm])]
  case slice t x lo hi mx =>
    rw [hx x (by simp), optMap_congr lo fun y hm => hx y (by simp at hm ⊢; simp [hm]), optMap_congr hi fun y hm => hx y (by simp at hm ⊢; simp [hm]), optMap_congr mx fun y hm => hx y (by simp at hm ⊢; simp [hm])]
  all_goals first
    | rfl
    | (simp only [Array.mem_def, List.mem_cons, List.not_mem_nil, or_false, forall_eq_or_imp, forall_eq] at hx
       first
         | (obtain ⟨h1, h2, h3⟩ := hx; simp only [h1, h2, h3])
         | (obtain ⟨h1, h2⟩ := hx; simp only [h1, h2])
         | simp only [hx])

/-! ### What makes memory -/
def aPush (h : AH) (o : Obj) : AH := h.push o

theorem aPush_get (h : AH) (o : Obj) (b : Nat) : (aPush h o).get b = if b = h.fresh then some o else h.get b := AH.get_put ..
theorem aPush_le {h : AH} (o : Obj) (hn : h.get h.fresh = none) : AHle h (aPush h o) := by
  intro b x e
  rw [aPush_get]
  by_cases hb : b = h.fresh
  · subst hb; rw [hn] at e; cases e
  · rw [if_neg hb]; exact e

theorem aNew_some {h h' : AH} {o : Obj} {b : Nat} (he : aNew h o = some (b, h')) : h.get h.fresh = none ∧ b = h.fresh ∧ h' = aPush h o := by
  unfold aNew at he
  cases hg : h.get h.fresh with
  | some _ => simp [hg] at he
  | none => simp only [hg, Option.some.injEq, Prod.mk.injEq] at he; exact ⟨rfl, he.1.symm, he.2.symm⟩

theorem aNew_none {h : AH} (o : Obj) (hn : h.get h.fresh = none) : aNew h o = some (h.fresh, aPush h o) := by
  unfold aNew; simp only [hn]; rfl

/-- Whatever the heap is: nothing, or one new block. -/
def Makes (E : Env) (o : Oper) (ρ : Operand → Value) : Prop :=
  (∀ h, aopX E o ρ h = none) ∨ ∃ (ob : Obj) (f : Nat → Value), ∀ h, aopX E o ρ h = match aNew h ob with
    | some (b, h') => some (.value (f b), h')
    | none => none

theorem arun_newVar {P : Program} (t : TypeId) (v : Value) (h : AH) : arun P (newVar t v) h = match aNew h (.cells v.cells t) with
    | some (b, h') => some (⟨b, 0, none⟩, h')
    | none => none := by
  unfold newVar newRow
  rw [arun_bind]
  simp only [Go.newObj, arun]
  unfold aNew
  cases h.get h.fresh <;> rfl

theorem arun_pure' {P : Program} {α : Type} (a : α) (h : AH) : arun P (Pure.pure a) h = some (a, h) := rfl

theorem makes_ok {o : Oper} (hm : makes o = true) (ρ : Operand → Value) : Makes E o ρ := by
  obtain ⟨dst, op, type, pos, after, guard⟩ := o
  unfold makes at hm
  unfold Makes aopX
  cases op <;> simp only at hm ⊢ <;> try (cases hm; done)
  case alloc t =>
    simp only [aopF, aop]
    cases hz : zok E.P t with
    | false => left; intro h; rfl
    | true =>
      right
      unfold zok at hz
      cases hi : E.P.info? t with
      | none => simp [hi] at hz
      | some i =>
        simp only [hi] at hz
        cases hzz : i.zero with
        | none => simp [hzz] at hz
        | some z =>
          refine ⟨.cells z.cells t, fun b => .pointer (some ⟨b, 0, none⟩), fun h => ?_⟩
          simp only
          have e1 : arun E.P (Instr.alloc t true (.tuple #[])) h = arun E.P (do let a ← newVar t z; pure (.pointer (some a))) h := by
            unfold Instr.alloc Go.zeroValue Go.typeInfo
            simp only [arun_bind, Go.program, arun, hi, arun_pure', hzz]
          rw [e1, arun_bind, arun_newVar]
          cases aNew h (.cells z.cells t) with
          | none => rfl
          | some q => rfl
  case box t x =>
    right
    refine ⟨.cells (ρ x).cells t, fun b => .pointer (some ⟨b, 0, none⟩), fun h => ?_⟩
    simp only [aopF, aop]
    unfold Instr.box
    rw [arun_bind, arun_newVar]
    cases aNew h (.cells (ρ x).cells t) with
    | none => rfl
    | some q => rfl
  case makeMap t r =>
    simp only [aopF, aop, aMakeMap]
    cases r with
    | some x => left; intro h; rfl
    | none =>
      right
      refine ⟨.map #[] 0, fun b => .map (some b), fun h => ?_⟩
      simp only [Option.map_none]
      cases aNew h (.map #[] 0) with
      | none => rfl
      | some q => rfl
  case makeSlice t l c =>
    simp only [aopF, aop, aMake, aRow]
    split
    · rename_i e _
      split
      · rename_i ln cn i zs _ _ _ _
        split
        · right
          refine ⟨.cells ⟨rep zs cn⟩ e, fun b => .slice (some ⟨b, 0, none⟩) ln cn, fun h => ?_⟩
          cases aNew h (.cells ⟨rep zs cn⟩ e) with
          | none => rfl
          | some q => rfl
        · left; intro h; rfl
      · left; intro h; rfl
    · left; intro h; rfl
  case buildSlice t n ps =>
    simp only [aopF, aop, aBuildSlice, aRow]
    split
    · rename_i e _
      split
      · split
        · split
          · rename_i cells _
            right
            refine ⟨.cells cells e, fun b => .slice (some ⟨b, 0, none⟩) n n, fun h => ?_⟩
            cases aNew h (.cells cells e) with
            | none => rfl
            | some q => rfl
          · left; intro h; rfl
        · left; intro h; rfl
      · left; intro h; rfl
    · left; intro h; rfl

theorem makes_at {o : Oper} (hm : makes o = true) {ρ : Operand → Value} {h h' : AH} {nx : Next} (he : aopX E o ρ h = some (nx, h')) :
    ∃ v ob, nx = .value v ∧ h.get h.fresh = none ∧ h' = aPush h ob ∧ ∀ h2 : AH, h2.fresh = h.fresh → h2.get h.fresh = none → aopX E o ρ h2 = some (.value v, aPush h2 ob) := by
  rcases makes_ok (E := E) hm ρ with hn | ⟨ob, f, hf⟩
  · rw [hn] at he; cases he
  · rw [hf] at he
    cases ha : aNew h ob with
    | none => simp [ha] at he
    | some q =>
      obtain ⟨b, h1⟩ := q
      simp only [ha, Option.some.injEq, Prod.mk.injEq] at he
      obtain ⟨rfl, rfl⟩ := he
      obtain ⟨e1, rfl, rfl⟩ := aNew_some ha
      refine ⟨f h.fresh, ob, rfl, e1, rfl, fun h2 e2 e3 => ?_⟩
      rw [hf, aNew_none ob (by rw [e2]; exact e3)]
      simp only [e2]
end
end
end Go.AE
