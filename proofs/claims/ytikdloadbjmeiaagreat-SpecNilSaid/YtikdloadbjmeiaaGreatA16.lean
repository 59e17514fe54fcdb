import Derived.Test.YtikdloadbjmeiaaGreatA15
/- An evaluator over an abstract heap, part 16: comparisons; one operation, whole. -/
namespace Go.AE
open Go
noncomputable section
variable {U : Un}

section
variable {P : Program} {m : Mp} {h : AH} {w : World}

/-! ### Comparisons with nil -/
def nilCmp (P : Program) (t : TypeId) (x y : Value) : Bool := match P.underlying t with
  | some (.pointer _) => match x, y with
    | .pointer (some _), .pointer none => true
    | .pointer none, .pointer (some _) => true
    | _, _ => false
  | some (.slice _) => match x, y with
    | .slice (some _) _ _, .slice none 0 0 => true
    | .slice none 0 0, .slice (some _) _ _ => true
    | _, _ => false
  | some (.map _ _) => match x, y with
    | .map (some _), .map none => true
    | .map none, .map (some _) => true
    | _, _ => false
  | some (.func _ _ _) => match x, y with
    | .func _ _ _, .nilFunc => true
    | .nilFunc, .func _ _ _ => true
    | _, _ => false
  | some (.interface _) => match x, y with
    | .iface _ _, .nilIface => true
    | .nilIface, .iface _ _ => true
    | _, _ => false
  | _ => false

theorem nilCmp_run {t : TypeId} {x y x' y' : Value} (hx : VRel m x x') (hy : VRel m y y') (hc : nilCmp P t x y = true) (ox oy : Operand) (w : World) :
    (do eqGuard .eql t ox oy x' y'; binOp .eql t x' y').run P w = .ok (.bool false) w ∧ (do eqGuard .neq t ox oy x' y'; binOp .neq t x' y').run P w = .ok (.bool true) w := by
  have key : (Op.equal t x' y').run P w = .ok false w ∧ (∀ op, (eqGuard op t ox oy x' y').run P w = .ok () w) ∧ binOp .eql t x' y' = (do let b ← Op.equal t x' y'; pure (.bool b)) ∧
      binOp .neq t x' y' = (do let b ← Op.equal t x' y'; pure (.bool (!b))) := by
    unfold nilCmp at hc
    cases hu : P.underlying t with
    | none => simp [hu] at hc
    | some d =>
      cases d <;> simp only [hu] at hc <;> try (cases hc; done)
      all_goals
        cases hx <;> cases hy <;> simp only at hc <;> try (cases hc; done)
        all_goals
          refine ⟨?_, ?_, rfl, rfl⟩
          · unfold Op.equal Op.maxDepth Op.equalIn
            rw [run_bind', ru hu]
            rfl
          · intro op
            unfold eqGuard
            cases op <;> rfl
  obtain ⟨k1, k2, k3, k4⟩ := key
  refine ⟨?_, ?_⟩
  · rw [run_bind', k2]
    simp only
    rw [k3, run_bind', k1]
    rfl
  · rw [run_bind', k2]
    simp only
    rw [k4, run_bind', k1]
    rfl

def aNilBin (P : Program) (op : BinOp) (t : TypeId) (x y : Value) : Option Value := match op with
  | .eql => match nilCmp P t x y with
    | true => some (.bool false)
    | false => none
  | .neq => match nilCmp P t x y with
    | true => some (.bool true)
    | false => none
  | _ => none

def aBin (P : Program) (op : BinOp) (t : TypeId) (ox oy : Operand) (x y : Value) : Option Value := match plain x with
  | true => match plain y with
    | true => pv P (do eqGuard op t ox oy x y; binOp op t x y)
    | false => aNilBin P op t x y
  | false => aNilBin P op t x y

theorem aBin_run {op : BinOp} {t : TypeId} {ox oy : Operand} {x y x' y' z : Value} (hx : VRel m x x') (hy : VRel m y y') (he : aBin P op t ox oy x y = some z) (w : World) :
    (do eqGuard op t ox oy x' y'; binOp op t x' y').run P w = .ok z w ∧ VRel m z z := by
  have fin : aNilBin P op t x y = some z → (do eqGuard op t ox oy x' y'; binOp op t x' y').run P w = .ok z w ∧ VRel m z z := by
    intro hz
    unfold aNilBin at hz
    cases hc : nilCmp P t x y with
    | false => cases op <;> simp [hc] at hz
    | true =>
      obtain ⟨c1, c2⟩ := nilCmp_run hx hy hc ox oy w
      cases op <;> simp [hc] at hz <;> subst hz
      · exact ⟨c1, .bool _⟩
      · exact ⟨c2, .bool _⟩
  unfold aBin at he
  cases hpx : plain x with
  | true =>
    simp only [hpx] at he
    cases hpy : plain y with
    | true =>
      simp only [hpy] at he
      rw [hx.plain hpx, hy.plain hpy]
      exact pv_run he m w
    | false => simp only [hpy] at he; exact fin he
  | false => simp only [hpx] at he; exact fin he

/-! ### The rest of the values -/
def aNil (x : Value) : Option Value := match x with
  | .pointer (some a) => some (.pointer (some a))
  | .func (.func f) a b => some (.func (.func f) a b)
  | .func (.yield l) a b => some (.func (.yield l) a b)
  | _ => none

def aIface (P : Program) (t : TypeId) (x : Value) : Option Value := match P.underlying t with
  | some (.interface _) => none
  | some _ => some (.iface t x)
  | none => none

theorem aIface_run {t : TypeId} {x x' z : Value} (hx : VRel m x x') (he : aIface P t x = some z) (w : World) : ∃ z', (Instr.makeInterface t x').run P w = .ok z' w ∧ VRel m z z' := by
  unfold aIface at he
  cases hu : P.underlying t with
  | none => simp [hu] at he
  | some d =>
    refine ⟨.iface t x', ?_, ?_⟩
    · unfold Instr.makeInterface
      rw [run_bind', ru hu]
      cases d <;> first | rfl | (simp [hu] at he)
    · cases d <;> simp [hu] at he <;> subst he <;> exact .iface t hx

def aAssert (P : Program) (x : Value) (asserted : TypeId) (ok : Bool) : Option Value := match P.underlying asserted with
  | some (.interface _) => none
  | some _ => match x with
    | .iface t v => match Nat.beq t asserted with
      | true => some (packed ok v true)
      | false => none
    | _ => none
  | none => none

theorem aAssert_run {x x' z : Value} {xt asserted : TypeId} {ok : Bool} (hx : VRel m x x') (he : aAssert P x asserted ok = some z) (w : World) :
    ∃ z', (Instr.typeAssert x' xt asserted ok).run P w = .ok z' w ∧ VRel m z z' := by
  unfold aAssert at he
  cases hu : P.underlying asserted with
  | none => simp [hu] at he
  | some d =>
    cases hx with
    | iface t hv =>
      rename_i v v'
      have he' : (match Nat.beq t asserted with
        | true => some (packed ok v true)
        | false => none) = some z := by cases d <;> simp only [hu] at he <;> first | exact he | cases he
      cases hb : Nat.beq t asserted with
      | false => simp [hb] at he'
      | true =>
        simp only [hb, Option.some.injEq] at he'
        subst he'
        have hta := Nat.eq_of_beq_eq_true hb
        refine ⟨packed ok v' true, ?_, packed_rel hv ok true⟩
        unfold Instr.typeAssert
        rw [run_bind', ru hu]
        cases d <;> simp only [hu] at he <;> try (cases he; done)
        all_goals
          simp only [hta, if_true]
          cases ok <;> rfl
    | _ => cases d <;> simp [hu] at he

/-! ### Calls -/
def TRel (m : Mp) : Target → Target → Prop
  | .fn f cap, .fn f' cap' => FnRel m f f' ∧ ArrRel m cap cap'
  | .collected r, .collected r' => RefRel m r r'
  | _, _ => False

def DRel (m : Mp) (d d' : Deferred) : Prop := TRel m d.target d'.target ∧ ArrRel m d.args d'.args

def NRel (m : Mp) : Next → Next → Prop
  | .value v, .value v' => VRel m v v'
  | .skip, .skip => True
  | .enter f args, .enter f' args' => f' = f ∧ ArrRel m args args'
  | .round l _ tmps a b, .round l' _ tmps' a' b' => RefRel m l l' ∧ ArrRel m tmps tmps' ∧ a' = a ∧ b' = b
  | .defer d, .defer d' => DRel m d d'
  | _, _ => False

theorem ArrRel.map {ρ ρ' : Operand → Value} (h : ∀ x, VRel m (ρ x) (ρ' x)) (xs : Array Operand) : ArrRel m (xs.map ρ) (xs.map ρ') := by
  unfold ArrRel
  simp only [Array.toList_map]
  generalize xs.toList = l
  induction l with
  | nil => exact .nil
  | cons x l ih => exact .cons (h x) ih

end

/-- What the functions without a body, and those that are taken by a contract, do. -/
structure Env where
  P : Program
  ext : FuncId → Array Value → AH → Option (Value × AH)

def aInvoke (E : Env) (fn : Fn) (cap args : Array Value) (h : AH) : Option (Next × AH) := match fn with
  | .func f => match E.P.funcs[f]? with
    | some g => match g.body with
      | some _ => some (.enter f (args ++ cap), h)
      | none => match E.ext f (args ++ cap) h with
        | some (v, h') => some (.value v, h')
        | none => none
    | none => none
  | .yield l => match h.get l with
    | some (.loop r) => match Nat.beq args.size r.params.size with
      | true => some (.round l r.fn ((r.params.zip args).foldl (fun tmps (t, a) => tmps.setIfInBounds t a) r.tmps) r.assign r.body, h)
      | false => none
    | _ => none
  | _ => none

def aBuiltin (P : Program) (b : Builtin) (ts : Array TypeId) (args : Array Value) (h : AH) : Option (Next × AH) := match b, ts.toList, args.toList with
  | .append, [t, tx], [s, x] => match aAppend P t tx s x h with
    | some (v, h') => some (.value v, h')
    | none => none
  | .len, [t], [x] => match aLen P t x h with
    | some v => some (.value v, h)
    | none => none
  | .copy, [t, _], [d, s] => match aCopy P t d s h with
    | some (v, h') => some (.value v, h')
    | none => none
  | .clear, [t], [x] => match aClear P t x h with
    | some h' => some (.value (.tuple #[]), h')
    | none => none
  | .delete, t :: _, [mv, k] => match aDelete P t mv k h with
    | some h' => some (.value (.tuple #[]), h')
    | none => none
  | .min, _, xs => match plainL xs with
    | true => match pv P (Builtin.min_ #[] 0 xs.toArray) with
      | some v => some (.value v, h)
      | none => none
    | false => none
  | .max, _, xs => match plainL xs with
    | true => match pv P (Builtin.max_ #[] 0 xs.toArray) with
      | some v => some (.value v, h)
      | none => none
    | false => none
  | _, _, _ => none

def aCall (E : Env) (ρ : Operand → Value) (c : Call) (h : AH) : Option (Next × AH) := match c.callee with
  | .builtin b => aBuiltin E.P b c.argTypes (c.args.map ρ) h
  | .value f => match ρ f with
    | .func fn first cap => aInvoke E fn cap (first ++ c.args.map ρ) h
    | _ => none
  | .invoke _ _ => none

def val (r : Option Value) (h : AH) : Option (Next × AH) := match r with
  | some v => some (.value v, h)
  | none => none
def valh (r : Option (Value × AH)) : Option (Next × AH) := match r with
  | some (v, h) => some (.value v, h)
  | none => none
def skiph (r : Option (Unit × AH)) : Option (Next × AH) := match r with
  | some (_, h) => some (.skip, h)
  | none => none

def aop (E : Env) (o : Oper) (ρ : Operand → Value) (h : AH) : Option (Next × AH) := match o.op with
  | .move x => some (.value (ρ x), h)
  | .assign x => some (.value (ρ x), h)
  | .pick c a b => match ρ c with
    | .bool t => some (.value (match t with | true => ρ a | false => ρ b), h)
    | _ => none
  | .alloc t => match zok E.P t with
    | true => valh (arun E.P (Instr.alloc t true (.tuple #[])) h)
    | false => none
  | .box t x => valh (arun E.P (Instr.box t (ρ x)) h)
  | .build t ps => val (aBuild E.P t (ps.toList.map fun p => (p.1, ρ p.2))) h
  | .buildSlice t n ps => valh (aBuildSlice E.P t n (ps.toList.map fun p => (p.1, ρ p.2)) h)
  | .load t a => valh (arun E.P (Instr.loadAt t (ρ a)) h)
  | .store t a x => skiph (arun E.P (Instr.storeAt t (ρ a) (ρ x)) h)
  | .nilCheck x => val (aNil (ρ x)) h
  | .binOp op t x y _ => val (aBin E.P op t x y (ρ x) (ρ y)) h
  | .unOp op _ x => match plain (ρ x) with
    | true => val (pv E.P (Op.unary op (ρ x))) h
    | false => none
  | .convert s d x => match plain (ρ x) with
    | true => val (pv E.P (convert s d (ρ x))) h
    | false => none
  | .makeInterface t x => val (aIface E.P t (ρ x)) h
  | .makeFunc fn first cap => match fn with
    | .func f => some (.value (.func (.func f) (first.map ρ) (cap.map ρ)), h)
    | _ => none
  | .makeMap t r => valh (aMakeMap E.P t (r.map ρ) h)
  | .makeSlice t l c => valh (aMake E.P t (ρ l) (ρ c) h)
  | .slice t x lo hi mx => val (aSlice E.P t (ρ x) (lo.map ρ) (hi.map ρ) (mx.map ρ)) h
  | .fieldAddr s x f => val (aFieldAt E.P s (ρ x) f) h
  | .field t x f => val (aField E.P t (ρ x) f) h
  | .indexAddr t x i => val (aIndexAt E.P t (ρ x) (ρ i)) h
  | .index t x i => val (aIndex E.P t (ρ x) (ρ i)) h
  | .lookup t x i ok => val (aLookup E.P t (ρ x) (ρ i) ok h) h
  | .mapUpdate t mp k x => match aMapUpdate E.P t (ρ mp) (ρ k) (ρ x) h with
    | some h' => some (.skip, h')
    | none => none
  | .insert t mp k x => match aMapUpdate E.P t (ρ mp) (ρ k) (ρ x) h with
    | some h' => some (.skip, h')
    | none => none
  | .typeAssert x _ t ok => val (aAssert E.P (ρ x) t ok) h
  | .extract x i => val (aExtract (ρ x) i) h
  | .call c => aCall E ρ c h
  | .defer c => match c.callee with
    | .value f => match ρ f with
      | .func fn first cap => some (.defer { target := .fn fn cap, args := first ++ c.args.map ρ }, h)
      | _ => none
    | _ => none
  | _ => none
end
end Go.AE
