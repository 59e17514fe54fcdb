import Derived.Test.YtikdloadbjmeiaaGreatA23
import Derived.Orders
/- An evaluator over an abstract heap: an operation hangs on its operands alone. -/
namespace Go.AE
open Go
noncomputable section

theorem optMap_congr {ρ ρ' : Operand → Value} (r : Option Operand) (h : ∀ x ∈ r.toArray, ρ x = ρ' x) : r.map ρ = r.map ρ' := by
  cases r with
  | none => rfl
  | some x => simp [h x (by simp)]

theorem arrMap_congr {ρ ρ' : Operand → Value} (r : Array Operand) (h : ∀ x ∈ r, ρ x = ρ' x) : r.map ρ = r.map ρ' := Array.map_congr_left h

theorem psMap_congr {ρ ρ' : Operand → Value} (ps : Array (Nat × Operand)) (h : ∀ x ∈ (ps.toList.map (·.2)).toArray, ρ x = ρ' x) :
    (ps.toList.map fun p => (p.1, ρ p.2)) = (ps.toList.map fun p => (p.1, ρ' p.2)) := by
  apply List.map_congr_left
  intro p hp
  rw [h p.2 (by simp; exact ⟨p.1, by simpa using hp⟩)]

theorem aCall_congr {E : Env} {ρ ρ' : Operand → Value} {c : Call} {h : AH} (hx : ∀ x ∈ c.operands, ρ x = ρ' x) : aCall E ρ c h = aCall E ρ' c h := by
  have ha : c.args.map ρ = c.args.map ρ' := arrMap_congr _ fun x hm => hx x (by simp [Call.operands, hm])
  unfold aCall
  rw [ha]
  cases hc : c.callee with
  | value f => simp only; rw [hx f (by simp [Call.operands, hc])]
  | invoke r n => rfl
  | builtin b => rfl

theorem aop_congr {E : Env} {o : Oper} {ρ ρ' : Operand → Value} {h : AH} (hx : ∀ x ∈ o.op.operands, ρ x = ρ' x) : aop E o ρ h = aop E o ρ' h := by
  obtain ⟨dst, op, type, pos, after, guard⟩ := o
  simp only at hx
  unfold aop
  cases op <;> simp only [Op.operands] at hx ⊢
  case call c => exact aCall_congr hx
  case defer c =>
    have ha : c.args.map ρ = c.args.map ρ' := arrMap_congr _ fun x hm => hx x (by simp [Call.operands, hm])
    cases hc : c.callee with
    | value f => simp only; rw [hx f (by simp [Call.operands, hc]), ha]
    | invoke r n => rfl
    | builtin b => rfl
  case build t ps => rw [psMap_congr ps hx]
  case buildSlice t n ps => rw [psMap_congr ps hx]
  case makeMap t r => rw [optMap_congr r hx]
  case makeFunc fn first cap =>
    cases fn <;> simp only
    rw [arrMap_congr first fun x hm => hx x (by simp [hm]), arrMap_congr cap fun x hm => hx x (by simp [hm])]
  case slice t x lo hi mx =>
    rw [hx x (by simp), optMap_congr lo fun y hm => hx y (by simp at hm ⊢; simp [hm]), optMap_congr hi fun y hm => hx y (by simp at hm ⊢; simp [hm]), optMap_congr mx fun y hm => hx y (by simp at hm ⊢; simp [hm])]
  all_goals first
    | rfl
    | (simp only [Array.mem_def, List.mem_cons, List.not_mem_nil, or_false, forall_eq_or_imp, forall_eq] at hx
       first
         | (obtain ⟨h1, h2, h3⟩ := hx; simp only [h1, h2, h3])
         | (obtain ⟨h1, h2⟩ := hx; simp only [h1, h2])
         | simp only [hx])

theorem aopF_congr {E : Env} {o : Oper} {ρ ρ' : Operand → Value} {h : AH} (hx : ∀ x ∈ o.op.operands, ρ x = ρ' x) : aopF E o ρ h = aopF E o ρ' h := by
  have key := aop_congr (E := E) (h := h) hx
  obtain ⟨dst, op, type, pos, after, guard⟩ := o
  unfold aopF
  cases op <;> simp only <;> try exact key
  all_goals
    rw [key]
    simp only [Op.operands, Array.mem_def, List.mem_cons, List.not_mem_nil, or_false, forall_eq_or_imp, forall_eq] at hx
    first
      | (obtain ⟨h1, h2⟩ := hx; simp only [h1, h2])
      | simp only [hx]

theorem aop_noSelect {E : Env} {o : Oper} {ρ : Operand → Value} {h : AH} {r : Next × AH} (hx : aop E o ρ h = some r) : ∀ cs b, o.op ≠ .select cs b := by
  intro cs b hc
  unfold aop at hx
  simp [hc] at hx

theorem aopF_noSelect {E : Env} {o : Oper} {ρ : Operand → Value} {h : AH} {r : Next × AH} (hx : aopF E o ρ h = some r) : ∀ cs b, o.op ≠ .select cs b := by
  intro cs b hc
  unfold aopF at hx
  simp [hc, aop] at hx

/-- An operation whose operands alone are related. -/
theorem aopF_run' {U : Un} {E : Env} {m : Mp} {w : World} {h : AH} (hE : EnvOK E) {o : Oper} {ρ ρ' : Operand → Value} {nx : Next} {h' : AH} (hr : HRel U m h w) (hρ : ∀ x ∈ o.op.operands, VRel m (ρ x) (ρ' x)) (he : aopF E o ρ h = some (nx, h')) :
    Res U E.P m h w (execOp ρ' o) nx h' := by
  classical
  let q : Operand → Value := fun x => if x ∈ o.op.operands then ρ x else .nilFunc
  let q' : Operand → Value := fun x => if x ∈ o.op.operands then ρ' x else .nilFunc
  have e1 : aopF E o q h = some (nx, h') := by
    rw [← he]; exact aopF_congr fun x hx => by simp [q, hx]
  have e2 : execOp ρ' o = execOp q' o := execOp_congr o (aopF_noSelect he) fun x hx => by simp [q', hx]
  rw [e2]
  refine aopF_run hE hr (fun x => ?_) e1
  by_cases hx : x ∈ o.op.operands
  · simp only [q, q', if_pos hx]; exact hρ x hx
  · simp only [q, q', if_neg hx]; exact .nilFunc
end
end Go.AE
