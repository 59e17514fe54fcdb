import Derived.Test.YtikdloadbjmeiaaGreatC1
import Derived.Test.YtikdloadbjmeiaaGreatProg
import Derived.WalkKit
/- The program and its functions without a body. -/
open Go Go.AE
namespace Go.AE
noncomputable section
def add64 : Array Value → Sem Value := fun args => do
    let (x, y, c) ← Extern.MathBitsCarry.three "Add64" args
    pure (Extern.MathBitsCarry.pair ((x + y + c) % Extern.MathBitsCarry.m64) ((x + y + c) / Extern.MathBitsCarry.m64))
def xrs (P : Program) : List Xr := [⟨57, extClone⟩, ⟨194, extPlain P add64⟩]
def E : Env := { P := Go.Proofs.Tryz.prog, ext := extOf (xrs Go.Proofs.Tryz.prog) }
def u64 (n : Nat) : Value := .int .u64 (.ofNat n)
def u32 (n : Nat) : Value := .int .u32 (.ofNat n)
def u8 (n : Nat) : Value := .int .u8 (.ofNat n)
/-- A row, shown. -/
def RowOk (q : Row) : Prop := plainL q.args = true ∧ plain q.r = true ∧ Ok E.P q.f ⟨q.args⟩ hE fun v _ => v = q.r
def RowsOk (l : List Row) : Prop := ∀ q ∈ l, RowOk q
theorem RowsOk.nil : RowsOk [] := fun _ h => by cases h
theorem RowsOk.cons {q : Row} {l : List Row} (h : RowOk q) (hl : RowsOk l) : RowsOk (q :: l) := fun x hx => by
  rcases List.mem_cons.1 hx with rfl | hx
  · exact h
  · exact hl x hx
theorem RowsOk.append {l r : List Row} (hl : RowsOk l) (hr : RowsOk r) : RowsOk (l ++ r) := fun x hx => by
  rcases List.mem_append.1 hx with hx | hx
  · exact hl x hx
  · exact hr x hx

theorem xr_clone : XrOK Go.Proofs.Tryz.prog ⟨57, extClone⟩ := by
  exact ⟨Go.Proofs.Tryz.f57, Extern.MapsClone.clone, Go.Proofs.Tryz.func57, by kernel_rfl, by kernel_rfl, by kernel_rfl, by kernel_rfl, extClone_ok _⟩
theorem xr_add : XrOK Go.Proofs.Tryz.prog ⟨194, extPlain Go.Proofs.Tryz.prog add64⟩ := by
  exact ⟨Go.Proofs.Tryz.f194, add64, Go.Proofs.Tryz.func194, by kernel_rfl, by kernel_rfl, by kernel_rfl, by kernel_rfl, extPlain_ok _ _⟩
theorem names : namesOk Go.Proofs.Tryz.prog.funcs.toList = true := by decide +kernel
theorem env : EnvOK E := env_ok names fun q hq => by
  unfold xrs at hq
  simp only [List.mem_cons, List.not_mem_nil, or_false] at hq
  rcases hq with rfl | rfl
  · exact xr_clone
  · exact xr_add
theorem mixed : E.P.follows .mixedOrders = true := by decide +kernel

/-- What a closed run shows. -/
theorem row_of {rows : List Row} (hr : RowsOk rows) {n : Nat} {q : Row} (ha : plainL q.args = true) (hp : plain q.r = true) (h : closed E (rowsCon rows) n q.f q.args q.r = true) : RowOk q :=
  ⟨ha, hp, closed_ok env mixed (rowsCon_ok hr) h⟩
theorem row_of0 {n : Nat} {q : Row} (ha : plainL q.args = true) (hp : plain q.r = true) (h : closed E noCon n q.f q.args q.r = true) : RowOk q :=
  ⟨ha, hp, closed_ok env mixed (noCon_ok _) h⟩
end
end Go.AE
