import Derived.Test.YtikdloadbjmeiaaGreatR0
open Go Go.AE
namespace Go.AE
/- Cube roots. -/
noncomputable section
def cube16 : Row := ⟨172, [u64 59], u32 3835390401⟩
theorem cube16_ok : RowOk cube16 := row_of0 (n := 3000) rfl rfl (by decide +kernel)
def cube17 : Row := ⟨172, [u64 61], u32 4022224774⟩
theorem cube17_ok : RowOk cube17 := row_of0 (n := 3000) rfl rfl (by decide +kernel)
def cube18 : Row := ⟨172, [u64 67], u32 264347078⟩
theorem cube18_ok : RowOk cube18 := row_of0 (n := 3000) rfl rfl (by decide +kernel)
def cube19 : Row := ⟨172, [u64 71], u32 604807628⟩
theorem cube19_ok : RowOk cube19 := row_of0 (n := 3000) rfl rfl (by decide +kernel)
def cube20 : Row := ⟨172, [u64 73], u32 770255983⟩
theorem cube20_ok : RowOk cube20 := row_of0 (n := 3000) rfl rfl (by decide +kernel)
def cube21 : Row := ⟨172, [u64 79], u32 1249150122⟩
theorem cube21_ok : RowOk cube21 := row_of0 (n := 3000) rfl rfl (by decide +kernel)
def cube22 : Row := ⟨172, [u64 83], u32 1555081692⟩
theorem cube22_ok : RowOk cube22 := row_of0 (n := 3000) rfl rfl (by decide +kernel)
def cube23 : Row := ⟨172, [u64 89], u32 1996064986⟩
theorem cube23_ok : RowOk cube23 := row_of0 (n := 3000) rfl rfl (by decide +kernel)
def cubes2 : List Row := [cube16, cube17, cube18, cube19, cube20, cube21, cube22, cube23]
theorem cubes2_ok : RowsOk cubes2 := .cons cube16_ok (.cons cube17_ok (.cons cube18_ok (.cons cube19_ok (.cons cube20_ok (.cons cube21_ok (.cons cube22_ok (.cons cube23_ok .nil)))))))
end
end Go.AE
