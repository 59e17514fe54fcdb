import Derived.Test.YtikdloadbjmeiaaGreatR0
open Go Go.AE
namespace Go.AE
/- Cube roots. -/
noncomputable section
def cube48 : Row := ⟨172, [u64 227], u32 430227734⟩
theorem cube48_ok : RowOk cube48 := row_of0 (n := 3000) rfl rfl (by decide +kernel)
def cube49 : Row := ⟨172, [u64 229], u32 506948616⟩
theorem cube49_ok : RowOk cube49 := row_of0 (n := 3000) rfl rfl (by decide +kernel)
def cube50 : Row := ⟨172, [u64 233], u32 659060556⟩
theorem cube50_ok : RowOk cube50 := row_of0 (n := 3000) rfl rfl (by decide +kernel)
def cube51 : Row := ⟨172, [u64 239], u32 883997877⟩
theorem cube51_ok : RowOk cube51 := row_of0 (n := 3000) rfl rfl (by decide +kernel)
def cube52 : Row := ⟨172, [u64 241], u32 958139571⟩
theorem cube52_ok : RowOk cube52 := row_of0 (n := 3000) rfl rfl (by decide +kernel)
def cube53 : Row := ⟨172, [u64 251], u32 1322822218⟩
theorem cube53_ok : RowOk cube53 := row_of0 (n := 3000) rfl rfl (by decide +kernel)
def cube54 : Row := ⟨172, [u64 257], u32 1537002063⟩
theorem cube54_ok : RowOk cube54 := row_of0 (n := 3000) rfl rfl (by decide +kernel)
def cube55 : Row := ⟨172, [u64 263], u32 1747873779⟩
theorem cube55_ok : RowOk cube55 := row_of0 (n := 3000) rfl rfl (by decide +kernel)
def cubes6 : List Row := [cube48, cube49, cube50, cube51, cube52, cube53, cube54, cube55]
theorem cubes6_ok : RowsOk cubes6 := .cons cube48_ok (.cons cube49_ok (.cons cube50_ok (.cons cube51_ok (.cons cube52_ok (.cons cube53_ok (.cons cube54_ok (.cons cube55_ok .nil)))))))
end
end Go.AE
