import Derived.Test.YtikdloadbjmeiaaGreatR0
open Go Go.AE
namespace Go.AE
/- Cube roots. -/
noncomputable section
def cube40 : Row := ⟨172, [u64 179], u32 2730485921⟩
theorem cube40_ok : RowOk cube40 := row_of0 (n := 3000) rfl rfl (by decide +kernel)
def cube41 : Row := ⟨172, [u64 181], u32 2820302411⟩
theorem cube41_ok : RowOk cube41 := row_of0 (n := 3000) rfl rfl (by decide +kernel)
def cube42 : Row := ⟨172, [u64 191], u32 3259730800⟩
theorem cube42_ok : RowOk cube42 := row_of0 (n := 3000) rfl rfl (by decide +kernel)
def cube43 : Row := ⟨172, [u64 193], u32 3345764771⟩
theorem cube43_ok : RowOk cube43 := row_of0 (n := 3000) rfl rfl (by decide +kernel)
def cube44 : Row := ⟨172, [u64 197], u32 3516065817⟩
theorem cube44_ok : RowOk cube44 := row_of0 (n := 3000) rfl rfl (by decide +kernel)
def cube45 : Row := ⟨172, [u64 199], u32 3600352804⟩
theorem cube45_ok : RowOk cube45 := row_of0 (n := 3000) rfl rfl (by decide +kernel)
def cube46 : Row := ⟨172, [u64 211], u32 4094571909⟩
theorem cube46_ok : RowOk cube46 := row_of0 (n := 3000) rfl rfl (by decide +kernel)
def cube47 : Row := ⟨172, [u64 223], u32 275423344⟩
theorem cube47_ok : RowOk cube47 := row_of0 (n := 3000) rfl rfl (by decide +kernel)
def cubes5 : List Row := [cube40, cube41, cube42, cube43, cube44, cube45, cube46, cube47]
theorem cubes5_ok : RowsOk cubes5 := .cons cube40_ok (.cons cube41_ok (.cons cube42_ok (.cons cube43_ok (.cons cube44_ok (.cons cube45_ok (.cons cube46_ok (.cons cube47_ok .nil)))))))
end
end Go.AE
