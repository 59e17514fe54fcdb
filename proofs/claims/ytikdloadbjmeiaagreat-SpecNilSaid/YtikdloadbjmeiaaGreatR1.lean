import Derived.Test.YtikdloadbjmeiaaGreatR0
open Go Go.AE
namespace Go.AE
/- Cube roots. -/
noncomputable section
def cube0 : Row := ⟨172, [u64 2], u32 1116352408⟩
theorem cube0_ok : RowOk cube0 := row_of0 (n := 3000) rfl rfl (by decide +kernel)
def cube1 : Row := ⟨172, [u64 3], u32 1899447441⟩
theorem cube1_ok : RowOk cube1 := row_of0 (n := 3000) rfl rfl (by decide +kernel)
def cube2 : Row := ⟨172, [u64 5], u32 3049323471⟩
theorem cube2_ok : RowOk cube2 := row_of0 (n := 3000) rfl rfl (by decide +kernel)
def cube3 : Row := ⟨172, [u64 7], u32 3921009573⟩
theorem cube3_ok : RowOk cube3 := row_of0 (n := 3000) rfl rfl (by decide +kernel)
def cube4 : Row := ⟨172, [u64 11], u32 961987163⟩
theorem cube4_ok : RowOk cube4 := row_of0 (n := 3000) rfl rfl (by decide +kernel)
def cube5 : Row := ⟨172, [u64 13], u32 1508970993⟩
theorem cube5_ok : RowOk cube5 := row_of0 (n := 3000) rfl rfl (by decide +kernel)
def cube6 : Row := ⟨172, [u64 17], u32 2453635748⟩
theorem cube6_ok : RowOk cube6 := row_of0 (n := 3000) rfl rfl (by decide +kernel)
def cube7 : Row := ⟨172, [u64 19], u32 2870763221⟩
theorem cube7_ok : RowOk cube7 := row_of0 (n := 3000) rfl rfl (by decide +kernel)
def cubes0 : List Row := [cube0, cube1, cube2, cube3, cube4, cube5, cube6, cube7]
theorem cubes0_ok : RowsOk cubes0 := .cons cube0_ok (.cons cube1_ok (.cons cube2_ok (.cons cube3_ok (.cons cube4_ok (.cons cube5_ok (.cons cube6_ok (.cons cube7_ok .nil)))))))
end
end Go.AE
