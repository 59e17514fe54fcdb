import Derived.Test.YtikdloadbjmeiaaGreatR0
open Go Go.AE
namespace Go.AE
/- Cube roots. -/
noncomputable section
def cube8 : Row := ⟨172, [u64 23], u32 3624381080⟩
theorem cube8_ok : RowOk cube8 := row_of0 (n := 3000) rfl rfl (by decide +kernel)
def cube9 : Row := ⟨172, [u64 29], u32 310598401⟩
theorem cube9_ok : RowOk cube9 := row_of0 (n := 3000) rfl rfl (by decide +kernel)
def cube10 : Row := ⟨172, [u64 31], u32 607225278⟩
theorem cube10_ok : RowOk cube10 := row_of0 (n := 3000) rfl rfl (by decide +kernel)
def cube11 : Row := ⟨172, [u64 37], u32 1426881987⟩
theorem cube11_ok : RowOk cube11 := row_of0 (n := 3000) rfl rfl (by decide +kernel)
def cube12 : Row := ⟨172, [u64 41], u32 1925078388⟩
theorem cube12_ok : RowOk cube12 := row_of0 (n := 3000) rfl rfl (by decide +kernel)
def cube13 : Row := ⟨172, [u64 43], u32 2162078206⟩
theorem cube13_ok : RowOk cube13 := row_of0 (n := 3000) rfl rfl (by decide +kernel)
def cube14 : Row := ⟨172, [u64 47], u32 2614888103⟩
theorem cube14_ok : RowOk cube14 := row_of0 (n := 3000) rfl rfl (by decide +kernel)
def cube15 : Row := ⟨172, [u64 53], u32 3248222580⟩
theorem cube15_ok : RowOk cube15 := row_of0 (n := 3000) rfl rfl (by decide +kernel)
def cubes1 : List Row := [cube8, cube9, cube10, cube11, cube12, cube13, cube14, cube15]
theorem cubes1_ok : RowsOk cubes1 := .cons cube8_ok (.cons cube9_ok (.cons cube10_ok (.cons cube11_ok (.cons cube12_ok (.cons cube13_ok (.cons cube14_ok (.cons cube15_ok .nil)))))))
end
end Go.AE
