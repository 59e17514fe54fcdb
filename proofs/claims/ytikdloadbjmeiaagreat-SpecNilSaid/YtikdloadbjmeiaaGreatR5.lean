import Derived.Test.YtikdloadbjmeiaaGreatR0
open Go Go.AE
namespace Go.AE
/- Cube roots. -/
noncomputable section
def cube32 : Row := ⟨172, [u64 137], u32 666307205⟩
theorem cube32_ok : RowOk cube32 := row_of0 (n := 3000) rfl rfl (by decide +kernel)
def cube33 : Row := ⟨172, [u64 139], u32 773529912⟩
theorem cube33_ok : RowOk cube33 := row_of0 (n := 3000) rfl rfl (by decide +kernel)
def cube34 : Row := ⟨172, [u64 149], u32 1294757372⟩
theorem cube34_ok : RowOk cube34 := row_of0 (n := 3000) rfl rfl (by decide +kernel)
def cube35 : Row := ⟨172, [u64 151], u32 1396182291⟩
theorem cube35_ok : RowOk cube35 := row_of0 (n := 3000) rfl rfl (by decide +kernel)
def cube36 : Row := ⟨172, [u64 157], u32 1695183700⟩
theorem cube36_ok : RowOk cube36 := row_of0 (n := 3000) rfl rfl (by decide +kernel)
def cube37 : Row := ⟨172, [u64 163], u32 1986661051⟩
theorem cube37_ok : RowOk cube37 := row_of0 (n := 3000) rfl rfl (by decide +kernel)
def cube38 : Row := ⟨172, [u64 167], u32 2177026350⟩
theorem cube38_ok : RowOk cube38 := row_of0 (n := 3000) rfl rfl (by decide +kernel)
def cube39 : Row := ⟨172, [u64 173], u32 2456956037⟩
theorem cube39_ok : RowOk cube39 := row_of0 (n := 3000) rfl rfl (by decide +kernel)
def cubes4 : List Row := [cube32, cube33, cube34, cube35, cube36, cube37, cube38, cube39]
theorem cubes4_ok : RowsOk cubes4 := .cons cube32_ok (.cons cube33_ok (.cons cube34_ok (.cons cube35_ok (.cons cube36_ok (.cons cube37_ok (.cons cube38_ok (.cons cube39_ok .nil)))))))
end
end Go.AE
