import Derived.Test.YtikdloadbjmeiaaGreatR0
open Go Go.AE
namespace Go.AE
/- Cube roots. -/
noncomputable section
def cube56 : Row := ⟨172, [u64 269], u32 1955562222⟩
theorem cube56_ok : RowOk cube56 := row_of0 (n := 3000) rfl rfl (by decide +kernel)
def cube57 : Row := ⟨172, [u64 271], u32 2024104815⟩
theorem cube57_ok : RowOk cube57 := row_of0 (n := 3000) rfl rfl (by decide +kernel)
def cube58 : Row := ⟨172, [u64 277], u32 2227730452⟩
theorem cube58_ok : RowOk cube58 := row_of0 (n := 3000) rfl rfl (by decide +kernel)
def cube59 : Row := ⟨172, [u64 281], u32 2361852424⟩
theorem cube59_ok : RowOk cube59 := row_of0 (n := 3000) rfl rfl (by decide +kernel)
def cube60 : Row := ⟨172, [u64 283], u32 2428436474⟩
theorem cube60_ok : RowOk cube60 := row_of0 (n := 3000) rfl rfl (by decide +kernel)
def cube61 : Row := ⟨172, [u64 293], u32 2756734187⟩
theorem cube61_ok : RowOk cube61 := row_of0 (n := 3000) rfl rfl (by decide +kernel)
def cube62 : Row := ⟨172, [u64 307], u32 3204031479⟩
theorem cube62_ok : RowOk cube62 := row_of0 (n := 3000) rfl rfl (by decide +kernel)
def cube63 : Row := ⟨172, [u64 311], u32 3329325298⟩
theorem cube63_ok : RowOk cube63 := row_of0 (n := 3000) rfl rfl (by decide +kernel)
def cubes7 : List Row := [cube56, cube57, cube58, cube59, cube60, cube61, cube62, cube63]
theorem cubes7_ok : RowsOk cubes7 := .cons cube56_ok (.cons cube57_ok (.cons cube58_ok (.cons cube59_ok (.cons cube60_ok (.cons cube61_ok (.cons cube62_ok (.cons cube63_ok .nil)))))))
end
end Go.AE
