import Derived.Test.YtikdloadbjmeiaaGreatR0
open Go Go.AE
namespace Go.AE
/- Cube roots. -/
noncomputable section
def cube24 : Row := ⟨172, [u64 97], u32 2554220882⟩
theorem cube24_ok : RowOk cube24 := row_of0 (n := 3000) rfl rfl (by decide +kernel)
def cube25 : Row := ⟨172, [u64 101], u32 2821834349⟩
theorem cube25_ok : RowOk cube25 := row_of0 (n := 3000) rfl rfl (by decide +kernel)
def cube26 : Row := ⟨172, [u64 103], u32 2952996808⟩
theorem cube26_ok : RowOk cube26 := row_of0 (n := 3000) rfl rfl (by decide +kernel)
def cube27 : Row := ⟨172, [u64 107], u32 3210313671⟩
theorem cube27_ok : RowOk cube27 := row_of0 (n := 3000) rfl rfl (by decide +kernel)
def cube28 : Row := ⟨172, [u64 109], u32 3336571891⟩
theorem cube28_ok : RowOk cube28 := row_of0 (n := 3000) rfl rfl (by decide +kernel)
def cube29 : Row := ⟨172, [u64 113], u32 3584528711⟩
theorem cube29_ok : RowOk cube29 := row_of0 (n := 3000) rfl rfl (by decide +kernel)
def cube30 : Row := ⟨172, [u64 127], u32 113926993⟩
theorem cube30_ok : RowOk cube30 := row_of0 (n := 3000) rfl rfl (by decide +kernel)
def cube31 : Row := ⟨172, [u64 131], u32 338241895⟩
theorem cube31_ok : RowOk cube31 := row_of0 (n := 3000) rfl rfl (by decide +kernel)
def cubes3 : List Row := [cube24, cube25, cube26, cube27, cube28, cube29, cube30, cube31]
theorem cubes3_ok : RowsOk cubes3 := .cons cube24_ok (.cons cube25_ok (.cons cube26_ok (.cons cube27_ok (.cons cube28_ok (.cons cube29_ok (.cons cube30_ok (.cons cube31_ok .nil)))))))
end
end Go.AE
