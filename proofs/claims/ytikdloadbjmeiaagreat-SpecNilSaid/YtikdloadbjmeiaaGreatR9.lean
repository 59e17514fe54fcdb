import Derived.Test.YtikdloadbjmeiaaGreatR0
open Go Go.AE
namespace Go.AE
noncomputable section
def sq0 : Row := ⟨173, [u64 2], u32 1779033703⟩
theorem sq0_ok : RowOk sq0 := row_of0 (n := 3000) rfl rfl (by decide +kernel)
def sq1 : Row := ⟨173, [u64 3], u32 3144134277⟩
theorem sq1_ok : RowOk sq1 := row_of0 (n := 3000) rfl rfl (by decide +kernel)
def sq2 : Row := ⟨173, [u64 5], u32 1013904242⟩
theorem sq2_ok : RowOk sq2 := row_of0 (n := 3000) rfl rfl (by decide +kernel)
def sq3 : Row := ⟨173, [u64 7], u32 2773480762⟩
theorem sq3_ok : RowOk sq3 := row_of0 (n := 3000) rfl rfl (by decide +kernel)
def sq4 : Row := ⟨173, [u64 11], u32 1359893119⟩
theorem sq4_ok : RowOk sq4 := row_of0 (n := 3000) rfl rfl (by decide +kernel)
def sq5 : Row := ⟨173, [u64 13], u32 2600822924⟩
theorem sq5_ok : RowOk sq5 := row_of0 (n := 3000) rfl rfl (by decide +kernel)
def sq6 : Row := ⟨173, [u64 17], u32 528734635⟩
theorem sq6_ok : RowOk sq6 := row_of0 (n := 3000) rfl rfl (by decide +kernel)
def sq7 : Row := ⟨173, [u64 19], u32 1541459225⟩
theorem sq7_ok : RowOk sq7 := row_of0 (n := 3000) rfl rfl (by decide +kernel)
def sqs : List Row := [sq0, sq1, sq2, sq3, sq4, sq5, sq6, sq7]
theorem sqs_ok : RowsOk sqs := .cons sq0_ok (.cons sq1_ok (.cons sq2_ok (.cons sq3_ok (.cons sq4_ok (.cons sq5_ok (.cons sq6_ok (.cons sq7_ok .nil)))))))
end
end Go.AE
