import Derived.Test.YtikdloadbjmeiaaGreatR10
open Go Go.AE
namespace Go.AE
noncomputable section
def gen0 : Row := ⟨52, [.agg ⟨[.slice none 0 0, u8 140, u8 117, u8 18, u8 41, u8 98, u8 82, u8 84, u8 234, u8 101, u8 34, u8 239, u8 242, u8 219, u8 58, u8 82, u8 251, u8 220, u8 156, u8 160, u8 190, u8 194, u8 66, u8 7, u8 53, u8 196, u8 148, u8 101, u8 111, u8 73, u8 45, u8 69, u8 202, u8 140, u8 117, u8 18, u8 41, u8 98, u8 82, u8 84, u8 234, u8 101, u8 34, u8 239, u8 242, u8 219, u8 58, u8 82, u8 251, u8 220, u8 156, u8 160, u8 190, u8 194, u8 66, u8 7, u8 53, u8 196, u8 148, u8 101, u8 111, u8 73, u8 45, u8 69, u8 202, u8 28, u8 136, u8 236, u8 153, u8 94, u8 96, u8 137, u8 177, u8 153, u8 157, u8 190, u8 53, u8 51, u8 249, u8 130, u8 137, u8 170, u8 126, u8 255, u8 201, u8 43, u8 65, u8 41, u8 125, u8 38, u8 26, u8 155, u8 168, u8 8, u8 37, u8 65, u8 25, u8 0, u8 0, u8 0, u8 0, u8 0, u8 0, u8 0, u8 0, u8 0, u8 0, u8 0, u8 0, u8 0, u8 0, u8 0, u8 0, u8 0, u8 0, u8 0, u8 0, u8 0, u8 0, u8 0, u8 0, u8 0, u8 0, u8 0, u8 0, u8 0, u8 0, u8 0, u8 0, u64 0]⟩], .agg ⟨[u8 232, u8 161, u8 89, u8 52, u8 206, u8 238, u8 158, u8 98, u8 222, u8 105, u8 91, u8 188, u8 185, u8 152, u8 18, u8 255, u8 21, u8 3, u8 79, u8 220, u8 122, u8 100, u8 130, u8 231, u8 110, u8 15, u8 223, u8 36, u8 215, u8 201, u8 106, u8 60]⟩⟩
theorem gen0_ok : RowOk gen0 := row_of (n := 3000) tabs_ok rfl rfl (by decide +kernel)
end
end Go.AE
