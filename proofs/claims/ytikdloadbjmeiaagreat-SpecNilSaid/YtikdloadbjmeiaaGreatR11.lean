import Derived.Test.YtikdloadbjmeiaaGreatR10
open Go Go.AE
namespace Go.AE
noncomputable section
def none0 : Row := ⟨64, [.slice none 0 0], .agg ⟨[u8 140, u8 117, u8 18, u8 41, u8 98, u8 82, u8 84, u8 234, u8 101, u8 34, u8 239, u8 242, u8 219, u8 58, u8 82, u8 251, u8 220, u8 156, u8 160, u8 190, u8 194, u8 66, u8 7, u8 53, u8 196, u8 148, u8 101, u8 111, u8 73, u8 45, u8 69, u8 202]⟩⟩
theorem none0_ok : RowOk none0 := row_of (n := 3000) tabs_ok rfl rfl (by decide +kernel)
end
end Go.AE
