import Derived.Test.YtikdloadbjmeiaaGreatR1
import Derived.Test.YtikdloadbjmeiaaGreatR2
import Derived.Test.YtikdloadbjmeiaaGreatR3
import Derived.Test.YtikdloadbjmeiaaGreatR4
import Derived.Test.YtikdloadbjmeiaaGreatR5
import Derived.Test.YtikdloadbjmeiaaGreatR6
import Derived.Test.YtikdloadbjmeiaaGreatR7
import Derived.Test.YtikdloadbjmeiaaGreatR8
import Derived.Test.YtikdloadbjmeiaaGreatR9
open Go Go.AE
namespace Go.AE
noncomputable section
def cubes : List Row := cubes0 ++ (cubes1 ++ (cubes2 ++ (cubes3 ++ (cubes4 ++ (cubes5 ++ (cubes6 ++ cubes7))))))
theorem cubes_ok : RowsOk cubes := cubes0_ok.append (cubes1_ok.append (cubes2_ok.append (cubes3_ok.append (cubes4_ok.append (cubes5_ok.append (cubes6_ok.append cubes7_ok))))))
def kTab : Row := ⟨146, [], .agg ⟨[u32 1116352408, u32 1899447441, u32 3049323471, u32 3921009573, u32 961987163, u32 1508970993, u32 2453635748, u32 2870763221, u32 3624381080, u32 310598401, u32 607225278, u32 1426881987, u32 1925078388, u32 2162078206, u32 2614888103, u32 3248222580, u32 3835390401, u32 4022224774, u32 264347078, u32 604807628, u32 770255983, u32 1249150122, u32 1555081692, u32 1996064986, u32 2554220882, u32 2821834349, u32 2952996808, u32 3210313671, u32 3336571891, u32 3584528711, u32 113926993, u32 338241895, u32 666307205, u32 773529912, u32 1294757372, u32 1396182291, u32 1695183700, u32 1986661051, u32 2177026350, u32 2456956037, u32 2730485921, u32 2820302411, u32 3259730800, u32 3345764771, u32 3516065817, u32 3600352804, u32 4094571909, u32 275423344, u32 430227734, u32 506948616, u32 659060556, u32 883997877, u32 958139571, u32 1322822218, u32 1537002063, u32 1747873779, u32 1955562222, u32 2024104815, u32 2227730452, u32 2361852424, u32 2428436474, u32 2756734187, u32 3204031479, u32 3329325298]⟩⟩
def hTab : Row := ⟨147, [], .agg ⟨[u32 1779033703, u32 3144134277, u32 1013904242, u32 2773480762, u32 1359893119, u32 2600822924, u32 528734635, u32 1541459225]⟩⟩
set_option maxHeartbeats 4000000 in
theorem kTab_ok : RowOk kTab := row_of (n := 3000) cubes_ok rfl rfl (by decide +kernel)
theorem hTab_ok : RowOk hTab := row_of (n := 3000) sqs_ok rfl rfl (by decide +kernel)
def tabs : List Row := [kTab, hTab]
theorem tabs_ok : RowsOk tabs := .cons kTab_ok (.cons hTab_ok .nil)
end
end Go.AE
