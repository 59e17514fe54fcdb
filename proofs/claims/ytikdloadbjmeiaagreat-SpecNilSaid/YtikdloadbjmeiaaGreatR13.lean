import Derived.Test.YtikdloadbjmeiaaGreatR11
import Derived.Test.YtikdloadbjmeiaaGreatR12
open Go Go.AE
namespace Go.AE
noncomputable section
theorem rows_ok : RowsOk [kTab, hTab, none0, gen0] := .cons kTab_ok (.cons hTab_ok (.cons none0_ok (.cons gen0_ok .nil)))
set_option maxHeartbeats 4000000 in
theorem main_run : closed E (rowsCon [kTab, hTab, none0, gen0]) 3000 3 [] (.bool true) = true := by decide +kernel
theorem main_ok : Ok Go.Proofs.Tryz.prog 3 #[] hE fun v _ => v = .bool true := closed_ok env mixed (rowsCon_ok rows_ok) main_run
end
end Go.AE
