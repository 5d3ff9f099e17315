/- The chapter's functions, walked by the abstract machine: plain lemmas, no condition. -/
import Derived.Test.YtabfojpbldflcaaGreatDoorM13

namespace Go.Proofs.YtabfojpbldflcaaGreatDoor
open Go Am
set_option maxRecDepth 100000 in
/-- gimlet/gimletlaw22.does, at 2 -/
noncomputable def snap5 : Snap := ⟨[(.str [108, 101, 116, 32, 114, 101, 99, 32, 102, 32, 61, 32, 102, 117, 110, 32, 110, 32, 45, 62, 32, 105, 102, 32, 110, 32, 60, 32, 49, 32, 116, 104, 101, 110, 32, 48, 32, 101, 108, 115, 101, 32, 102, 32, 40, 110, 32, 45, 32, 49, 41, 32, 59, 59, 32, 108, 101, 116, 32, 121, 32, 61, 32, 102, 32, 50, 32, 59, 59]), .nilslice, (.agg [(.int .i64 0), (.int .i64 0), (.int .i64 0), (.int .i64 26), .nilslice])],
⟨0, []⟩,
(.bool true),
⟨1670, []⟩⟩
set_option maxRecDepth 100000 in
theorem snap5_good : snap5.good ctxL1 100000 14 = true := by kernel_rfl
end Go.Proofs.YtabfojpbldflcaaGreatDoor
