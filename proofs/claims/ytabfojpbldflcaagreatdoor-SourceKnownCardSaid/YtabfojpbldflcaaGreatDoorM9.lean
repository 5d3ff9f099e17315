/- The chapter's functions, walked by the abstract machine: plain lemmas, no condition. -/
import Derived.Test.YtabfojpbldflcaaGreatDoorM8

namespace Go.Proofs.YtabfojpbldflcaaGreatDoor
open Go Am
set_option maxRecDepth 100000 in
/-- gimlet/gimletlaw22.does, at 73156 -/
noncomputable def snap6 : Snap := ⟨[(.str [101, 120, 99, 101, 112, 116, 105, 111, 110, 32, 69, 32, 59, 59, 32, 108, 101, 116, 32, 120, 32, 61, 32, 116, 114, 121, 32, 114, 97, 105, 115, 101, 32, 69, 32, 119, 105, 116, 104, 32, 68, 105, 118, 32, 45, 62, 32, 49, 32, 59, 59]), .nilslice, (.agg [(.int .i64 1), (.int .i64 3), (.int .i64 0), (.int .i64 3), .nilslice])],
⟨1670, []⟩,
(.bool true),
⟨2572, []⟩⟩
set_option maxRecDepth 100000 in
theorem snap6_good : snap6.good ctx 100000 14 = true := by kernel_rfl
end Go.Proofs.YtabfojpbldflcaaGreatDoor
