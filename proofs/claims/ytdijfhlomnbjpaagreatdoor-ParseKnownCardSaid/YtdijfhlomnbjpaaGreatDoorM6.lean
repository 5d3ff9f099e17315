/- The chapter's functions, walked by the abstract machine: plain lemmas, no condition. -/
import Derived.Test.YtdijfhlomnbjpaaGreatDoorM4
import Derived.Test.YtdijfhlomnbjpaaGreatDoorM5

namespace Go.Proofs.YtdijfhlomnbjpaaGreatDoor
open Go Am
set_option maxRecDepth 100000 in
theorem faulty_run : truly ctx 100000 12 [.str [108, 101, 116, 32, 120, 32, 61, 32, 49, 32, 60, 32, 50, 32, 60, 32, 51, 59, 59], .int .i64 270, .int .i64 14] = true := by kernel_rfl
end Go.Proofs.YtdijfhlomnbjpaaGreatDoor
