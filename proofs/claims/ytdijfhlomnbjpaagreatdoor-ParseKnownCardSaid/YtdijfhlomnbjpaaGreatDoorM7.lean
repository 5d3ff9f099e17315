/- The chapter's functions, walked by the abstract machine: plain lemmas, no condition. -/
import Derived.Test.YtdijfhlomnbjpaaGreatDoorM6

namespace Go.Proofs.YtdijfhlomnbjpaaGreatDoor
open Go Am
set_option maxRecDepth 100000 in
theorem awake_run : truly ctx 100000 7 [] = true := by kernel_rfl
end Go.Proofs.YtdijfhlomnbjpaaGreatDoor
