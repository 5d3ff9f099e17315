/- The chapter's functions, walked by the abstract machine: plain lemmas, no condition. -/
import Derived.Test.YthemdhlheglhoaaGreatDoorM5

namespace Go.Proofs.YthemdhlheglhoaaGreatDoor
open Go Am
set_option maxRecDepth 100000 in
theorem known_run : truly ctx 100000 8 [] = true := by kernel_rfl
end Go.Proofs.YthemdhlheglhoaaGreatDoor
