/- The chapter's functions, walked by the abstract machine: plain lemmas, no condition. -/
import Derived.Test.YthcgdbgkofflnaaGreatDoorM5
import Derived.Test.YthcgdbgkofflnaaGreatDoorM4

namespace Go.Proofs.YthcgdbgkofflnaaGreatDoor
open Go Am
set_option maxRecDepth 100000 in
/-- gimlet/parse.Parse, at 4 -/
noncomputable def snap0 : Snap := ⟨[(.str [116, 121, 112, 101, 32, 39, 97, 32, 108, 105, 115, 116, 32, 61, 32, 78, 105, 108, 32, 124, 32, 67, 111, 110, 115, 32, 111, 102, 32, 39, 97, 32, 42, 32, 39, 97, 32, 108, 105, 115, 116, 32, 59, 59])],
⟨2, [(0, .cells 2 (puts .e 0 [.nilslice, .nilslice]) 0 false),
(1, .cells 2 (puts .e 0 [(.int .i64 0), (.int .i64 0)]) 0 false)]⟩,
(.tuple [(.gslice (pa 132) 0 1 0), (.agg [(.int .i64 0), (.int .i64 0)])]),
⟨133, [(0, .cells 2 (puts .e 0 [.nilslice, .nilslice]) 0 false),
(1, .cells 2 (puts .e 0 [(.int .i64 0), (.int .i64 0)]) 0 false),
(103, .cells 5 (puts .e 0 [(.int .i64 1), (.int .i64 0), (.int .i64 34), (.str [97]), .nilslice]) 0 false),
(109, .cells 10 (puts .e 0 [(.int .i64 1), (.int .i64 0), (.int .i64 29), (.str [97]), .nilslice, (.int .i64 2), (.int .i64 0), (.int .i64 34), (.str [108, 105, 115, 116]), (.slice (pa 103) 0 1 1)]) 0 false),
(111, .cells 5 (puts .e 0 [(.int .i64 3), (.int .i64 0), (.int .i64 29), (.str []), (.slice (pa 109) 0 2 2)]) 0 false),
(113, .cells 15 (puts .e 0 [(.int .i64 1), (.int .i64 0), (.int .i64 5), (.str [97]), .nilslice, (.int .i64 47), (.int .i64 0), (.int .i64 15), (.str [78, 105, 108]), .nilslice, (.int .i64 47), (.int .i64 0), (.int .i64 21), (.str [67, 111, 110, 115]), (.slice (pa 111) 0 1 1)]) 5 false),
(132, .cells 5 (puts .e 0 [(.int .i64 50), (.int .i64 1), (.int .i64 0), (.str [108, 105, 115, 116]), (.gslice (pa 113) 0 3 0)]) 5 false)]⟩⟩
set_option maxRecDepth 100000 in
theorem snap0_good : snap0.good ctx 100000 16 = true := by kernel_rfl
set_option maxRecDepth 100000 in
/-- gimlet/infer.Program, at 7529 -/
noncomputable def snap1 : Snap := ⟨[(.gslice (pa 132) 0 1 0)],
⟨134, [(0, .cells 2 (puts .e 0 [.nilslice, .nilslice]) 0 false),
(1, .cells 2 (puts .e 0 [(.int .i64 0), (.int .i64 0)]) 0 false),
(103, .cells 5 (puts .e 0 [(.int .i64 1), (.int .i64 0), (.int .i64 34), (.str [97]), .nilslice]) 0 false),
(109, .cells 10 (puts .e 0 [(.int .i64 1), (.int .i64 0), (.int .i64 29), (.str [97]), .nilslice, (.int .i64 2), (.int .i64 0), (.int .i64 34), (.str [108, 105, 115, 116]), (.slice (pa 103) 0 1 1)]) 0 false),
(111, .cells 5 (puts .e 0 [(.int .i64 3), (.int .i64 0), (.int .i64 29), (.str []), (.slice (pa 109) 0 2 2)]) 0 false),
(113, .cells 15 (puts .e 0 [(.int .i64 1), (.int .i64 0), (.int .i64 5), (.str [97]), .nilslice, (.int .i64 47), (.int .i64 0), (.int .i64 15), (.str [78, 105, 108]), .nilslice, (.int .i64 47), (.int .i64 0), (.int .i64 21), (.str [67, 111, 110, 115]), (.slice (pa 111) 0 1 1)]) 5 false),
(132, .cells 5 (puts .e 0 [(.int .i64 50), (.int .i64 1), (.int .i64 0), (.str [108, 105, 115, 116]), (.gslice (pa 113) 0 3 0)]) 5 false),
(133, .cells 2 (puts .e 0 [(.int .i64 0), (.int .i64 0)]) 0 false)]⟩,
(.tuple [(.agg [(.gslice (pa 642) 0 2 0), .nilslice]), (.agg [(.int .i64 0), (.int .i64 0)])]),
⟨696, [(0, .cells 2 (puts .e 0 [.nilslice, .nilslice]) 0 false),
(1, .cells 2 (puts .e 0 [(.int .i64 0), (.int .i64 0)]) 0 false),
(103, .cells 5 (puts .e 0 [(.int .i64 1), (.int .i64 0), (.int .i64 34), (.str [97]), .nilslice]) 0 false),
(109, .cells 10 (puts .e 0 [(.int .i64 1), (.int .i64 0), (.int .i64 29), (.str [97]), .nilslice, (.int .i64 2), (.int .i64 0), (.int .i64 34), (.str [108, 105, 115, 116]), (.slice (pa 103) 0 1 1)]) 0 false),
(111, .cells 5 (puts .e 0 [(.int .i64 3), (.int .i64 0), (.int .i64 29), (.str []), (.slice (pa 109) 0 2 2)]) 0 false),
(113, .cells 15 (puts .e 0 [(.int .i64 1), (.int .i64 0), (.int .i64 5), (.str [97]), .nilslice, (.int .i64 47), (.int .i64 0), (.int .i64 15), (.str [78, 105, 108]), .nilslice, (.int .i64 47), (.int .i64 0), (.int .i64 21), (.str [67, 111, 110, 115]), (.slice (pa 111) 0 1 1)]) 5 false),
(132, .cells 5 (puts .e 0 [(.int .i64 50), (.int .i64 1), (.int .i64 0), (.str [108, 105, 115, 116]), (.gslice (pa 113) 0 3 0)]) 5 false),
(133, .cells 2 (puts .e 0 [(.int .i64 0), (.int .i64 0)]) 0 false),
(578, .cells 4 (puts .e 0 [(.int .i64 1), (.int .i64 0), (.str []), .nilslice]) 4 false),
(605, .cells 8 (puts .e 0 [(.int .i64 1), (.int .i64 0), (.str []), .nilslice, (.int .i64 2), (.int .i64 0), (.str [108, 105, 115, 116]), (.gslice (pa 578) 0 1 0)]) 4 false),
(640, .cells 4 (puts .e 0 [(.int .i64 2), (.int .i64 0), (.str [42]), (.gslice (pa 605) 0 2 0)]) 4 false),
(642, .cells 10 (puts .e 0 [(.str [78, 105, 108]), (.str [108, 105, 115, 116]), (.int .i64 0), (.int .i64 1), .nilslice, (.str [67, 111, 110, 115]), (.str [108, 105, 115, 116]), (.int .i64 1), (.int .i64 1), (.gslice (pa 640) 0 1 0)]) 5 false)]⟩⟩
set_option maxRecDepth 100000 in
theorem snap1_good : snap1.good ctx 100000 17 = true := by kernel_rfl
end Go.Proofs.YthcgdbgkofflnaaGreatDoor
