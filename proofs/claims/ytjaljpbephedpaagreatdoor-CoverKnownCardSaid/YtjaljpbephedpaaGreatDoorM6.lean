/- The chapter's functions, walked by the abstract machine: plain lemmas, no condition. -/
import Derived.Test.YtjaljpbephedpaaGreatDoorM5
import Derived.Test.YtjaljpbephedpaaGreatDoorM4

namespace Go.Proofs.YtjaljpbephedpaaGreatDoor
open Go Am
set_option maxRecDepth 100000 in
/-- gimlet/cover.Missing, at 17 -/
noncomputable def snap0 : Snap := ⟨[.nilslice, (.slice (pa 3) 0 2 2)],
⟨4, [(0, .cells 5 (puts .e 0 [(.int .i64 14), (.int .i64 0), (.int .i64 0), (.str []), .nilslice]) 0 false),
(1, .cells 5 (puts .e 0 [(.int .i64 14), (.int .i64 0), (.int .i64 0), (.str []), .nilslice]) 0 false),
(2, .cells 5 (puts .e 0 [(.int .i64 14), (.int .i64 1), (.int .i64 0), (.str []), .nilslice]) 0 false),
(3, .cells 10 (puts .e 0 [(.int .i64 14), (.int .i64 1), (.int .i64 0), (.str []), .nilslice, (.int .i64 14), (.int .i64 0), (.int .i64 0), (.str []), .nilslice]) 0 false)]⟩,
(.tuple [(.agg [(.int .i64 0), (.int .i64 0), (.int .i64 0), (.str []), .nilslice]), (.bool false), (.int .i64 0)]),
⟨140, [(0, .cells 5 (puts .e 0 [(.int .i64 14), (.int .i64 0), (.int .i64 0), (.str []), .nilslice]) 0 false),
(1, .cells 5 (puts .e 0 [(.int .i64 14), (.int .i64 0), (.int .i64 0), (.str []), .nilslice]) 0 false),
(2, .cells 5 (puts .e 0 [(.int .i64 14), (.int .i64 1), (.int .i64 0), (.str []), .nilslice]) 0 false),
(3, .cells 10 (puts .e 0 [(.int .i64 14), (.int .i64 1), (.int .i64 0), (.str []), .nilslice, (.int .i64 14), (.int .i64 0), (.int .i64 0), (.str []), .nilslice]) 0 false)]⟩⟩
set_option maxRecDepth 100000 in
theorem snap0_good : snap0.good ctx 100000 5 = true := by kernel_rfl
set_option maxRecDepth 100000 in
/-- gimlet/cover.Missing, at 2246 -/
noncomputable def snap1 : Snap := ⟨[.nilslice, (.slice (pa 142) 0 1 1)],
⟨143, [(0, .cells 5 (puts .e 0 [(.int .i64 14), (.int .i64 0), (.int .i64 0), (.str []), .nilslice]) 0 false),
(1, .cells 5 (puts .e 0 [(.int .i64 14), (.int .i64 0), (.int .i64 0), (.str []), .nilslice]) 0 false),
(2, .cells 5 (puts .e 0 [(.int .i64 14), (.int .i64 1), (.int .i64 0), (.str []), .nilslice]) 0 false),
(3, .cells 10 (puts .e 0 [(.int .i64 14), (.int .i64 1), (.int .i64 0), (.str []), .nilslice, (.int .i64 14), (.int .i64 0), (.int .i64 0), (.str []), .nilslice]) 0 false),
(140, .cells 5 (puts .e 0 [(.int .i64 0), (.int .i64 0), (.int .i64 0), (.str []), .nilslice]) 0 false),
(141, .cells 5 (puts .e 0 [(.int .i64 13), (.int .i64 0), (.int .i64 0), (.str []), .nilslice]) 0 false),
(142, .cells 5 (puts .e 0 [(.int .i64 13), (.int .i64 0), (.int .i64 0), (.str []), .nilslice]) 0 false)]⟩,
(.tuple [(.agg [(.int .i64 0), (.int .i64 0), (.int .i64 0), (.str []), .nilslice]), (.bool false), (.int .i64 0)]),
⟨214, [(0, .cells 5 (puts .e 0 [(.int .i64 14), (.int .i64 0), (.int .i64 0), (.str []), .nilslice]) 0 false),
(1, .cells 5 (puts .e 0 [(.int .i64 14), (.int .i64 0), (.int .i64 0), (.str []), .nilslice]) 0 false),
(2, .cells 5 (puts .e 0 [(.int .i64 14), (.int .i64 1), (.int .i64 0), (.str []), .nilslice]) 0 false),
(3, .cells 10 (puts .e 0 [(.int .i64 14), (.int .i64 1), (.int .i64 0), (.str []), .nilslice, (.int .i64 14), (.int .i64 0), (.int .i64 0), (.str []), .nilslice]) 0 false),
(140, .cells 5 (puts .e 0 [(.int .i64 0), (.int .i64 0), (.int .i64 0), (.str []), .nilslice]) 0 false),
(141, .cells 5 (puts .e 0 [(.int .i64 13), (.int .i64 0), (.int .i64 0), (.str []), .nilslice]) 0 false),
(142, .cells 5 (puts .e 0 [(.int .i64 13), (.int .i64 0), (.int .i64 0), (.str []), .nilslice]) 0 false)]⟩⟩
set_option maxRecDepth 100000 in
theorem snap1_good : snap1.good ctx 100000 5 = true := by kernel_rfl
set_option maxRecDepth 100000 in
/-- gimlet/cover.Missing, at 3442 -/
noncomputable def snap2 : Snap := ⟨[(.slice (pa 216) 0 2 2), (.slice (pa 224) 0 2 2)],
⟨225, [(0, .cells 5 (puts .e 0 [(.int .i64 14), (.int .i64 0), (.int .i64 0), (.str []), .nilslice]) 0 false),
(1, .cells 5 (puts .e 0 [(.int .i64 14), (.int .i64 0), (.int .i64 0), (.str []), .nilslice]) 0 false),
(2, .cells 5 (puts .e 0 [(.int .i64 14), (.int .i64 1), (.int .i64 0), (.str []), .nilslice]) 0 false),
(3, .cells 10 (puts .e 0 [(.int .i64 14), (.int .i64 1), (.int .i64 0), (.str []), .nilslice, (.int .i64 14), (.int .i64 0), (.int .i64 0), (.str []), .nilslice]) 0 false),
(140, .cells 5 (puts .e 0 [(.int .i64 0), (.int .i64 0), (.int .i64 0), (.str []), .nilslice]) 0 false),
(141, .cells 5 (puts .e 0 [(.int .i64 13), (.int .i64 0), (.int .i64 0), (.str []), .nilslice]) 0 false),
(142, .cells 5 (puts .e 0 [(.int .i64 13), (.int .i64 0), (.int .i64 0), (.str []), .nilslice]) 0 false),
(214, .cells 5 (puts .e 0 [(.int .i64 0), (.int .i64 0), (.int .i64 0), (.str []), .nilslice]) 0 false),
(215, .cells 4 (puts .e 0 [(.int .i64 2), (.int .i64 0), (.str [105, 110, 116]), .nilslice]) 0 false),
(216, .cells 10 (puts .e 0 [(.str [78, 105, 108]), (.str [108, 105, 115, 116]), (.int .i64 0), (.int .i64 0), .nilslice, (.str [67, 111, 110, 115]), (.str [108, 105, 115, 116]), (.int .i64 1), (.int .i64 0), (.slice (pa 215) 0 1 1)]) 0 false),
(217, .cells 5 (puts .e 0 [(.int .i64 16), (.int .i64 0), (.int .i64 0), (.str [78, 105, 108]), .nilslice]) 0 false),
(218, .cells 5 (puts .e 0 [(.int .i64 10), (.int .i64 0), (.int .i64 0), (.str []), .nilslice]) 0 false),
(219, .cells 5 (puts .e 0 [(.int .i64 16), (.int .i64 0), (.int .i64 0), (.str [78, 105, 108]), .nilslice]) 0 false),
(220, .cells 10 (puts .e 0 [(.int .i64 10), (.int .i64 0), (.int .i64 0), (.str []), .nilslice, (.int .i64 16), (.int .i64 0), (.int .i64 0), (.str [78, 105, 108]), .nilslice]) 0 false),
(221, .cells 5 (puts .e 0 [(.int .i64 15), (.int .i64 0), (.int .i64 0), (.str []), (.slice (pa 220) 0 2 2)]) 0 false),
(222, .cells 5 (puts .e 0 [(.int .i64 15), (.int .i64 0), (.int .i64 0), (.str []), (.slice (pa 220) 0 2 2)]) 0 false),
(223, .cells 5 (puts .e 0 [(.int .i64 16), (.int .i64 0), (.int .i64 0), (.str [67, 111, 110, 115]), (.slice (pa 222) 0 1 1)]) 0 false),
(224, .cells 10 (puts .e 0 [(.int .i64 16), (.int .i64 0), (.int .i64 0), (.str [78, 105, 108]), .nilslice, (.int .i64 16), (.int .i64 0), (.int .i64 0), (.str [67, 111, 110, 115]), (.slice (pa 222) 0 1 1)]) 0 false)]⟩,
(.tuple [(.agg [(.int .i64 16), (.int .i64 0), (.int .i64 0), (.str [67, 111, 110, 115]), (.slice (pa 607) 0 1 1)]), (.bool true), (.int .i64 0)]),
⟨610, [(0, .cells 5 (puts .e 0 [(.int .i64 14), (.int .i64 0), (.int .i64 0), (.str []), .nilslice]) 0 false),
(1, .cells 5 (puts .e 0 [(.int .i64 14), (.int .i64 0), (.int .i64 0), (.str []), .nilslice]) 0 false),
(2, .cells 5 (puts .e 0 [(.int .i64 14), (.int .i64 1), (.int .i64 0), (.str []), .nilslice]) 0 false),
(3, .cells 10 (puts .e 0 [(.int .i64 14), (.int .i64 1), (.int .i64 0), (.str []), .nilslice, (.int .i64 14), (.int .i64 0), (.int .i64 0), (.str []), .nilslice]) 0 false),
(140, .cells 5 (puts .e 0 [(.int .i64 0), (.int .i64 0), (.int .i64 0), (.str []), .nilslice]) 0 false),
(141, .cells 5 (puts .e 0 [(.int .i64 13), (.int .i64 0), (.int .i64 0), (.str []), .nilslice]) 0 false),
(142, .cells 5 (puts .e 0 [(.int .i64 13), (.int .i64 0), (.int .i64 0), (.str []), .nilslice]) 0 false),
(214, .cells 5 (puts .e 0 [(.int .i64 0), (.int .i64 0), (.int .i64 0), (.str []), .nilslice]) 0 false),
(215, .cells 4 (puts .e 0 [(.int .i64 2), (.int .i64 0), (.str [105, 110, 116]), .nilslice]) 0 false),
(216, .cells 10 (puts .e 0 [(.str [78, 105, 108]), (.str [108, 105, 115, 116]), (.int .i64 0), (.int .i64 0), .nilslice, (.str [67, 111, 110, 115]), (.str [108, 105, 115, 116]), (.int .i64 1), (.int .i64 0), (.slice (pa 215) 0 1 1)]) 0 false),
(217, .cells 5 (puts .e 0 [(.int .i64 16), (.int .i64 0), (.int .i64 0), (.str [78, 105, 108]), .nilslice]) 0 false),
(218, .cells 5 (puts .e 0 [(.int .i64 10), (.int .i64 0), (.int .i64 0), (.str []), .nilslice]) 0 false),
(219, .cells 5 (puts .e 0 [(.int .i64 16), (.int .i64 0), (.int .i64 0), (.str [78, 105, 108]), .nilslice]) 0 false),
(220, .cells 10 (puts .e 0 [(.int .i64 10), (.int .i64 0), (.int .i64 0), (.str []), .nilslice, (.int .i64 16), (.int .i64 0), (.int .i64 0), (.str [78, 105, 108]), .nilslice]) 0 false),
(221, .cells 5 (puts .e 0 [(.int .i64 15), (.int .i64 0), (.int .i64 0), (.str []), (.slice (pa 220) 0 2 2)]) 0 false),
(222, .cells 5 (puts .e 0 [(.int .i64 15), (.int .i64 0), (.int .i64 0), (.str []), (.slice (pa 220) 0 2 2)]) 0 false),
(223, .cells 5 (puts .e 0 [(.int .i64 16), (.int .i64 0), (.int .i64 0), (.str [67, 111, 110, 115]), (.slice (pa 222) 0 1 1)]) 0 false),
(224, .cells 10 (puts .e 0 [(.int .i64 16), (.int .i64 0), (.int .i64 0), (.str [78, 105, 108]), .nilslice, (.int .i64 16), (.int .i64 0), (.int .i64 0), (.str [67, 111, 110, 115]), (.slice (pa 222) 0 1 1)]) 0 false),
(600, .cells 5 (puts .e 0 [(.int .i64 10), (.int .i64 0), (.int .i64 0), (.str []), .nilslice]) 5 false),
(605, .cells 10 (puts .e 0 [(.int .i64 10), (.int .i64 0), (.int .i64 0), (.str []), .nilslice, (.int .i64 16), (.int .i64 0), (.int .i64 0), (.str [67, 111, 110, 115]), (.gslice (pa 600) 0 1 0)]) 5 false),
(607, .cells 5 (puts .e 0 [(.int .i64 15), (.int .i64 0), (.int .i64 0), (.str []), (.slice (pa 605) 0 2 2)]) 0 false)]⟩⟩
set_option maxRecDepth 100000 in
theorem snap2_good : snap2.good ctx 100000 5 = true := by kernel_rfl
end Go.Proofs.YtjaljpbephedpaaGreatDoor
