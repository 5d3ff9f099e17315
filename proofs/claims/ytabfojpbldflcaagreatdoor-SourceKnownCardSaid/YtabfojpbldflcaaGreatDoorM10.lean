/- The chapter's functions, walked by the abstract machine: plain lemmas, no condition. -/
import Derived.Test.YtabfojpbldflcaaGreatDoorM9

namespace Go.Proofs.YtabfojpbldflcaaGreatDoor
open Go Am
set_option maxRecDepth 100000 in
/-- gimlet/parse.Parse, at 97929 -/
noncomputable def snap7 : Snap := ⟨[(.str [108, 101, 116, 32, 112, 32, 61, 32, 40, 49, 44, 32, 50, 41, 32, 59, 59])],
⟨2572, []⟩,
(.tuple [(.gslice (pa 2738) 0 1 0), (.agg [(.int .i64 0), (.int .i64 0)])]),
⟨2739, [(2701, .cells 10 (puts .e 0 [(.int .i64 20), (.int .i64 1), (.int .i64 9), (.str []), .nilslice, (.int .i64 20), (.int .i64 2), (.int .i64 12), (.str []), .nilslice]) 0 false),
(2725, .cells 10 (puts .e 0 [(.int .i64 11), (.int .i64 0), (.int .i64 4), (.str [112]), .nilslice, (.int .i64 26), (.int .i64 0), (.int .i64 9), (.str []), (.slice (pa 2701) 0 2 2)]) 0 false),
(2738, .cells 5 (puts .e 0 [(.int .i64 52), (.int .i64 0), (.int .i64 0), (.str []), (.slice (pa 2725) 0 2 2)]) 5 false)]⟩⟩
set_option maxRecDepth 100000 in
theorem snap7_good : snap7.good ctx 100000 15 = true := by kernel_rfl
set_option maxRecDepth 100000 in
/-- gimlet/source.Need, at 106027 -/
noncomputable def snap8 : Snap := ⟨[(.gslice (pa 2738) 0 1 0), .nilslice, (.int .i64 100)],
⟨2740, [(2701, .cells 10 (puts .e 0 [(.int .i64 20), (.int .i64 1), (.int .i64 9), (.str []), .nilslice, (.int .i64 20), (.int .i64 2), (.int .i64 12), (.str []), .nilslice]) 0 false),
(2725, .cells 10 (puts .e 0 [(.int .i64 11), (.int .i64 0), (.int .i64 4), (.str [112]), .nilslice, (.int .i64 26), (.int .i64 0), (.int .i64 9), (.str []), (.slice (pa 2701) 0 2 2)]) 0 false),
(2738, .cells 5 (puts .e 0 [(.int .i64 52), (.int .i64 0), (.int .i64 0), (.str []), (.slice (pa 2725) 0 2 2)]) 5 false),
(2739, .cells 2 (puts .e 0 [(.int .i64 0), (.int .i64 0)]) 0 false)]⟩,
(.tuple [(.int .i64 4), (.int .i64 1)]),
⟨3340, [(2701, .cells 10 (puts .e 0 [(.int .i64 20), (.int .i64 1), (.int .i64 9), (.str []), .nilslice, (.int .i64 20), (.int .i64 2), (.int .i64 12), (.str []), .nilslice]) 0 false),
(2725, .cells 10 (puts .e 0 [(.int .i64 11), (.int .i64 0), (.int .i64 4), (.str [112]), .nilslice, (.int .i64 26), (.int .i64 0), (.int .i64 9), (.str []), (.slice (pa 2701) 0 2 2)]) 0 false),
(2738, .cells 5 (puts .e 0 [(.int .i64 52), (.int .i64 0), (.int .i64 0), (.str []), (.slice (pa 2725) 0 2 2)]) 5 false),
(2739, .cells 2 (puts .e 0 [(.int .i64 0), (.int .i64 0)]) 0 false)]⟩⟩
set_option maxRecDepth 100000 in
theorem snap8_good : snap8.good ctx 100000 16 = true := by kernel_rfl
end Go.Proofs.YtabfojpbldflcaaGreatDoor
