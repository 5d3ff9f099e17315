/- The chapter's functions, walked by the abstract machine: plain lemmas, no condition. -/
import Derived.Test.YtabfojpbldflcaaGreatDoorM10

namespace Go.Proofs.YtabfojpbldflcaaGreatDoor
open Go Am
set_option maxRecDepth 100000 in
/-- gimlet/gimletlaw22.does, at 116235 -/
noncomputable def snap9 : Snap := ⟨[(.str [108, 101, 116, 32, 120, 32, 61, 32, 112, 117, 116, 99, 32, 40, 103, 101, 116, 99, 32, 40, 41, 41, 32, 59, 59]), (.slice (pa 3340) 0 1 1), (.agg [(.int .i64 0), (.int .i64 0), (.int .i64 1), (.int .i64 5), (.slice (pa 3341) 0 1 1)])],
⟨3342, [(2701, .cells 10 (puts .e 0 [(.int .i64 20), (.int .i64 1), (.int .i64 9), (.str []), .nilslice, (.int .i64 20), (.int .i64 2), (.int .i64 12), (.str []), .nilslice]) 0 false),
(2725, .cells 10 (puts .e 0 [(.int .i64 11), (.int .i64 0), (.int .i64 4), (.str [112]), .nilslice, (.int .i64 26), (.int .i64 0), (.int .i64 9), (.str []), (.slice (pa 2701) 0 2 2)]) 0 false),
(2738, .cells 5 (puts .e 0 [(.int .i64 52), (.int .i64 0), (.int .i64 0), (.str []), (.slice (pa 2725) 0 2 2)]) 5 false),
(2739, .cells 2 (puts .e 0 [(.int .i64 0), (.int .i64 0)]) 0 false),
(3340, .cells 1 (puts .e 0 [(.int .u8 65)]) 0 false),
(3341, .cells 1 (puts .e 0 [(.int .u8 65)]) 0 false)]⟩,
(.bool true),
⟨4168, [(2701, .cells 10 (puts .e 0 [(.int .i64 20), (.int .i64 1), (.int .i64 9), (.str []), .nilslice, (.int .i64 20), (.int .i64 2), (.int .i64 12), (.str []), .nilslice]) 0 false),
(2725, .cells 10 (puts .e 0 [(.int .i64 11), (.int .i64 0), (.int .i64 4), (.str [112]), .nilslice, (.int .i64 26), (.int .i64 0), (.int .i64 9), (.str []), (.slice (pa 2701) 0 2 2)]) 0 false),
(2738, .cells 5 (puts .e 0 [(.int .i64 52), (.int .i64 0), (.int .i64 0), (.str []), (.slice (pa 2725) 0 2 2)]) 5 false),
(2739, .cells 2 (puts .e 0 [(.int .i64 0), (.int .i64 0)]) 0 false),
(3340, .cells 1 (puts .e 0 [(.int .u8 65)]) 0 false),
(3341, .cells 1 (puts .e 0 [(.int .u8 65)]) 0 false)]⟩⟩
set_option maxRecDepth 100000 in
theorem snap9_good : snap9.good ctx 100000 14 = true := by kernel_rfl
end Go.Proofs.YtabfojpbldflcaaGreatDoor
