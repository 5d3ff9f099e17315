/- The chapter's functions, walked by the abstract machine: plain lemmas, no condition. -/
import Derived.Test.YtpfmfpakbfkfoaaGreatDoorM6
set_option linter.unusedSectionVars false
set_option linter.unusedSimpArgs false
set_option linter.unusedVariables false

namespace Go.Proofs.YtpfmfpakbfkfoaaGreatDoor
open Go Am
set_option maxRecDepth 100000 in
/-- ltT: source.Run -/
noncomputable def sn_ltT : Snap := ⟨[(.slice (pa 13) 0 1 1), .nilslice, (.int .i64 50)],
⟨14, [(0, .cells 8 (puts .e 0 [(.str [43]), (.str [45]), (.str [42]), (.str [47]), (.str [109, 111, 100]), (.str [61]), (.str [60]), (.str [60, 61])]) 0 false),
(1, .cells 5 (puts .e 0 [(.int .i64 20), (.sym .i64 1), (.int .i64 0), (.str []), .nilslice]) 0 false),
(2, .cells 5 (puts .e 0 [(.int .i64 20), (.sym .i64 2), (.int .i64 0), (.str []), .nilslice]) 0 false),
(3, .cells 10 (puts .e 0 [(.int .i64 20), (.sym .i64 1), (.int .i64 0), (.str []), .nilslice, (.int .i64 20), (.sym .i64 2), (.int .i64 0), (.str []), .nilslice]) 0 false),
(4, .cells 5 (puts .e 0 [(.int .i64 31), (.int .i64 0), (.int .i64 0), (.str []), (.slice (pa 5) 0 3 3)]) 0 false),
(5, .cells 15 (puts .e 0 [(.int .i64 38), (.int .i64 0), (.int .i64 0), (.str [60]), (.slice (pa 3) 0 2 2), (.int .i64 20), (.int .i64 1), (.int .i64 0), (.str []), .nilslice, (.int .i64 20), (.int .i64 0), (.int .i64 0), (.str []), .nilslice]) 0 false),
(6, .cells 10 (puts .e 0 [(.int .i64 31), (.int .i64 0), (.int .i64 0), (.str []), (.slice (pa 5) 0 3 3), (.int .i64 20), (.int .i64 1), (.int .i64 0), (.str []), .nilslice]) 0 false),
(7, .cells 5 (puts .e 0 [(.int .i64 38), (.int .i64 0), (.int .i64 0), (.str [61]), (.slice (pa 6) 0 2 2)]) 0 false),
(8, .cells 15 (puts .e 0 [(.int .i64 38), (.int .i64 0), (.int .i64 0), (.str [61]), (.slice (pa 6) 0 2 2), (.int .i64 20), (.int .i64 89), (.int .i64 0), (.str []), .nilslice, (.int .i64 20), (.int .i64 78), (.int .i64 0), (.str []), .nilslice]) 0 false),
(9, .cells 10 (puts .e 0 [(.int .i64 24), (.int .i64 0), (.int .i64 0), (.str [112, 117, 116, 99]), .nilslice, (.int .i64 31), (.int .i64 0), (.int .i64 0), (.str []), (.slice (pa 8) 0 3 3)]) 0 false),
(10, .cells 5 (puts .e 0 [(.int .i64 28), (.int .i64 0), (.int .i64 0), (.str []), (.slice (pa 9) 0 2 2)]) 0 false),
(11, .cells 10 (puts .e 0 [(.int .i64 10), (.int .i64 0), (.int .i64 0), (.str []), .nilslice, (.int .i64 28), (.int .i64 0), (.int .i64 0), (.str []), (.slice (pa 9) 0 2 2)]) 0 false),
(12, .cells 5 (puts .e 0 [(.int .i64 52), (.int .i64 0), (.int .i64 0), (.str []), (.slice (pa 11) 0 2 2)]) 0 false),
(13, .cells 5 (puts .e 0 [(.int .i64 52), (.int .i64 0), (.int .i64 0), (.str []), (.slice (pa 11) 0 2 2)]) 0 false)]⟩,
(.agg [(.int .i64 0), (.int .i64 0), (.int .i64 0), (.int .i64 11), (.gslice (pa 910) 0 1 0)]),
⟨913, [(0, .cells 8 (puts .e 0 [(.str [43]), (.str [45]), (.str [42]), (.str [47]), (.str [109, 111, 100]), (.str [61]), (.str [60]), (.str [60, 61])]) 0 false),
(1, .cells 5 (puts .e 0 [(.int .i64 20), (.sym .i64 1), (.int .i64 0), (.str []), .nilslice]) 0 false),
(2, .cells 5 (puts .e 0 [(.int .i64 20), (.sym .i64 2), (.int .i64 0), (.str []), .nilslice]) 0 false),
(3, .cells 10 (puts .e 0 [(.int .i64 20), (.sym .i64 1), (.int .i64 0), (.str []), .nilslice, (.int .i64 20), (.sym .i64 2), (.int .i64 0), (.str []), .nilslice]) 0 false),
(4, .cells 5 (puts .e 0 [(.int .i64 31), (.int .i64 0), (.int .i64 0), (.str []), (.slice (pa 5) 0 3 3)]) 0 false),
(5, .cells 15 (puts .e 0 [(.int .i64 38), (.int .i64 0), (.int .i64 0), (.str [60]), (.slice (pa 3) 0 2 2), (.int .i64 20), (.int .i64 1), (.int .i64 0), (.str []), .nilslice, (.int .i64 20), (.int .i64 0), (.int .i64 0), (.str []), .nilslice]) 0 false),
(6, .cells 10 (puts .e 0 [(.int .i64 31), (.int .i64 0), (.int .i64 0), (.str []), (.slice (pa 5) 0 3 3), (.int .i64 20), (.int .i64 1), (.int .i64 0), (.str []), .nilslice]) 0 false),
(7, .cells 5 (puts .e 0 [(.int .i64 38), (.int .i64 0), (.int .i64 0), (.str [61]), (.slice (pa 6) 0 2 2)]) 0 false),
(8, .cells 15 (puts .e 0 [(.int .i64 38), (.int .i64 0), (.int .i64 0), (.str [61]), (.slice (pa 6) 0 2 2), (.int .i64 20), (.int .i64 89), (.int .i64 0), (.str []), .nilslice, (.int .i64 20), (.int .i64 78), (.int .i64 0), (.str []), .nilslice]) 0 false),
(9, .cells 10 (puts .e 0 [(.int .i64 24), (.int .i64 0), (.int .i64 0), (.str [112, 117, 116, 99]), .nilslice, (.int .i64 31), (.int .i64 0), (.int .i64 0), (.str []), (.slice (pa 8) 0 3 3)]) 0 false),
(10, .cells 5 (puts .e 0 [(.int .i64 28), (.int .i64 0), (.int .i64 0), (.str []), (.slice (pa 9) 0 2 2)]) 0 false),
(11, .cells 10 (puts .e 0 [(.int .i64 10), (.int .i64 0), (.int .i64 0), (.str []), .nilslice, (.int .i64 28), (.int .i64 0), (.int .i64 0), (.str []), (.slice (pa 9) 0 2 2)]) 0 false),
(12, .cells 5 (puts .e 0 [(.int .i64 52), (.int .i64 0), (.int .i64 0), (.str []), (.slice (pa 11) 0 2 2)]) 0 false),
(13, .cells 5 (puts .e 0 [(.int .i64 52), (.int .i64 0), (.int .i64 0), (.str []), (.slice (pa 11) 0 2 2)]) 0 false),
(910, .cells 1 (puts .e 0 [(.int .u8 89)]) 1 false)]⟩⟩
set_option maxRecDepth 100000 in
theorem sn_ltT_good (val : Nat → Int) (r : Int) (fine) (fair) : @Snap.good (@lay ⟨val, base r ++ cmp .lss true, [], fine, fair⟩) ctx 100000 7 sn_ltT = true := by kernel_rfl
end Go.Proofs.YtpfmfpakbfkfoaaGreatDoor
