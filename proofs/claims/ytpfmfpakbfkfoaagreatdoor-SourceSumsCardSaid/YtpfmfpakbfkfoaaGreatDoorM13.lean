/- The chapter's functions, walked by the abstract machine: plain lemmas, no condition. -/
import Derived.Test.YtpfmfpakbfkfoaaGreatDoorM6
set_option linter.unusedSectionVars false
set_option linter.unusedSimpArgs false
set_option linter.unusedVariables false

namespace Go.Proofs.YtpfmfpakbfkfoaaGreatDoor
open Go Am
set_option maxRecDepth 100000 in
/-- rem0: source.Run -/
noncomputable def sn_rem0 : Snap := ⟨[(.slice (pa 6) 0 1 1), .nilslice, (.int .i64 9)],
⟨7, [(0, .cells 8 (puts .e 0 [(.str [43]), (.str [45]), (.str [42]), (.str [47]), (.str [109, 111, 100]), (.str [61]), (.str [60]), (.str [60, 61])]) 0 false),
(1, .cells 5 (puts .e 0 [(.int .i64 20), (.sym .i64 1), (.int .i64 0), (.str []), .nilslice]) 0 false),
(2, .cells 5 (puts .e 0 [(.int .i64 20), (.sym .i64 2), (.int .i64 0), (.str []), .nilslice]) 0 false),
(3, .cells 10 (puts .e 0 [(.int .i64 20), (.sym .i64 1), (.int .i64 0), (.str []), .nilslice, (.int .i64 20), (.sym .i64 2), (.int .i64 0), (.str []), .nilslice]) 0 false),
(4, .cells 10 (puts .e 0 [(.int .i64 10), (.int .i64 0), (.int .i64 0), (.str []), .nilslice, (.int .i64 38), (.int .i64 0), (.int .i64 0), (.str [109, 111, 100]), (.slice (pa 3) 0 2 2)]) 0 false),
(5, .cells 5 (puts .e 0 [(.int .i64 52), (.int .i64 0), (.int .i64 0), (.str []), (.slice (pa 4) 0 2 2)]) 0 false),
(6, .cells 5 (puts .e 0 [(.int .i64 52), (.int .i64 0), (.int .i64 0), (.str []), (.slice (pa 4) 0 2 2)]) 0 false)]⟩,
(.agg [(.int .i64 1), (.int .i64 1), (.int .i64 0), (.int .i64 3), .nilslice]),
⟨547, [(0, .cells 8 (puts .e 0 [(.str [43]), (.str [45]), (.str [42]), (.str [47]), (.str [109, 111, 100]), (.str [61]), (.str [60]), (.str [60, 61])]) 0 false),
(1, .cells 5 (puts .e 0 [(.int .i64 20), (.sym .i64 1), (.int .i64 0), (.str []), .nilslice]) 0 false),
(2, .cells 5 (puts .e 0 [(.int .i64 20), (.sym .i64 2), (.int .i64 0), (.str []), .nilslice]) 0 false),
(3, .cells 10 (puts .e 0 [(.int .i64 20), (.sym .i64 1), (.int .i64 0), (.str []), .nilslice, (.int .i64 20), (.sym .i64 2), (.int .i64 0), (.str []), .nilslice]) 0 false),
(4, .cells 10 (puts .e 0 [(.int .i64 10), (.int .i64 0), (.int .i64 0), (.str []), .nilslice, (.int .i64 38), (.int .i64 0), (.int .i64 0), (.str [109, 111, 100]), (.slice (pa 3) 0 2 2)]) 0 false),
(5, .cells 5 (puts .e 0 [(.int .i64 52), (.int .i64 0), (.int .i64 0), (.str []), (.slice (pa 4) 0 2 2)]) 0 false),
(6, .cells 5 (puts .e 0 [(.int .i64 52), (.int .i64 0), (.int .i64 0), (.str []), (.slice (pa 4) 0 2 2)]) 0 false)]⟩⟩
set_option maxRecDepth 100000 in
theorem sn_rem0_good (val : Nat → Int) (r : Int) (fine) (fair) : @Snap.good (@lay ⟨val, base r ++ zer true, [], fine, fair⟩) ctx 100000 7 sn_rem0 = true := by kernel_rfl
end Go.Proofs.YtpfmfpakbfkfoaaGreatDoor
