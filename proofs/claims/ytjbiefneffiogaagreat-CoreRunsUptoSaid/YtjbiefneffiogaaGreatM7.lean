/- The abstract machine and its walks (a verified interpreter of the model's code: plain definitions and lemmas, no condition). Printed by a program from longer texts: names made short. -/
import Derived.Test.YtjbiefneffiogaaGreatM3
import Derived.Test.YtjbiefneffiogaaGreatM5
set_option linter.unusedSectionVars false
set_option linter.unusedSimpArgs false
set_option linter.unusedVariables false
namespace Go.Proofs.YtjbiefneffiogaaGreat.bA
variable [Lay]
set_option linter.defProp false
open Go Go.RowKit
def bj:=And.intro ag1 (And.intro ag2 (And.intro @hP.eq_1 (And.intro @hP.eq_2 (And.intro @bs.h7.eq_1 (And.intro @bs.h7.eq_2 (And.intro @ot.eq_1 (And.intro @ot.eq_2 (And.intro @ot.eq_3 (And.intro @fQ.eq_1 (And.intro @fQ.eq_2 (And.intro @fQ.eq_3 (And.intro @gh.eq_1 (@gh.eq_2)))))))))))))
def af:=And.intro bj (And.intro @cW.ends.eq_1 (And.intro @cW.ends.eq_2 (And.intro @fb.eq_1 (And.intro @fb.eq_2 (And.intro @fb.eq_3 (And.intro @fb.eq_4 (And.intro @oneOf.eq_1 (And.intro @oneOf.eq_2 top.eq_1))))))))
end Go.Proofs.YtjbiefneffiogaaGreat.bA
