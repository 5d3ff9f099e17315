/- The abstract machine and its walks (a verified interpreter of the model's code: plain definitions and lemmas, no condition). Printed by a program from longer texts: names made short. -/
import Derived.Test.YtjbiefneffiogaaGreatM3
import Derived.Test.YtjbiefneffiogaaGreatM5
set_option linter.unusedSectionVars false
set_option linter.unusedSimpArgs false
set_option linter.unusedVariables false
namespace Go.Proofs.YtjbiefneffiogaaGreat.bs
variable [Lay]
set_option linter.defProp false
open Go Go.RowKit
def bf:=And.intro agy (And.intro agz (And.intro @hN.eq_1 (And.intro @hN.eq_2 (And.intro @bp.hY.eq_1 (And.intro @bp.hY.eq_2 (And.intro @og.eq_1 (And.intro @og.eq_2 (And.intro @og.eq_3 (And.intro @fJ.eq_1 (And.intro @fJ.eq_2 (And.intro @fJ.eq_3 (And.intro @gv.eq_1 (@gv.eq_2)))))))))))))
def ae:=And.intro bf (And.intro @cN.ends.eq_1 (And.intro @cN.ends.eq_2 (And.intro @eZ.eq_1 (And.intro @eZ.eq_2 (And.intro @eZ.eq_3 (And.intro @eZ.eq_4 (And.intro @oneOf.eq_1 (And.intro @oneOf.eq_2 top.eq_1))))))))
end Go.Proofs.YtjbiefneffiogaaGreat.bs
