/- The abstract machine and its walks (a verified interpreter of the model's code: plain definitions and lemmas, no condition). Printed by a program from longer texts: names made short. -/
import Derived.Test.YtjbiefneffiogaaGreatM3
import Derived.Test.YtjbiefneffiogaaGreatM5
set_option linter.unusedSectionVars false
set_option linter.unusedSimpArgs false
set_option linter.unusedVariables false
namespace Go.Proofs.YtjbiefneffiogaaGreat.ba
variable [Lay]
set_option linter.defProp false
open Go Go.RowKit
def a2:=And.intro adh (And.intro adi (And.intro @gr.eq_1 (And.intro @gr.eq_2 (And.intro @aZ.gH.eq_1 (And.intro @aZ.gH.eq_2 (And.intro @l8.eq_1 (And.intro @l8.eq_2 (And.intro @l8.eq_3 (And.intro @hF.eq_1 (And.intro @hF.eq_2 (And.intro @hF.eq_3 (And.intro @fg.eq_1 (@fg.eq_2)))))))))))))
def aq:=And.intro a2 (And.intro @cr.ends.eq_1 (And.intro @cr.ends.eq_2 (And.intro @dS.eq_1 (And.intro @dS.eq_2 (And.intro @dS.eq_3 (And.intro @dS.eq_4 (And.intro @oneOf.eq_1 (And.intro @oneOf.eq_2 top.eq_1))))))))
end Go.Proofs.YtjbiefneffiogaaGreat.ba
