/- The abstract machine and its walks (a verified interpreter of the model's code: plain definitions and lemmas, no condition). -/
import Derived.Test.YtjbiefneffiogaaGreatM4
import Derived.Test.YtjbiefneffiogaaGreatM6
set_option linter.unusedSectionVars false
set_option linter.unusedSimpArgs false
set_option linter.unusedVariables false

namespace Go.Proofs.YtjbiefneffiogaaGreat.Am
variable [Lay]
set_option linter.defProp false
open Go Go.RowKit
def wC := And.intro wB (And.intro wZ (And.intro @repeatV.eq_1 (And.intro @repeatV.eq_2 (And.intro @RX.evs.eq_1 (And.intro @RX.evs.eq_2 (And.intro @spl.eq_1 (And.intro @spl.eq_2 (And.intro @spl.eq_3 (And.intro @over.eq_1 (And.intro @over.eq_2 (And.intro @over.eq_3 (And.intro @ones.eq_1 (@ones.eq_2)))))))))))))
end Go.Proofs.YtjbiefneffiogaaGreat.Am
