/-
  NARROWER THAN 'FOR EVERY INPUT', by the rows' own cells (each row's printed sentence says how): CoreRuns: loops · CoreChecks: loops · CoreNumbers: loops · CoreMore: loops · CoreAnew: loops.
  DERIVED. THE GIVEN ROWS OF THIS SEAT. 7 by the template 'for every input the law returns true; each argument reads behind the call as it read before'; 0 by the template 'total and deterministic' (their statements: YtjbiefneffiogaaGreatTotals.lean).
  GIVEN WITH THE SEED: the statements are not yours to turn. If you find one false, say at which input.
  Laid BY PROGRAM, IN A SANDBOX (cutbox-rows.mjs): the forced cells as the released guide's own fill.sh prints them over the translation b259677e2ac51f49… (all of the seat's roots in one cut). By AI agents, Wed Nov 11 2026. No macro, syntax, notation, axiom, sorry.
-/
import Derived.Test.YtjbiefneffiogaaGreatChecked
import GoSem.Claim
import GoSem.ClaimJoined
import GoSem.ClaimMapViews
import Derived.JoinedTies
import Derived.KernelRfl
namespace Go.Proofs.YtjbiefneffiogaaGreat
/- THE CELL 'sum', in the pinned program and in every row, IS THE sha256 OF THE DUMP (.gsa) THAT YtjbiefneffiogaaGreatProg.lean LOADS. Nothing in Lean hashes anything: it is a label: what it is worth is what the hold of that sum in a sandbox is worth. -/
noncomputable def Tryz.pinned : Pinned := { name := "ytjbiefneffiogaagreat", sum := "b259677e2ac51f49685adb84594dd22b099201c1dcb90820ab0d05aa175d14d7", checked := Tryz.checked }
namespace Rows
def none {H : Type} : Left H := { results := [], args := [] }

/-- 'gimletlaw25.CoreRuns': WHATEVER THE INPUT: true; the input reads as it did. -/
def coreRunsSpec : ChangeSpec := { name := "coreRuns", fn := fun _ => fun
  | [d1, d2, d3] => { results := [.lit (.bool true)], args := [d1, d2, d3] }
  | _ => none }
def coreRunsRow : OpenClaim := { program := "ytjbiefneffiogaagreat", sum := "b259677e2ac51f49685adb84594dd22b099201c1dcb90820ab0d05aa175d14d7", func := "gimlet/gimletlaw25.CoreRuns", spec := "coreRuns", unfollowed := true, recurses := true, loops := true, apart := false }
def CoreRunsSaid : Prop := coreRunsRow.holds Tryz.pinned (OpenSpec.ofChange coreRunsSpec)

/-- ITS FALSE NEIGHBOUR: 'it returns false'. Refute it at one input. -/
def coreRunsWrong : ChangeSpec := { name := "coreRuns", fn := fun _ => fun
  | [d1, d2, d3] => { results := [.lit (.bool false)], args := [d1, d2, d3] }
  | _ => none }
def CoreRunsWrongFalsely : Prop := coreRunsRow.holds Tryz.pinned (OpenSpec.ofChange coreRunsWrong)

/-- 'gimletlaw25.CorePrims': WHATEVER THE INPUT: true; the input reads as it did. -/
def corePrimsSpec : ChangeSpec := { name := "corePrims", fn := fun _ => fun
  | [d1, d2, d3, d4] => { results := [.lit (.bool true)], args := [d1, d2, d3, d4] }
  | _ => none }
def corePrimsRow : OpenClaim := { program := "ytjbiefneffiogaagreat", sum := "b259677e2ac51f49685adb84594dd22b099201c1dcb90820ab0d05aa175d14d7", func := "gimlet/gimletlaw25.CorePrims", spec := "corePrims", unfollowed := true, recurses := true, apart := false }
def CorePrimsSaid : Prop := corePrimsRow.holds Tryz.pinned (OpenSpec.ofChange corePrimsSpec)

/-- ITS FALSE NEIGHBOUR: 'it returns false'. Refute it at one input. -/
def corePrimsWrong : ChangeSpec := { name := "corePrims", fn := fun _ => fun
  | [d1, d2, d3, d4] => { results := [.lit (.bool false)], args := [d1, d2, d3, d4] }
  | _ => none }
def CorePrimsWrongFalsely : Prop := corePrimsRow.holds Tryz.pinned (OpenSpec.ofChange corePrimsWrong)

/-- 'gimletlaw25.CoreChecks': WHATEVER THE INPUT: true; the input reads as it did. -/
def coreChecksSpec : ChangeSpec := { name := "coreChecks", fn := fun _ => fun
  | [d] => { results := [.lit (.bool true)], args := [d] }
  | _ => none }
def coreChecksRow : OpenClaim := { program := "ytjbiefneffiogaagreat", sum := "b259677e2ac51f49685adb84594dd22b099201c1dcb90820ab0d05aa175d14d7", func := "gimlet/gimletlaw25.CoreChecks", spec := "coreChecks", unfollowed := true, recurses := true, loops := true, apart := false }
def CoreChecksSaid : Prop := coreChecksRow.holds Tryz.pinned (OpenSpec.ofChange coreChecksSpec)

/-- ITS FALSE NEIGHBOUR: 'it returns false'. Refute it at one input. -/
def coreChecksWrong : ChangeSpec := { name := "coreChecks", fn := fun _ => fun
  | [d] => { results := [.lit (.bool false)], args := [d] }
  | _ => none }
def CoreChecksWrongFalsely : Prop := coreChecksRow.holds Tryz.pinned (OpenSpec.ofChange coreChecksWrong)

/-- 'gimletlaw25.CoreNumbers': WHATEVER THE INPUT: true; the input reads as it did. -/
def coreNumbersSpec : ChangeSpec := { name := "coreNumbers", fn := fun _ => fun
  | [d1, d2] => { results := [.lit (.bool true)], args := [d1, d2] }
  | _ => none }
def coreNumbersRow : OpenClaim := { program := "ytjbiefneffiogaagreat", sum := "b259677e2ac51f49685adb84594dd22b099201c1dcb90820ab0d05aa175d14d7", func := "gimlet/gimletlaw25.CoreNumbers", spec := "coreNumbers", unfollowed := true, recurses := true, loops := true, apart := false }
def CoreNumbersSaid : Prop := coreNumbersRow.holds Tryz.pinned (OpenSpec.ofChange coreNumbersSpec)

/-- ITS FALSE NEIGHBOUR: 'it returns false'. Refute it at one input. -/
def coreNumbersWrong : ChangeSpec := { name := "coreNumbers", fn := fun _ => fun
  | [d1, d2] => { results := [.lit (.bool false)], args := [d1, d2] }
  | _ => none }
def CoreNumbersWrongFalsely : Prop := coreNumbersRow.holds Tryz.pinned (OpenSpec.ofChange coreNumbersWrong)

/-- 'gimletlaw25.CoreKnown': WHATEVER THE INPUT: true; the input reads as it did. -/
def coreKnownSpec : ChangeSpec := { name := "coreKnown", fn := fun _ => fun
  | [] => { results := [.lit (.bool true)], args := [] }
  | _ => none }
def coreKnownRow : OpenClaim := { program := "ytjbiefneffiogaagreat", sum := "b259677e2ac51f49685adb84594dd22b099201c1dcb90820ab0d05aa175d14d7", func := "gimlet/gimletlaw25.CoreKnown", spec := "coreKnown", unfollowed := true, recurses := true, apart := false }
def CoreKnownSaid : Prop := coreKnownRow.holds Tryz.pinned (OpenSpec.ofChange coreKnownSpec)

/-- ITS FALSE NEIGHBOUR: 'it returns false'. Refute it at one input. -/
def coreKnownWrong : ChangeSpec := { name := "coreKnown", fn := fun _ => fun
  | [] => { results := [.lit (.bool false)], args := [] }
  | _ => none }
def CoreKnownWrongFalsely : Prop := coreKnownRow.holds Tryz.pinned (OpenSpec.ofChange coreKnownWrong)

/-- 'gimletlaw25.CoreMore': WHATEVER THE INPUT: true; the input reads as it did. -/
def coreMoreSpec : ChangeSpec := { name := "coreMore", fn := fun _ => fun
  | [d1, d2, d3, d4] => { results := [.lit (.bool true)], args := [d1, d2, d3, d4] }
  | _ => none }
def coreMoreRow : OpenClaim := { program := "ytjbiefneffiogaagreat", sum := "b259677e2ac51f49685adb84594dd22b099201c1dcb90820ab0d05aa175d14d7", func := "gimlet/gimletlaw25.CoreMore", spec := "coreMore", unfollowed := true, recurses := true, loops := true, apart := false }
def CoreMoreSaid : Prop := coreMoreRow.holds Tryz.pinned (OpenSpec.ofChange coreMoreSpec)

/-- ITS FALSE NEIGHBOUR: 'it returns false'. Refute it at one input. -/
def coreMoreWrong : ChangeSpec := { name := "coreMore", fn := fun _ => fun
  | [d1, d2, d3, d4] => { results := [.lit (.bool false)], args := [d1, d2, d3, d4] }
  | _ => none }
def CoreMoreWrongFalsely : Prop := coreMoreRow.holds Tryz.pinned (OpenSpec.ofChange coreMoreWrong)

/-- 'gimletlaw25.CoreAnew': WHATEVER THE INPUT: true; the input reads as it did. -/
def coreAnewSpec : ChangeSpec := { name := "coreAnew", fn := fun _ => fun
  | [d1, d2, d3, d4] => { results := [.lit (.bool true)], args := [d1, d2, d3, d4] }
  | _ => none }
def coreAnewRow : OpenClaim := { program := "ytjbiefneffiogaagreat", sum := "b259677e2ac51f49685adb84594dd22b099201c1dcb90820ab0d05aa175d14d7", func := "gimlet/gimletlaw25.CoreAnew", spec := "coreAnew", unfollowed := true, recurses := true, loops := true, apart := false }
def CoreAnewSaid : Prop := coreAnewRow.holds Tryz.pinned (OpenSpec.ofChange coreAnewSpec)

/-- ITS FALSE NEIGHBOUR: 'it returns false'. Refute it at one input. -/
def coreAnewWrong : ChangeSpec := { name := "coreAnew", fn := fun _ => fun
  | [d1, d2, d3, d4] => { results := [.lit (.bool false)], args := [d1, d2, d3, d4] }
  | _ => none }
def CoreAnewWrongFalsely : Prop := coreAnewRow.holds Tryz.pinned (OpenSpec.ofChange coreAnewWrong)

/- THE SECOND FORM. 'bulk': how many values and letters a reading holds, each counted each time it is reached (what is shared counts as often as it is met; a slice's spare places count too). A statement '..UptoSaid' is the law's where the arguments, and the package variables that the reading takes, are together of bulk at most 1048576: NARROWER than '..Said'. Prove '..Said' where nothing that the law and all that it calls make is longer than what came in: it says more and counts as full. Else prove '..UptoSaid'. A law counts once. -/
mutual
def uptoBulk {H : Type} : DataW H → Nat
  | .lit (.string bytes) => bytes.length + 1
  | .lit _ => 1
  | .nil => 1
  | .ptr d => uptoBulk d + 1
  | .slice elems spare => uptoBulkAll elems + uptoBulkAll spare + 1
  | .agg parts => uptoBulkAll parts + 1
  | .iface _ d => uptoBulk d + 1
  | .map entries => uptoBulkEntries entries + 1
  | .held _ => 1
def uptoBulkAll {H : Type} : List (DataW H) → Nat
  | [] => 0
  | d :: r => uptoBulk d + uptoBulkAll r
def uptoBulkEntries {H : Type} : List (Lit × DataW H) → Nat
  | [] => 0
  | x :: r => uptoBulkEntry x + uptoBulkEntries r
def uptoBulkEntry {H : Type} : Lit × DataW H → Nat
  | (.string bytes, d) => bytes.length + uptoBulk d + 1
  | (_, d) => uptoBulk d + 1
 end
def uptoSmall : (H : Type) → List (DataW H) → Bool := fun _ ds => decide (uptoBulkAll ds ≤ 1048576)
def OpenSpec.upto (s : _root_.Go.ChangeSpec) : _root_.Go.OpenSpec := { _root_.Go.OpenSpec.ofChange s with cond := some uptoSmall }

/-- 'gimletlaw25.CoreRuns', WHERE WHAT IT READS IS OF BULK AT MOST 1048576: true; the input reads as it did. -/
def coreRunsUptoRow : OpenClaim := { program := "ytjbiefneffiogaagreat", sum := "b259677e2ac51f49685adb84594dd22b099201c1dcb90820ab0d05aa175d14d7", func := "gimlet/gimletlaw25.CoreRuns", spec := "coreRuns", unfollowed := true, recurses := true, loops := true, apart := false, narrowed := true }
def CoreRunsUptoSaid : Prop := coreRunsUptoRow.holds Tryz.pinned (OpenSpec.upto coreRunsSpec)

/-- 'gimletlaw25.CorePrims', WHERE WHAT IT READS IS OF BULK AT MOST 1048576: true; the input reads as it did. -/
def corePrimsUptoRow : OpenClaim := { program := "ytjbiefneffiogaagreat", sum := "b259677e2ac51f49685adb84594dd22b099201c1dcb90820ab0d05aa175d14d7", func := "gimlet/gimletlaw25.CorePrims", spec := "corePrims", unfollowed := true, recurses := true, apart := false, narrowed := true }
def CorePrimsUptoSaid : Prop := corePrimsUptoRow.holds Tryz.pinned (OpenSpec.upto corePrimsSpec)

/-- 'gimletlaw25.CoreChecks', WHERE WHAT IT READS IS OF BULK AT MOST 1048576: true; the input reads as it did. -/
def coreChecksUptoRow : OpenClaim := { program := "ytjbiefneffiogaagreat", sum := "b259677e2ac51f49685adb84594dd22b099201c1dcb90820ab0d05aa175d14d7", func := "gimlet/gimletlaw25.CoreChecks", spec := "coreChecks", unfollowed := true, recurses := true, loops := true, apart := false, narrowed := true }
def CoreChecksUptoSaid : Prop := coreChecksUptoRow.holds Tryz.pinned (OpenSpec.upto coreChecksSpec)

/-- 'gimletlaw25.CoreNumbers', WHERE WHAT IT READS IS OF BULK AT MOST 1048576: true; the input reads as it did. -/
def coreNumbersUptoRow : OpenClaim := { program := "ytjbiefneffiogaagreat", sum := "b259677e2ac51f49685adb84594dd22b099201c1dcb90820ab0d05aa175d14d7", func := "gimlet/gimletlaw25.CoreNumbers", spec := "coreNumbers", unfollowed := true, recurses := true, loops := true, apart := false, narrowed := true }
def CoreNumbersUptoSaid : Prop := coreNumbersUptoRow.holds Tryz.pinned (OpenSpec.upto coreNumbersSpec)

/-- 'gimletlaw25.CoreKnown', WHERE WHAT IT READS IS OF BULK AT MOST 1048576: true; the input reads as it did. -/
def coreKnownUptoRow : OpenClaim := { program := "ytjbiefneffiogaagreat", sum := "b259677e2ac51f49685adb84594dd22b099201c1dcb90820ab0d05aa175d14d7", func := "gimlet/gimletlaw25.CoreKnown", spec := "coreKnown", unfollowed := true, recurses := true, apart := false, narrowed := true }
def CoreKnownUptoSaid : Prop := coreKnownUptoRow.holds Tryz.pinned (OpenSpec.upto coreKnownSpec)

/-- 'gimletlaw25.CoreMore', WHERE WHAT IT READS IS OF BULK AT MOST 1048576: true; the input reads as it did. -/
def coreMoreUptoRow : OpenClaim := { program := "ytjbiefneffiogaagreat", sum := "b259677e2ac51f49685adb84594dd22b099201c1dcb90820ab0d05aa175d14d7", func := "gimlet/gimletlaw25.CoreMore", spec := "coreMore", unfollowed := true, recurses := true, loops := true, apart := false, narrowed := true }
def CoreMoreUptoSaid : Prop := coreMoreUptoRow.holds Tryz.pinned (OpenSpec.upto coreMoreSpec)

/-- 'gimletlaw25.CoreAnew', WHERE WHAT IT READS IS OF BULK AT MOST 1048576: true; the input reads as it did. -/
def coreAnewUptoRow : OpenClaim := { program := "ytjbiefneffiogaagreat", sum := "b259677e2ac51f49685adb84594dd22b099201c1dcb90820ab0d05aa175d14d7", func := "gimlet/gimletlaw25.CoreAnew", spec := "coreAnew", unfollowed := true, recurses := true, loops := true, apart := false, narrowed := true }
def CoreAnewUptoSaid : Prop := coreAnewUptoRow.holds Tryz.pinned (OpenSpec.upto coreAnewSpec)

end Rows
end Go.Proofs.YtjbiefneffiogaaGreat
