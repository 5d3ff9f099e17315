/- The chapter's functions, walked by the abstract machine: plain lemmas, no condition. Printed by a program from longer texts: names made short. -/
import Derived.Test.YtjbiefneffiogaaGreatM5
import Derived.Test.YtjbiefneffiogaaGreatRows
import Derived.Test.YtjbiefneffiogaaGreatM3
import Derived.Shelf.SortM.Plain
import Derived.Shelf.SortM.SortNone
import Derived.Shelf.SlIterI.Nil
set_option linter.unusedSectionVars false
set_option linter.unusedSimpArgs false
set_option linter.unusedVariables false
namespace Go.Proofs.YtjbiefneffiogaaGreat
open Go Go.Shelf ba
abbrev ae (d aQ:Nat):bu:=⟨some d,.fz (.t aQ),none,[aQ]⟩
abbrev a7 (d aQ:Nat):bu:=⟨some d,.dq (.t aQ),none,[aQ]⟩
abbrev b0 (d aQ:Nat):bu:=⟨some d,.q9 (.t aQ),none,[aQ]⟩
abbrev dA (d aQ:Nat):bu:=⟨some d,.cf 1 (.t aQ),none,[aQ]⟩
abbrev dP (d aQ:Nat):bu:=⟨some d,.gd 7 (.t aQ),none,[aQ]⟩
abbrev dY (d aQ:Nat):bu:=⟨some d,.len .slice (.t aQ),none,[aQ]⟩
abbrev ej (d aQ bS:Nat):bu:=⟨some d,.pick (.t aQ) (.t bS) (.c (.bool false)),none,[aQ,bS]⟩
abbrev eP (d:Nat):bu:=⟨some d,.fz (.c (.bool false)),none,[]⟩
abbrev eV (d aQ:Nat):bu:=⟨some d,.box (.t aQ),none,[aQ]⟩
abbrev eW (d:Nat):bu:=⟨some d,.fz (.c (.int .i64 0)),none,[]⟩
abbrev e3 (d aQ bS:Nat):bu:=⟨some d,.dq (.t aQ),(some (bS,true)),[aQ,bS]⟩
abbrev fM (d aQ:Nat):bu:=⟨some d,.bin (.int .add) (.t aQ) (.c (.int .i64 1)),none,[aQ]⟩
abbrev fW (d aQ:Nat):bu:=⟨some d,.cf 0 (.t aQ),none,[aQ]⟩
abbrev gl (d aQ bS:Nat):bu:=⟨some d,.fz (.t aQ),(some (bS,false)),[aQ,bS]⟩
abbrev gD (d aQ bS:Nat):bu:=⟨some d,.bin (.int .lss) (.t aQ) (.t bS),none,[aQ,bS]⟩
abbrev gE (d aQ:Nat):bu:=⟨some d,.cf 6 (.t aQ),none,[aQ]⟩
abbrev gQ (d aQ bS:Nat):bu:=⟨some d,.pick (.t aQ) (.c (.bool true)) (.t bS),none,[aQ,bS]⟩
abbrev g4 (d aQ:Nat):bu:=⟨some d,.un .not (.t aQ),none,[aQ]⟩
abbrev hl (d aQ:Nat):bu:=⟨some d,.cf 2 (.t aQ),none,[aQ]⟩
abbrev ie (d aQ bS:Nat):bu:=⟨some d,.dq (.t aQ),(some (bS,false)),[aQ,bS]⟩
abbrev iy (d aQ bS:Nat):bu:=⟨some d,.cl 1 (.t aQ) (.t bS),none,[aQ,bS]⟩
abbrev iz (d aQ:Nat):bu:=⟨some d,.cl 1 (.t aQ) (.c (.int .i64 0)),none,[aQ]⟩
abbrev jy (d aQ:Nat):bu:=⟨some d,.gd 3 (.t aQ),none,[aQ]⟩
abbrev jW (d aQ bS:Nat):bu:=⟨some d,.fz (.t aQ),(some (bS,true)),[aQ,bS]⟩
abbrev jX (d aQ bS:Nat):bu:=⟨some d,.call 101 [(.t aQ),(.t bS)],none,[aQ,bS]⟩
abbrev kf (d aQ bS:Nat):bu:=⟨some d,.gd 7 (.t aQ),(some (bS,true)),[aQ,bS]⟩
abbrev kG (d aQ:Nat):bu:=⟨some d,.cf 4 (.t aQ),none,[aQ]⟩
abbrev la (d aQ:Nat):bu:=⟨some d,.cf 7 (.t aQ),none,[aQ]⟩
abbrev lF (d:Nat):bu:=⟨some d,.fz (.c .aF),none,[]⟩
abbrev lG (d:Nat):bu:=⟨some d,.new [(.int .i64 0),(.int .i64 0),(.int .i64 0),(.str []),.aF,.aF,.aF],none,[]⟩
abbrev lH (d aQ bS:Nat):bu:=⟨some d,.cl 7 (.t aQ) (.t bS),none,[aQ,bS]⟩
abbrev nf (d aQ bS:Nat):bu:=⟨some d,.app 1 (.t aQ) (.t bS),none,[aQ,bS]⟩
abbrev ng (d:Nat):bu:=⟨some d,.fz (.c .cq),none,[]⟩
abbrev oc (d aQ bS:Nat):bu:=⟨some d,.bin (.int .add) (.t aQ) (.t bS),none,[aQ,bS]⟩
abbrev od (d aQ:Nat):bu:=⟨some d,.cf 3 (.t aQ),none,[aQ]⟩
abbrev oe (d aQ:Nat):bu:=⟨some d,.cf 8 (.t aQ),none,[aQ]⟩
abbrev pa (d aQ bS:Nat):bu:=⟨some d,.bin (.int .neq) (.t aQ) (.t bS),none,[aQ,bS]⟩
abbrev pb (d aQ bS:Nat):bu:=⟨some d,.len .slice (.t aQ),(some (bS,false)),[aQ,bS]⟩
abbrev pc (d aQ:Nat):bu:=⟨some d,.bin (.int .sub) (.t aQ) (.c (.int .i64 1)),none,[aQ]⟩
abbrev pd (d aQ bS fE:Nat):bu:=⟨some d,.call 146 [(.t aQ),(.t bS),(.t fE)],none,[aQ,bS,fE]⟩
abbrev pe (d aQ:Nat):bu:=⟨some d,.cl 1 (.t aQ) (.c (.int .i64 1)),none,[aQ]⟩
abbrev qh (d aQ bS:Nat):bu:=⟨some d,.ps (.t aQ) [(.t bS)],none,[aQ,bS]⟩
abbrev qi (d aQ:Nat):bu:=⟨some d,.cf 5 (.t aQ),none,[aQ]⟩
abbrev qj (d aQ bS:Nat):bu:=⟨some d,.cf 1 (.t aQ),(some (bS,true)),[aQ,bS]⟩
abbrev qk (d aQ bS:Nat):bu:=⟨some d,.cf 2 (.t aQ),(some (bS,true)),[aQ,bS]⟩
abbrev ql (d aQ:Nat):bu:=⟨some d,.call 79 [(.t aQ)],none,[aQ]⟩
abbrev rE (d aQ bS fE:Nat):bu:=⟨some d,.bin (.int .eql) (.t aQ) (.t bS),(some (fE,true)),[aQ,bS,fE]⟩
abbrev rF (d aQ bS:Nat):bu:=⟨some d,.q9 (.t aQ),(some (bS,false)),[aQ,bS]⟩
abbrev sM (d aQ bS:Nat):bu:=⟨some d,.bin (.int .eql) (.t aQ) (.t bS),none,[aQ,bS]⟩
abbrev sN (d aQ bS:Nat):bu:=⟨some d,.cl 3 (.t aQ) (.t bS),none,[aQ,bS]⟩
abbrev sO (d aQ:Nat):bu:=⟨some d,.bin (.int .eql) (.t aQ) (.c (.int .i64 1)),none,[aQ]⟩
abbrev sP (d aQ bS:Nat):bu:=⟨some d,.cf 3 (.t aQ),(some (bS,true)),[aQ,bS]⟩
abbrev uC (d:Nat):bu:=⟨some d,.new [(.int .i64 0),(.int .i64 0),(.str [])],none,[]⟩
abbrev uD (d:Nat):bu:=⟨some d,.build [(.int .i64 0),(.int .i64 0)] [(0,1,(.c (.int .i64 1))),(1,1,(.c (.int .i64 1)))],none,[]⟩
abbrev uE (d:Nat):bu:=⟨some d,.fz (.c (.bool true)),none,[]⟩
abbrev uF (d aQ:Nat):bu:=⟨some d,.cf 9 (.t aQ),none,[aQ]⟩
abbrev uG (d aQ:Nat):bu:=⟨some d,.call 103 [(.t aQ),(.c (.int .i64 6))],none,[aQ]⟩
abbrev uH (d:Nat):bu:=⟨some d,.new [(.int .i64 0),(.int .i64 0),(.int .i64 0),(.int .i64 0),.aF],none,[]⟩
abbrev wy (d aQ:Nat):bu:=⟨some d,.call 44 [(.t aQ)],none,[aQ]⟩
abbrev wz (d aQ bS:Nat):bu:=⟨some d,.len .slice (.t aQ),(some (bS,true)),[aQ,bS]⟩
abbrev wA (d aQ bS:Nat):bu:=⟨some d,.look .int (.int .i64 0) false (.t aQ) (.t bS),none,[aQ,bS]⟩
abbrev wB (d aQ:Nat):bu:=⟨some d,.ext (.t aQ) 0,none,[aQ]⟩
abbrev wC (d aQ:Nat):bu:=⟨some d,.ext (.t aQ) 1,none,[aQ]⟩
abbrev wD (d aQ bS:Nat):bu:=⟨some d,.cf 4 (.t aQ),(some (bS,true)),[aQ,bS]⟩
abbrev wE (d aQ:Nat):bu:=⟨some d,.len .str (.t aQ),none,[aQ]⟩
abbrev wF (d aQ:Nat):bu:=⟨some d,.call 80 [(.t aQ)],none,[aQ]⟩
abbrev wG (d aQ bS:Nat):bu:=⟨some d,.call 108 [(.t aQ),(.t bS)],none,[aQ,bS]⟩
abbrev wH (d aQ:Nat):bu:=⟨some d,.gd 5 (.t aQ),none,[aQ]⟩
abbrev yU (d aQ:Nat):bu:=⟨some d,.bin (.int .neq) (.t aQ) (.c (.int .i64 0)),none,[aQ]⟩
abbrev yV (d aQ:Nat):bu:=⟨some d,.bin (.int .eql) (.t aQ) (.c (.int .i64 2)),none,[aQ]⟩
abbrev yW (d aQ:Nat):bu:=⟨some d,.bin (.int .geq) (.t aQ) (.c (.int .i64 0)),none,[aQ]⟩
abbrev yX (d aQ bS fE:Nat):bu:=⟨some d,.pick (.t aQ) (.c (.bool true)) (.t bS),(some (fE,true)),[aQ,bS,fE]⟩
abbrev yY (d aQ:Nat):bu:=⟨some d,.g6 1 1 [(.int .i64 0)] [(0,1,(.t aQ))],none,[aQ]⟩
abbrev yZ (d:Nat):bu:=⟨some d,.call 102 [(.c (.int .i64 0)),(.c .aF)],none,[]⟩
abbrev y0 (d:Nat):bu:=⟨some d,.new [(.bool false),(.int .i64 0),.cq,.cq],none,[]⟩
abbrev y1 (d aQ bS fE:Nat):bu:=⟨some d,.call 152 [(.t aQ),(.t bS),(.t fE)],none,[aQ,bS,fE]⟩
abbrev y2 (d aQ bS:Nat):bu:=⟨some d,.cl 1 (.t aQ) (.c (.int .i64 0)),(some (bS,false)),[aQ,bS]⟩
abbrev y3 (d aQ bS:Nat):bu:=⟨some d,.len .str (.t aQ),(some (bS,false)),[aQ,bS]⟩
abbrev y4 (d aQ:Nat):bu:=⟨some d,.g6 1 1 [.cq] [(0,1,(.t aQ))],none,[aQ]⟩
abbrev Cb (d aQ:Nat):bu:=⟨some d,.bin (.int .lss) (.t aQ) (.c (.int .i64 0)),none,[aQ]⟩
abbrev Cc (d aQ bS fE:Nat):bu:=⟨some d,.bin (.int .gtr) (.t aQ) (.t bS),(some (fE,false)),[aQ,bS,fE]⟩
abbrev Cd (d aQ bS:Nat):bu:=⟨some d,.gZ 7 (.t aQ) none (some (.t bS)) none,none,[aQ,bS]⟩
abbrev Ce (d aQ:Nat):bu:=⟨some d,.g6 1 3 [(.int .i64 0),(.int .i64 0),(.str [])] [(0,3,(.t aQ))],none,[aQ]⟩
abbrev Cf (d aQ:Nat):bu:=⟨some d,.bin (.int .eql) (.t aQ) (.c (.int .i64 8)),none,[aQ]⟩
abbrev Cg (d aQ:Nat):bu:=⟨some d,.bin (.int .eql) (.t aQ) (.c (.int .i64 11)),none,[aQ]⟩
abbrev Ch (d aQ:Nat):bu:=⟨some d,.bin (.int .eql) (.t aQ) (.c (.int .i64 7)),none,[aQ]⟩
abbrev Ci (d aQ:Nat):bu:=⟨some d,.bin (.int .eql) (.t aQ) (.c (.int .i64 14)),none,[aQ]⟩
abbrev Cj (d aQ bS:Nat):bu:=⟨some d,.bin (.int .neq) (.t aQ) (.c (.int .i64 0)),(some (bS,true)),[aQ,bS]⟩
abbrev Ck (d aQ:Nat):bu:=⟨some d,.bin (.int .eql) (.t aQ) (.c (.int .i64 3)),none,[aQ]⟩
abbrev Cl (d aQ:Nat):bu:=⟨some d,.build [(.bool false),(.bool false),(.bool false),(.bool false),(.int .i64 0),(.int .i64 0),(.int .i64 0),(.int .i64 0)] [(4,2,(.t aQ))],none,[aQ]⟩
abbrev Cm (d:Nat):bu:=⟨some d,.build [(.int .i64 0),(.int .i64 0)] [(0,1,(.c (.int .i64 2))),(1,1,(.c (.int .i64 2)))],none,[]⟩
abbrev Cn (d aQ:Nat):bu:=⟨some d,.build [(.bool false),(.bool false),(.bool false),(.bool false),(.int .i64 0),(.int .i64 0),(.int .i64 0),(.int .i64 0)] [(0,1,(.c (.bool true))),(6,2,(.t aQ))],none,[aQ]⟩
abbrev Co (d aQ:Nat):bu:=⟨some d,.bin (.int .eql) (.t aQ) (.c (.int .i64 0)),none,[aQ]⟩
abbrev Cp (d aQ:Nat):bu:=⟨some d,.call 10 [(.t aQ),(.c (.int .i64 400))],none,[aQ]⟩
abbrev Cq (d aQ bS fE:Nat):bu:=⟨some d,.call 24 [(.t aQ),(.t bS)],(some (fE,true)),[aQ,bS,fE]⟩
abbrev Cr (d aQ bS fE:Nat):bu:=⟨some d,.call 16 [(.t aQ),(.t bS)],(some (fE,true)),[aQ,bS,fE]⟩
abbrev Cs (d aQ:Nat):bu:=⟨some d,.bin (.int .neq) (.t aQ) (.c (.int .i64 4)),none,[aQ]⟩
abbrev Ct (d aQ bS fE:Nat):bu:=⟨some d,.ps (.t aQ) [(.t bS),(.t fE)],none,[aQ,bS,fE]⟩
abbrev Cu (d:Nat):bu:=⟨some d,.g6 1 1 [(.int .i64 0)] [(0,1,(.c (.int .i64 1)))],none,[]⟩
abbrev Cv (d aQ bS fE:Nat):bu:=⟨some d,.bin (.int .geq) (.t aQ) (.t bS),(some (fE,false)),[aQ,bS,fE]⟩
abbrev B9 (d:Nat):bu:=⟨some d,.call 102 [(.c (.int .i64 2)),(.c .aF)],none,[]⟩
abbrev B' (d aQ bS:Nat):bu:=⟨some d,.bin (.int .lss) (.t aQ) (.c (.int .i64 0)),(some (bS,false)),[aQ,bS]⟩
abbrev B_ (d aQ bS fE:Nat):bu:=⟨some d,.call 13 [(.t aQ),(.t bS),(.t fE)],none,[aQ,bS,fE]⟩
abbrev Ca (d aQ bS:Nat):bu:=⟨some d,.g6 2 3 [(.int .i64 0),(.int .i64 0),(.str [])] [(0,3,(.t aQ)),(3,3,(.t bS))],none,[aQ,bS]⟩
abbrev GN (d:Nat):bu:=⟨some d,.build [(.int .i64 0),(.int .i64 0),(.int .i64 0),(.str []),.aF,.aF,.aF] [],none,[]⟩
abbrev GO (d:Nat):bu:=⟨some d,.new [(.bool false),(.bool false),(.bool false),(.bool false),(.int .i64 0),(.int .i64 0),(.int .i64 0),(.int .i64 0)],none,[]⟩
abbrev GP (d aQ:Nat):bu:=⟨some d,.build [(.bool false),(.bool false),(.bool false),(.bool false),(.int .i64 0),(.int .i64 0),(.int .i64 0),(.int .i64 0)] [(1,1,(.c (.bool true))),(4,2,(.t aQ))],none,[aQ]⟩
abbrev GQ (d:Nat):bu:=⟨some d,.build [(.int .i64 0),(.int .i64 0)] [(0,1,(.c (.int .i64 1))),(1,1,(.c (.int .i64 1073741824)))],none,[]⟩
abbrev GR (d aQ bS:Nat):bu:=⟨some d,.build [(.bool false),(.bool false),(.bool false),(.bool false),(.int .i64 0),(.int .i64 0),(.int .i64 0),(.int .i64 0)] [(3,1,(.c (.bool true))),(4,2,(.t aQ)),(6,2,(.t bS))],none,[aQ,bS]⟩
abbrev GS (d:Nat):bu:=⟨some d,.g6 2 1 [(.int .i64 0)] [(0,1,(.c (.int .i64 1))),(1,1,(.c (.int .i64 1)))],none,[]⟩
abbrev GU (d aQ:Nat):bu:=⟨some d,.build [(.int .i64 0),(.int .i64 0),(.str [])] [(0,1,(.c (.int .i64 2))),(1,1,(.t aQ))],none,[aQ]⟩
def Tryz.Lt:Go.Shelf.Ren:=⟨fun | 7=>68 | 10=>129 | n=>n,fun | 23=>88 | 26=>3 | 3=>4 | 28=>91 | 0=>0 | 27=>90 | 33=>136 | 4=>4 | n=>n,fun | n=>n⟩
theorem Tryz.XZ:Go.Proofs.SlLaysZI.n7 Tryz.prog Tryz.Lt where
 mixed:=by kernel_rfl
 f7:=⟨"maps.Keys[map[int]bool,int,bool]",by decide,Tryz.func68.trans (congrArg some (by kernel_rfl))⟩
 f10:=⟨"maps.Keys[map[int]bool,int,bool]$1",by decide,Tryz.func129.trans (congrArg some (by kernel_rfl))⟩
 t0:=Tryz.underlying0
 a0:=Tryz.isAgg0
 z0:=Tryz.sizeOf0
 v0:=Tryz.zeroValue0
 t4:=Tryz.underlying4
 a4:=Tryz.isAgg4
 z4:=Tryz.sizeOf4
 v4:=Tryz.zeroValue4
 t23:=Tryz.underlying88
 a23:=Tryz.isAgg88
 z23:=Tryz.sizeOf88
 v23:=Tryz.zeroValue88
 t26:=Tryz.underlying3
 a26:=Tryz.isAgg3
 z26:=Tryz.sizeOf3
 v26:=Tryz.zeroValue3
 t27:=Tryz.underlying90
 a27:=Tryz.isAgg90
 z27:=Tryz.sizeOf90
 v27:=Tryz.zeroValue90
 t28:=Tryz.underlying91
 a28:=Tryz.isAgg91
 z28:=Tryz.sizeOf91
 v28:=Tryz.zeroValue91
 t33:=Tryz.underlying136
 a33:=Tryz.isAgg136
 z33:=Tryz.sizeOf136
 v33:=Tryz.zeroValue136
def Tryz.N8:Go.Shelf.Ren:=⟨fun | 6=>67 | 8=>128 | 9=>51 | 11=>161 | 13=>73 | 12=>72 | 23=>143 | 24=>144 | 14=>134 | 15=>135 | 16=>136 | 17=>137 | 18=>138 | 19=>139 | 20=>140 | 21=>141 | 22=>142 | 25=>164 | 26=>165 | 27=>166 | 28=>167 | 29=>168 | 30=>169 | 31=>171 | n=>n,fun | 26=>3 | 28=>91 | 24=>23 | 0=>0 | 3=>3 | 37=>96 | 48=>156 | 50=>158 | 4=>4 | 40=>148 | 39=>147 | 45=>153 | 5=>5 | 9=>9 | 51=>178 | 55=>182 | 57=>187 | 58=>188 | 33=>136 | n=>n,fun | n=>n⟩
theorem Tryz.ach:Go.Proofs.SlLaysZI.n6 Tryz.prog Tryz.N8 where
 mixed:=by kernel_rfl
 f6:=⟨"slices.Sorted[int]",by decide,Tryz.func67.trans (congrArg some (by kernel_rfl))⟩
 f8:=⟨"slices.Collect[int]",by decide,Tryz.func128.trans (congrArg some (by kernel_rfl))⟩
 f11:=⟨"slices.AppendSeq[[]int,int]",by decide,Tryz.func161.trans (congrArg some (by kernel_rfl))⟩
 t0:=Tryz.underlying0
 a0:=Tryz.isAgg0
 z0:=Tryz.sizeOf0
 v0:=Tryz.zeroValue0
 t24:=Tryz.underlying23
 a24:=Tryz.isAgg23
 z24:=Tryz.sizeOf23
 v24:=Tryz.zeroValue23
 t26:=Tryz.underlying3
 a26:=Tryz.isAgg3
 z26:=Tryz.sizeOf3
 v26:=Tryz.zeroValue3
 t28:=Tryz.underlying91
 a28:=Tryz.isAgg91
 z28:=Tryz.sizeOf91
 v28:=Tryz.zeroValue91
 i26:=by kernel_rfl
def Tryz.acf:Go.Shelf.Ren:=⟨fun | 5=>51 | 8=>73 | 7=>72 | 19=>143 | 20=>144 | 10=>134 | 11=>135 | 12=>136 | 13=>137 | 14=>138 | 15=>139 | 16=>140 | 17=>141 | 18=>142 | 30=>164 | 31=>165 | 32=>166 | 33=>167 | 34=>168 | 35=>169 | 40=>171 | n=>n,fun | 23=>23 | 25=>3 | 3=>3 | 32=>96 | 22=>23 | 0=>0 | 44=>156 | 46=>158 | 4=>4 | 36=>148 | 35=>147 | 41=>153 | 5=>5 | 9=>9 | 53=>178 | 57=>182 | 63=>187 | 64=>188 | n=>n,fun | n=>n⟩
theorem Tryz.Bs:Go.Proofs.SlLaysM.n5 Tryz.prog Tryz.acf where
 mixed:=by kernel_rfl
 f5:=⟨"slices.Sort[[]int,int]",by decide,Tryz.func51.trans (congrArg some (by kernel_rfl))⟩
 f7:=⟨"slices.pdqsortOrdered[int]",by decide,Tryz.func72.trans (congrArg some (by kernel_rfl))⟩
 f8:=Tryz.func73.trans (congrArg some (by kernel_rfl))
 f10:=⟨"slices.insertionSortOrdered[int]",by decide,Tryz.func134.trans (congrArg some (by kernel_rfl))⟩
 f11:=⟨"slices.heapSortOrdered[int]",by decide,Tryz.func135.trans (congrArg some (by kernel_rfl))⟩
 f12:=⟨"slices.breakPatternsOrdered[int]",by decide,Tryz.func136.trans (congrArg some (by kernel_rfl))⟩
 f13:=⟨"slices.choosePivotOrdered[int]",by decide,Tryz.func137.trans (congrArg some (by kernel_rfl))⟩
 f14:=⟨"slices.reverseRangeOrdered[int]",by decide,Tryz.func138.trans (congrArg some (by kernel_rfl))⟩
 f15:=⟨"slices.partialInsertionSortOrdered[int]",by decide,Tryz.func139.trans (congrArg some (by kernel_rfl))⟩
 f16:=⟨"cmp.Less[int]",by decide,Tryz.func140.trans (congrArg some (by kernel_rfl))⟩
 f17:=⟨"slices.partitionEqualOrdered[int]",by decide,Tryz.func141.trans (congrArg some (by kernel_rfl))⟩
 f18:=⟨"slices.partitionOrdered[int]",by decide,Tryz.func142.trans (congrArg some (by kernel_rfl))⟩
 f19:=Tryz.func143.trans (congrArg some (by kernel_rfl))
 f20:=Tryz.func144.trans (congrArg some (by kernel_rfl))
 f30:=⟨"slices.siftDownOrdered[int]",by decide,Tryz.func164.trans (congrArg some (by kernel_rfl))⟩
 f31:=Tryz.func165.trans (congrArg some (by kernel_rfl))
 f32:=Tryz.func166.trans (congrArg some (by kernel_rfl))
 f33:=⟨"slices.medianAdjacentOrdered[int]",by decide,Tryz.func167.trans (congrArg some (by kernel_rfl))⟩
 f34:=⟨"slices.medianOrdered[int]",by decide,Tryz.func168.trans (congrArg some (by kernel_rfl))⟩
 f35:=⟨"cmp.isNaN[int]",by decide,Tryz.func169.trans (congrArg some (by kernel_rfl))⟩
 f40:=⟨"slices.order2Ordered[int]",by decide,Tryz.func171.trans (congrArg some (by kernel_rfl))⟩
 t0:=Tryz.underlying0
 a0:=Tryz.isAgg0
 z0:=Tryz.sizeOf0
 v0:=Tryz.zeroValue0
 t3:=Tryz.underlying3
 a3:=Tryz.isAgg3
 z3:=Tryz.sizeOf3
 v3:=Tryz.zeroValue3
 t4:=Tryz.underlying4
 a4:=Tryz.isAgg4
 z4:=Tryz.sizeOf4
 v4:=Tryz.zeroValue4
 t5:=Tryz.underlying5
 a5:=Tryz.isAgg5
 z5:=Tryz.sizeOf5
 v5:=Tryz.zeroValue5
 t9:=Tryz.underlying9
 a9:=Tryz.isAgg9
 z9:=Tryz.sizeOf9
 v9:=Tryz.zeroValue9
 t22:=Tryz.underlying23
 a22:=Tryz.isAgg23
 z22:=Tryz.sizeOf23
 v22:=Tryz.zeroValue23
 t23:=Tryz.underlying23
 a23:=Tryz.isAgg23
 z23:=Tryz.sizeOf23
 v23:=Tryz.zeroValue23
 t25:=Tryz.underlying3
 a25:=Tryz.isAgg3
 z25:=Tryz.sizeOf3
 v25:=Tryz.zeroValue3
 t32:=Tryz.underlying96
 a32:=Tryz.isAgg96
 z32:=Tryz.sizeOf96
 v32:=Tryz.zeroValue96
 t35:=Tryz.underlying147
 a35:=Tryz.isAgg147
 z35:=Tryz.sizeOf147
 v35:=Tryz.zeroValue147
 t36:=Tryz.underlying148
 a36:=Tryz.isAgg148
 z36:=Tryz.sizeOf148
 v36:=Tryz.zeroValue148
 t41:=Tryz.underlying153
 a41:=Tryz.isAgg153
 z41:=Tryz.sizeOf153
 v41:=Tryz.zeroValue153
 t44:=Tryz.underlying156
 a44:=Tryz.isAgg156
 z44:=Tryz.sizeOf156
 v44:=Tryz.zeroValue156
 t46:=Tryz.underlying158
 a46:=Tryz.isAgg158
 z46:=Tryz.sizeOf158
 v46:=Tryz.zeroValue158
 t53:=Tryz.underlying178
 a53:=Tryz.isAgg178
 z53:=Tryz.sizeOf178
 v53:=Tryz.zeroValue178
 t57:=Tryz.underlying182
 a57:=Tryz.isAgg182
 z57:=Tryz.sizeOf182
 v57:=Tryz.zeroValue182
 t63:=Tryz.underlying187
 a63:=Tryz.isAgg187
 z63:=Tryz.sizeOf187
 v63:=Tryz.zeroValue187
 t64:=Tryz.underlying188
 a64:=Tryz.isAgg188
 z64:=Tryz.sizeOf188
 v64:=Tryz.zeroValue188
open Go.RowKit Go.Maps Go.Sort
theorem ack (m:Nat):AnyZI.SortsIn Tryz.prog Tryz.N8 Fence.wide m:=
 ⟨fun a_ off cap fh W pC nC eC=>callsIn_wide.2 (AnyM.slices_Sort_int Tryz.Bs a_ off cap fh W pC nC eC),
  fun p cap W=>callsIn_wide.2 (AnyM.slices_Sort_int_none Tryz.Bs p cap W)⟩
theorem N9:ba.G4 Tryz.prog 67 129 3:=by
 intro sH b E9 rB R w Ub qN f_ z8 Ur
 have VP:SeqGives Fence.wide 2 Tryz.prog 129 #[.pointer (some ⟨sH,0,none⟩)] encZ (fun fh=>fh.Perm (intKeys rB)) (Maps.size rB) w:=
  AnyZI.keys_gives (ρ:=Tryz.Lt) {Tryz.XZ with} Fence.wide _ trivial rfl (by omega) sH b E9 rB w Ub qN f_
 have Jj:=AnyZI.sorted_in Tryz.ach Fence.wide 5 trivial trivial trivial trivial rfl (by omega) (ack _) (enters_of Tryz.func51 (by kernel_rfl) rfl) 129 #[.pointer (some ⟨sH,0,none⟩)] trivial (enters_of Tryz.func129 (by kernel_rfl) rfl) _ _ z8 Ur _ VP
 change CallsIn _ _ Tryz.prog 67 _ _ _ at Jj
 exact callsIn_wide.1 (Jj.mono fun e aC q=>by
  obtain ⟨v,fh,rfl,hh,VJ,Vo,ah⟩:=q
  exact ⟨v,fh,rfl,hh,VJ,Vo,ah⟩)
instance lay:ba.Lay:=⟨fun _=>True,fun h _=>h⟩
theorem follows:Tryz.prog.follows .mixedOrders=true:=by kernel_rfl
theorem names:(Tryz.prog.funcs.toList.all fun fn=>!(fn.name == "runtime.NumGoroutine"))=true:=by kernel_rfl
theorem E4:ba.i' Tryz.prog:=by
 intro f fn h
 have:=List.all_eq_true.1 names fn (List.mem_of_getElem? (i:=f) (by simpa using h))
 simpa using this
noncomputable def ctx:ba.Ctx:=⟨Tryz.prog,fun f=>bif Nat.beq f 67 then some (ba.yq 129) else none⟩
theorem aaI:ba.rK ctx:=by
 intro f p args h v aa aH he
 simp only [ctx] at aH
 cases au:Nat.beq f 67 with
 | false=>rw [au] at aH;cases aH
 | true=>
   rw [au] at aH
   simp only [cond_true,Option.some.injEq] at aH
   subst aH
   obtain rfl:f=67:=Nat.eq_of_beq_eq_true au
   exact ⟨⟨_,Tryz.func67,by kernel_rfl⟩,fun aJ E w xs an s=>ba.N' Tryz.underlying3 N9 he aJ E w xs an s⟩
def cE (f:FuncId) (n:Nat) (rs:List ba.wJ) (c:ba.bL):Prop:=∀{args:List ba.V} {h:ba.ag} {K:ba.V→ba.ag→Prop},Nat.ble args.length n=true→(ba.hx Tryz.prog c (ba.bD.ar args) h fun e r aa=>e.ends∧∃ad,ba.dS r aa rs=some ad∧K (ba.oneOf ad) aa)→ba.bR Tryz.prog f args h K
theorem cK {f:FuncId} {fn:Func} {n:Nat} {rs:List ba.wJ} {c:ba.bL} (ab:Tryz.prog.funcs[f]? =some fn) (af:fn.body=some (fn.body.getD .skip)) (aK:Nat.ble fn.ntmps ba.top=true) (aX:fn.ntmps=n) (bM:ba.k9 Tryz.prog fn.ntmps (fn.body.getD .skip)=c) (e8:ba.o9 Tryz.prog fn.ntmps fn.results.toList=rs):cE f n rs c:=by
 subst aX
 exact fun aB H=>ba.SW follows E4 ab af aK aB bM e8 H
end Go.Proofs.YtjbiefneffiogaaGreat
namespace Go.Proofs.YtjbiefneffiogaaGreat
open Go ba
def Ib:bL:=
 .seq (.aj [eV 1 0,eW 2])
 (.seq (.block 0 (.seq (.aj [dP 4 1,wy 5 4,g4 6 5,ae 3 6])
 (.cond (.t 3)
 (.seq (.aj [⟨some 2,.fz (.c (.int .i64 2)),none,[]⟩])
 (.ret))
 (.seq (.draw [dP 8 1,dP 11 1,⟨some 9,.call 45 [(.t 8)],none,[8]⟩,dY 10 9,⟨some 12,.call 25 [(.t 11)],none,[11]⟩,dY 13 12,pa 14 10 13,ae 7 14] [(0,[2]),(1,[2,4])])
 (.cond (.t 7)
 (.seq (.aj [⟨some 2,.fz (.c (.int .i64 7)),none,[]⟩])
 (.ret))
 (.seq (.aj [dP 16 1,⟨some 17,.call 46 [(.t 16)],none,[16]⟩,dY 18 17,⟨some 19,.bin (.int .gtr) (.t 18) (.c (.int .i64 0)),none,[18]⟩,ae 15 19])
 (.cond (.t 15)
 (.seq (.aj [⟨some 2,.fz (.c (.int .i64 6)),none,[]⟩])
 (.ret))
 (.skip))))))))
 (.seq (.aj [eW 2])
 (.ret)))
theorem Rk:cE 20 20 [.t 2] Ib:=cK Tryz.func20 (by kernel_rfl) (by kernel_rfl) rfl (by kernel_rfl) (by kernel_rfl)
def Ic:bL:=
 .seq (.aj [eV 1 0,eW 2])
 (.seq (.seq (.aj [dP 3 1,wy 4 3,g4 5 4])
 (.cond (.t 5)
 (.seq (.aj [eW 2])
 (.ret))
 (.skip)))
 (.seq (.aj [dP 6 1,⟨some 7,.call 49 [(.t 6)],none,[6]⟩,ae 2 7])
 (.ret)))
theorem Rl:cE 22 8 [.t 2] Ic:=cK Tryz.func22 (by kernel_rfl) (by kernel_rfl) rfl (by kernel_rfl) (by kernel_rfl)
def Ih:bL:=
 .seq (.aj [eV 1 0,lF 2])
 (.seq (.seq (.aj [dP 4 1,wy 5 4,g4 6 5])
 (.cond (.t 6)
 (.seq (.aj [lF 2])
 (.ret))
 (.skip)))
 (.seq (.aj [dP 7 1,⟨some 8,.call 45 [(.t 7)],none,[7]⟩,ae 3 8])
 (.seq (.aj [ae 9 3,⟨some 10,.call 51 [(.t 9)],none,[9]⟩])
 (.seq (.aj [ae 11 3,⟨some 12,.call 52 [(.t 11)],none,[11]⟩,ae 2 12])
 (.ret)))))
theorem Rn:cE 25 13 [.t 2] Ih:=cK Tryz.func25 (by kernel_rfl) (by kernel_rfl) rfl (by kernel_rfl) (by kernel_rfl)
def Ij:bL:=
 .seq (.aj [gD 33 32 31])
 (.seq (.cond (.t 33)
 (.skip)
 (.exit 0))
 (.seq (.block 1 (.seq (.aj [ae 34 32,iy 35 30 32,a7 36 35,ae 9 34,ae 10 36])
 (.aj [a7 37 8,ae 38 10,ae 39 1,ae 40 9,oc 41 39 40,⟨none,.dM .int (.t 37) (.t 38) (.t 41),none,[37,38,41]⟩])))
 (.aj [fM 42 32,ae 32 42])))
def Ii:bL:=
 .seq (.aj [eV 2 0,lG 4,eW 5])
 (.seq (.seq (.aj [dP 11 2,⟨some 12,.call 20 [(.t 11)],none,[11]⟩,ae 6 12])
 (.seq (.aj [ae 13 6,yU 14 13])
 (.cond (.t 14)
 (.seq (.aj [GN 15,ae 16 6,⟨none,.st 7 (.t 4) (.t 15),none,[4,15]⟩,ae 5 16])
 (.ret))
 (.skip))))
 (.seq (.aj [dP 17 2,⟨some 18,.call 45 [(.t 17)],none,[17]⟩,ae 7 18])
 (.seq (.seq (.aj [ae 19 1,Cb 20 19,ae 21 20,gl 22 7 21,pb 23 22 21,gl 24 1 21,⟨some 25,.bin (.int .sub) (.c (.int .i64 1048576)) (.t 24),(some (21,false)),[24,21]⟩,Cc 26 23 25 21,gQ 27 21 26])
 (.cond (.t 27)
 (.seq (.aj [GN 28,⟨none,.st 7 (.t 4) (.t 28),none,[4,28]⟩,⟨some 5,.fz (.c (.int .i64 2)),none,[]⟩])
 (.ret))
 (.skip)))
 (.seq (.aj [⟨some 29,.o4 none,none,[]⟩,⟨some 8,.new [.hU],none,[]⟩,⟨none,.st 1 (.t 8) (.t 29),none,[8,29]⟩])
 (.seq (.seq (.aj [ae 30 7,dY 31 30,eW 32])
 (.block 0 (.loop Ij)))
 (.seq (.aj [dP 43 2,⟨some 44,.fn 56 [(.t 8)],none,[8]⟩,⟨some 45,.call 55 [(.t 43),(.t 44)],none,[43,44]⟩,⟨none,.st 7 (.t 4) (.t 45),none,[4,45]⟩,eW 5])
 (.ret)))))))
theorem Ro:cE 29 46 [.pv 4 7,.t 5] Ii:=cK Tryz.func29 (by kernel_rfl) (by kernel_rfl) rfl (by kernel_rfl) (by kernel_rfl)
def Iv:bL:=
 .seq (.aj [gD 55 54 53])
 (.seq (.cond (.t 55)
 (.skip)
 (.exit 0))
 (.seq (.block 1 (.seq (.aj [lH 56 52 54,dP 57 56,lG 5,⟨none,.st 7 (.t 5) (.t 57),none,[5,57]⟩])
 (.seq (.aj [fW 58 5,a7 59 58,⟨some 60,.bin (.int .neq) (.t 59) (.c (.int .i64 7)),none,[59]⟩,ae 61 60,⟨some 62,.gd 7 (.t 5),(some (61,false)),[5,61]⟩,⟨some 63,.call 61 [(.t 62),(.c (.bool true))],(some (61,false)),[62,61]⟩,⟨some 64,.un .not (.t 63),(some (61,false)),[63,61]⟩,gQ 65 61 64,ae 66 65,⟨some 67,.cf 6 (.t 5),(some (66,false)),[5,66]⟩,ie 68 67 66,⟨some 69,.cl 7 (.t 68) (.c (.int .i64 0)),(some (66,false)),[68,66]⟩,⟨some 70,.gd 7 (.t 69),(some (66,false)),[69,66]⟩,⟨some 71,.call 44 [(.t 70)],(some (66,false)),[70,66]⟩,⟨some 72,.un .not (.t 71),(some (66,false)),[71,66]⟩,gQ 73 66 72])
 (.cond (.t 73)
 (.seq (.aj [eP 2])
 (.ret))
 (.skip)))))
 (.aj [fM 74 54,ae 54 74])))
def Iu:bL:=
 .seq (.aj [eV 1 0,eP 2])
 (.seq (.seq (.aj [fW 6 1,a7 7 6,⟨some 8,.bin (.int .neq) (.t 7) (.c (.int .i64 8)),none,[7]⟩])
 (.cond (.t 8)
 (.seq (.seq (.aj [dP 9 1,⟨some 10,.call 61 [(.t 9),(.c (.bool false))],none,[9]⟩,g4 11 10])
 (.cond (.t 11)
 (.seq (.aj [eP 2])
 (.ret))
 (.skip)))
 (.seq (.aj [gE 12 1,a7 13 12,⟨some 14,.call 62 [(.t 13),(.c (.func 63 []))],none,[13]⟩,g4 15 14,ae 2 15])
 (.ret)))
 (.skip)))
 (.seq (.aj [gE 16 1,a7 17 16,dY 18 17,pc 19 18,ae 3 19])
 (.seq (.seq (.aj [dA 20 1,a7 21 20,yU 22 21,ae 23 22,⟨some 24,.cf 2 (.t 1),(some (23,false)),[1,23]⟩,ie 25 24 23,⟨some 26,.bin (.int .neq) (.t 25) (.c (.int .i64 0)),(some (23,false)),[25,23]⟩,gQ 27 23 26,ae 28 27,⟨some 29,.cf 3 (.t 1),(some (28,false)),[1,28]⟩,ie 30 29 28,⟨some 31,.bin (.str .neq) (.t 30) (.c (.str [])),(some (28,false)),[30,28]⟩,gQ 32 28 31,ae 33 32,⟨some 34,.cf 5 (.t 1),(some (33,false)),[1,33]⟩,ie 35 34 33,pb 36 35 33,⟨some 37,.bin (.int .gtr) (.t 36) (.c (.int .i64 0)),(some (33,false)),[36,33]⟩,gQ 38 33 37,ae 39 38,⟨some 40,.cf 4 (.t 1),(some (39,false)),[1,39]⟩,ie 41 40 39,pb 42 41 39,⟨some 43,.bin (.int .gtr) (.t 42) (.c (.int .i64 0)),(some (39,false)),[42,39]⟩,gQ 44 39 43,ae 45 44,gl 46 3 45,⟨some 47,.bin (.int .lss) (.t 46) (.c (.int .i64 1)),(some (45,false)),[46,45]⟩,gQ 48 45 47])
 (.cond (.t 48)
 (.seq (.aj [eP 2])
 (.ret))
 (.skip)))
 (.seq (.seq (.aj [gE 49 1,a7 50 49,ae 51 3,Cd 52 50 51,dY 53 52,eW 54])
 (.block 0 (.loop Iv)))
 (.seq (.aj [gE 75 1,a7 76 75,ae 77 3,lH 78 76 77,dP 79 78,wy 80 79,ae 2 80])
 (.ret))))))
theorem Rt:cE 44 81 [.t 2] Iu:=cK Tryz.func44 (by kernel_rfl) (by kernel_rfl) rfl (by kernel_rfl) (by kernel_rfl)
def Iw:bL:=
 .seq (.aj [eV 1 0,lF 2])
 (.seq (.aj [⟨some 3,.new [.aF],none,[]⟩])
 (.seq (.aj [⟨some 4,.new [.jl],none,[]⟩])
 (.seq (.aj [⟨some 5,.fn 64 [(.t 3),(.t 4)],none,[3,4]⟩,⟨none,.st 1 (.t 4) (.t 5),none,[4,5]⟩])
 (.seq (.aj [a7 6 4,dP 7 1,qh 8 6 7])
 (.seq (.aj [a7 9 3,ae 2 9])
 (.ret))))))
theorem Ru:cE 45 10 [.t 2] Iw:=cK Tryz.func45 (by kernel_rfl) (by kernel_rfl) rfl (by kernel_rfl) (by kernel_rfl)
def Ix:bL:=
 .seq (.aj [eV 1 0,lF 2])
 (.seq (.aj [⟨some 6,.o4 none,none,[]⟩,⟨some 3,.new [.hU],none,[]⟩,⟨none,.st 1 (.t 3) (.t 6),none,[3,6]⟩])
 (.seq (.aj [⟨some 7,.o4 none,none,[]⟩,⟨some 4,.new [.hU],none,[]⟩,⟨none,.st 1 (.t 4) (.t 7),none,[4,7]⟩])
 (.seq (.aj [⟨some 5,.new [.jl],none,[]⟩])
 (.seq (.aj [⟨some 8,.fn 66 [(.t 4),(.t 3),(.t 5)],none,[4,3,5]⟩,⟨none,.st 1 (.t 5) (.t 8),none,[5,8]⟩])
 (.seq (.aj [a7 9 5,dP 10 1,qh 11 9 10])
 (.seq (.aj [a7 12 3,⟨some 13,.call 68 [(.t 12)],none,[12]⟩,⟨some 14,.call 67 [(.t 13)],none,[13]⟩,ae 2 14])
 (.ret)))))))
theorem Rv:cE 46 15 [.t 2] Ix:=cK Tryz.func46 (by kernel_rfl) (by kernel_rfl) rfl (by kernel_rfl) (by kernel_rfl)
def Iz:bL:=
 .seq (.aj [gD 10 9 8])
 (.seq (.cond (.t 10)
 (.skip)
 (.exit 0))
 (.seq (.block 1 (.seq (.aj [lH 11 7 9,dP 12 11,lG 5,⟨none,.st 7 (.t 5) (.t 12),none,[5,12]⟩])
 (.aj [ae 13 3,dP 14 5,⟨some 15,.call 49 [(.t 14)],none,[14]⟩,oc 16 13 15,ae 3 16])))
 (.aj [fM 17 9,ae 9 17])))
def Iy:bL:=
 .seq (.aj [eV 1 0,eW 2])
 (.seq (.aj [⟨some 3,.fz (.c (.int .i64 1)),none,[]⟩])
 (.seq (.seq (.aj [gE 6 1,a7 7 6,dY 8 7,eW 9])
 (.block 0 (.loop Iz)))
 (.seq (.aj [ae 18 3,ae 2 18])
 (.ret))))
theorem Rw:cE 49 19 [.t 2] Iy:=cK Tryz.func49 (by kernel_rfl) (by kernel_rfl) rfl (by kernel_rfl) (by kernel_rfl)
def IB:bL:=
 .seq (.seq (.aj [ae 29 5,ae 30 4,dY 31 30,gD 32 29 31])
 (.cond (.t 32)
 (.skip)
 (.exit 2)))
 (.seq (.block 3 (.seq (.draw [ae 35 4,ae 36 5,iy 37 35 36,a7 38 37,ae 39 4,ae 40 5,pc 41 40,iy 42 39 41,a7 43 42,pa 44 38 43] [])
 (.cond (.t 44)
 (.seq (.aj [ae 45 0,ae 46 3,ae 47 4,ae 48 5,iy 49 47 48,a7 50 49,iy 51 45 46,⟨none,.st 1 (.t 51) (.t 50),none,[51,50]⟩])
 (.aj [ae 52 3,fM 53 52,ae 3 53]))
 (.skip))))
 (.aj [ae 33 5,fM 34 33,ae 5 34]))
def IC:bL:=
 .seq (.seq (.aj [ae 10 3,ae 11 0,dY 12 11,gD 13 10 12])
 (.cond (.t 13)
 (.skip)
 (.exit 0)))
 (.seq (.block 1 (.seq (.draw [ae 16 0,ae 17 3,iy 18 16 17,a7 19 18,ae 20 0,ae 21 3,pc 22 21,iy 23 20 22,a7 24 23,sM 25 19 24] [])
 (.cond (.t 25)
 (.seq (.aj [ae 26 0,ae 27 3,⟨some 28,.gZ 1 (.t 26) (some (.t 27)) none none,none,[26,27]⟩,ae 4 28])
 (.seq (.seq (.aj [⟨some 5,.fz (.c (.int .i64 1)),none,[]⟩])
 (.block 2 (.loop IB)))
 (.seq (.aj [ae 54 0,ae 55 3,⟨some 56,.gZ 1 (.t 54) (some (.t 55)) none none,none,[54,55]⟩,⟨none,.zq [(.int .i64 0)] (.t 56),none,[56]⟩])
 (.seq (.aj [ae 57 0,ae 58 3,⟨some 59,.gZ 1 (.t 57) none (some (.t 58)) none,none,[57,58]⟩,ae 2 59])
 (.ret)))))
 (.skip))))
 (.aj [ae 14 3,fM 15 14,ae 3 15]))
def IA:bL:=
 .seq (.aj [lF 2])
 (.seq (.seq (.aj [ae 6 0,dY 7 6,⟨some 8,.bin (.int .lss) (.t 7) (.c (.int .i64 2)),none,[7]⟩])
 (.cond (.t 8)
 (.seq (.aj [ae 9 0,ae 2 9])
 (.ret))
 (.skip)))
 (.seq (.seq (.aj [⟨some 3,.fz (.c (.int .i64 1)),none,[]⟩])
 (.block 0 (.loop IC)))
 (.seq (.aj [ae 60 0,ae 2 60])
 (.ret))))
theorem Rx:cE 52 61 [.t 2] IA:=cK Tryz.func52 (by kernel_rfl) (by kernel_rfl) rfl (by kernel_rfl) (by kernel_rfl)
def CW:bL:=
 .seq (.aj [gD 38 37 36])
 (.seq (.cond (.t 38)
 (.skip)
 (.exit 1))
 (.seq (.block 2 (.seq (.aj [sN 39 35 37,jy 40 39,uC 7,⟨none,.st 3 (.t 7) (.t 40),none,[7,40]⟩])
 (.seq (.seq (.aj [fW 41 7,a7 42 41,sO 43 42])
 (.cond (.t 43)
 (.aj [ae 44 1,dA 45 7,a7 46 45,qh 47 44 46,dA 48 7,⟨none,.st 1 (.t 48) (.t 47),none,[48,47]⟩])
 (.skip)))
 (.aj [kG 49 5,a7 50 49,jy 51 7,Ce 52 51,⟨some 53,.app 3 (.t 50) (.t 52),none,[50,52]⟩,kG 54 5,⟨none,.st 1 (.t 54) (.t 53),none,[54,53]⟩]))))
 (.aj [fM 55 37,ae 37 55])))
def CX:bL:=
 .seq (.aj [gD 60 59 58])
 (.seq (.cond (.t 60)
 (.skip)
 (.exit 3))
 (.seq (.block 4 (.seq (.aj [ae 61 59,lH 62 57 59,dP 63 62,lG 9,ae 8 61,⟨none,.st 7 (.t 9) (.t 63),none,[9,63]⟩])
 (.seq (.aj [dP 64 9,ae 65 1,⟨some 66,.call 55 [(.t 64),(.t 65)],none,[64,65]⟩,⟨none,.st 7 (.t 9) (.t 66),none,[9,66]⟩])
 (.seq (.seq (.aj [fW 67 2,a7 68 67,Cf 69 68,ae 70 69,jW 71 8 70,⟨some 72,.cf 6 (.t 2),(some (70,true)),[2,70]⟩,e3 73 72 70,wz 74 73 70,⟨some 75,.bin (.int .sub) (.t 74) (.c (.int .i64 1)),(some (70,true)),[74,70]⟩,⟨some 76,.bin (.int .lss) (.t 71) (.t 75),(some (70,true)),[71,75,70]⟩,ej 77 70 76])
 (.cond (.t 77)
 (.aj [ae 78 1,hl 79 9,a7 80 79,qh 81 78 80,hl 82 9,⟨none,.st 1 (.t 82) (.t 81),none,[82,81]⟩])
 (.skip)))
 (.aj [gE 83 5,a7 84 83,dP 85 9,⟨some 86,.g6 1 7 [(.int .i64 0),(.int .i64 0),(.int .i64 0),(.str []),.aF,.aF,.aF] [(0,7,(.t 85))],none,[85]⟩,⟨some 87,.app 7 (.t 84) (.t 86),none,[84,86]⟩,gE 88 5,⟨none,.st 1 (.t 88) (.t 87),none,[88,87]⟩])))))
 (.aj [fM 89 59,ae 59 89])))
def ID:bL:=
 .seq (.aj [eV 2 0,lG 4])
 (.seq (.draw [fW 10 2,a7 11 10,dA 12 2,a7 13 12,hl 14 2,a7 15 14,od 16 2,a7 17 16,qi 18 2,a7 19 18,lG 5,⟨some 20,.call 75 [(.t 19)],none,[19]⟩,⟨some 21,.build [(.int .i64 0),(.int .i64 0),(.int .i64 0),(.str []),.aF,.aF,.aF] [(0,1,(.t 11)),(1,1,(.t 13)),(2,1,(.t 15)),(3,1,(.t 17)),(5,1,(.t 20))],none,[11,13,15,17,20]⟩,⟨none,.st 7 (.t 5) (.t 21),none,[5,21]⟩] [(1,[11,13]),(3,[11,13]),(5,[11,13]),(7,[11,13]),(9,[11])])
 (.seq (.seq (.aj [fW 22 2,a7 23 22])
 (.block 0 (.seq (.seq (.aj [yV 25 23,ae 24 25])
 (.cond (.t 24)
 (.skip)
 (.seq (.aj [Cg 26 23,ae 24 26])
 (.cond (.t 24)
 (.skip)
 (.seq (.aj [Ch 27 23,ae 24 27])
 (.cond (.t 24)
 (.skip)
 (.aj [Ci 28 23,ae 24 28])))))))
 (.cond (.t 24)
 (.aj [ae 29 1,dA 30 2,a7 31 30,qh 32 29 31,dA 33 5,⟨none,.st 1 (.t 33) (.t 32),none,[33,32]⟩])
 (.skip)))))
 (.seq (.seq (.aj [kG 34 2,a7 35 34,dY 36 35,eW 37])
 (.block 1 (.loop CW)))
 (.seq (.seq (.aj [gE 56 2,a7 57 56,dY 58 57,eW 59])
 (.block 3 (.loop CX)))
 (.seq (.aj [dP 90 5,⟨none,.st 7 (.t 4) (.t 90),none,[4,90]⟩])
 (.ret))))))
theorem Ry:cE 55 91 [.pv 4 7] ID:=cK Tryz.func55 (by kernel_rfl) (by kernel_rfl) rfl (by kernel_rfl) (by kernel_rfl)
def IE:bL:=
 .seq (.aj [eW 3])
 (.seq (.aj [a7 4 1,ae 5 0,wA 6 4 5,ae 3 6])
 (.ret))
theorem Rz:cE 56 7 [.t 3] IE:=cK Tryz.func56 (by kernel_rfl) (by kernel_rfl) rfl (by kernel_rfl) (by kernel_rfl)
def IG:bL:=
 .seq (.aj [eV 2 0,eP 4])
 (.seq (.aj [fW 8 2,a7 9 8,⟨some 10,.call 119 [(.t 9)],none,[9]⟩,ae 7 10,wB 11 7,wC 12 7,GO 5,⟨none,.st 8 (.t 5) (.t 11),none,[5,11]⟩,ae 6 12])
 (.seq (.block 0 (.seq (.seq (.aj [ae 14 6,g4 15 14,ae 13 15])
 (.cond (.t 13)
 (.skip)
 (.seq (.aj [dA 16 2,a7 17 16,⟨some 18,.call 120 [(.t 17)],none,[17]⟩,g4 19 18,ae 13 19])
 (.cond (.t 13)
 (.skip)
 (.seq (.aj [fW 20 5,a7 21 20,g4 22 21,ae 23 22,qj 24 2 23,e3 25 24 23,Cj 26 25 23,ej 27 23 26,ae 13 27])
 (.cond (.t 13)
 (.skip)
 (.seq (.aj [dA 28 5,a7 29 28,g4 30 29,ae 31 30,jW 32 1 31,⟨some 33,.un .not (.t 32),(some (31,true)),[32,31]⟩,ej 34 31 33,ae 35 34,qk 36 2 35,e3 37 36 35,Cj 38 37 35,ej 39 35 38,ae 13 39])
 (.cond (.t 13)
 (.skip)
 (.seq (.aj [hl 40 5,a7 41 40,g4 42 41,ae 43 42,sP 44 2 43,e3 45 44 43,⟨some 46,.bin (.str .neq) (.t 45) (.c (.str [])),(some (43,true)),[45,43]⟩,ej 47 43 46,ae 13 47])
 (.cond (.t 13)
 (.skip)
 (.aj [od 48 5,a7 49 48,g4 50 49,ae 51 50,⟨some 52,.cf 5 (.t 2),(some (51,true)),[2,51]⟩,e3 53 52 51,wz 54 53 51,⟨some 55,.bin (.int .gtr) (.t 54) (.c (.int .i64 0)),(some (51,true)),[54,51]⟩,ej 56 51 55,ae 13 56])))))))))))
 (.cond (.t 13)
 (.seq (.aj [eP 4])
 (.ret))
 (.seq (.seq (.aj [kG 58 2,a7 59 58,dY 60 59,kG 61 5,⟨some 62,.gd 2 (.t 61),none,[61]⟩,⟨some 63,.call 121 [(.t 60),(.t 62)],none,[60,62]⟩,g4 64 63,ae 57 64])
 (.cond (.t 57)
 (.skip)
 (.seq (.aj [gE 65 2,a7 66 65,dY 67 66,gE 68 5,⟨some 69,.gd 2 (.t 68),none,[68]⟩,⟨some 70,.call 121 [(.t 67),(.t 69)],none,[67,69]⟩,g4 71 70,ae 57 71])
 (.cond (.t 57)
 (.skip)
 (.aj [hl 72 2,a7 73 72,⟨some 74,.call 120 [(.t 73)],none,[73]⟩,g4 75 74,ae 57 75])))))
 (.cond (.t 57)
 (.seq (.aj [eP 4])
 (.ret))
 (.seq (.seq (.aj [fW 77 2,a7 78 77,⟨some 79,.bin (.int .eql) (.t 78) (.c (.int .i64 5)),none,[78]⟩,ae 80 79,qk 81 2 80,e3 82 81 80,⟨some 83,.bin (.int .geq) (.t 82) (.c (.int .i64 1024)),(some (80,true)),[82,80]⟩,ej 84 80 83,ae 76 84])
 (.cond (.t 76)
 (.skip)
 (.seq (.draw [fW 85 2,a7 86 85,Ck 87 86,ae 88 87,sP 90 2 88,e3 91 90 88,wD 93 2 88,e3 94 93 88,wz 95 94 88,⟨some 89,.call 122 [],(some (88,true)),[88]⟩,⟨some 92,.look .str (.int .i64 0) false (.t 89) (.t 91),(some (88,true)),[89,91,88]⟩,⟨some 96,.bin (.int .neq) (.t 92) (.t 95),(some (88,true)),[92,95,88]⟩,ej 97 88 96,ae 76 97] [(1,[9]),(5,[9,14]),(10,[14]),(7,[9,14])])
 (.cond (.t 76)
 (.skip)
 (.aj [od 98 5,a7 99 98,ae 100 99,kf 101 2 100,⟨some 102,.call 123 [(.t 101)],(some (100,true)),[101,100]⟩,⟨some 103,.un .not (.t 102),(some (100,true)),[102,100]⟩,ej 104 100 103,ae 76 104])))))
 (.cond (.t 76)
 (.seq (.aj [eP 4])
 (.ret))
 (.skip))))))))
 (.seq (.aj [kG 105 2,a7 106 105,⟨some 107,.call 124 [(.t 106),(.c (.func 125 []))],none,[106]⟩,g4 108 107,ae 4 108])
 (.ret))))
theorem RB:cE 61 109 [.t 4] IG:=cK Tryz.func61 (by kernel_rfl) (by kernel_rfl) rfl (by kernel_rfl) (by kernel_rfl)
def IH:bL:=
 .seq (.aj [eP 4])
 (.seq (.aj [ae 5 0,ae 6 1,⟨some 7,.call 127 [(.t 5),(.t 6)],none,[5,6]⟩,yW 8 7,ae 4 8])
 (.ret))
theorem RC:cE 62 9 [.t 4] IH:=cK Tryz.func62 (by kernel_rfl) (by kernel_rfl) rfl (by kernel_rfl) (by kernel_rfl)
def II:bL:=
 .seq (.aj [eV 1 0,eP 2])
 (.seq (.aj [dP 3 1,wy 4 3,g4 5 4,ae 2 5])
 (.ret))
theorem RD:cE 63 6 [.t 2] II:=cK Tryz.func63 (by kernel_rfl) (by kernel_rfl) rfl (by kernel_rfl) (by kernel_rfl)
def IK:bL:=
 .seq (.aj [gD 14 13 12])
 (.seq (.cond (.t 14)
 (.skip)
 (.exit 0))
 (.seq (.block 1 (.seq (.aj [ae 15 13,lH 16 11 13,dP 17 16,lG 5,ae 4 15,⟨none,.st 7 (.t 5) (.t 17),none,[5,17]⟩])
 (.seq (.seq (.aj [ae 18 4,sO 19 18,ae 20 19,⟨some 21,.cf 0 (.t 3),(some (20,true)),[3,20]⟩,e3 22 21 20,⟨some 23,.bin (.int .eql) (.t 22) (.c (.int .i64 2)),(some (20,true)),[22,20]⟩,jW 24 23 20,⟨some 25,.cf 0 (.t 3),(some (24,false)),[3,24]⟩,ie 26 25 24,⟨some 27,.bin (.int .eql) (.t 26) (.c (.int .i64 11)),(some (24,false)),[26,24]⟩,yX 28 24 27 20,ej 29 20 28])
 (.cond (.t 29)
 (.aj [a7 30 1,dA 31 3,a7 32 31,yY 33 32,nf 34 30 33,⟨none,.st 1 (.t 1) (.t 34),none,[1,34]⟩])
 (.skip)))
 (.aj [a7 35 2,dP 36 5,qh 37 35 36]))))
 (.aj [fM 38 13,ae 13 38])))
def IJ:bL:=
 .seq (.aj [eV 3 0])
 (.seq (.draw [a7 6 1,dP 7 3,⟨some 8,.call 65 [(.t 7)],none,[7]⟩,nf 9 6 8,⟨none,.st 1 (.t 1) (.t 9),none,[1,9]⟩] [(0,[2,3]),(1,[2])])
 (.seq (.aj [gE 10 3,a7 11 10,dY 12 11,eW 13])
 (.block 0 (.loop IK))))
theorem RE:cE 64 39 [] IJ:=cK Tryz.func64 (by kernel_rfl) (by kernel_rfl) rfl (by kernel_rfl) (by kernel_rfl)
def IM:bL:=
 .seq (.aj [gD 26 25 24])
 (.seq (.cond (.t 26)
 (.skip)
 (.exit 1))
 (.seq (.block 2 (.seq (.aj [lH 27 23 25,dP 28 27,lG 5,⟨none,.st 7 (.t 5) (.t 28),none,[5,28]⟩])
 (.aj [ae 29 3,hl 30 5,a7 31 30,yY 32 31,nf 33 29 32,ae 3 33])))
 (.aj [fM 34 25,ae 25 34])))
def RG:bL:=
 .seq (.aj [gD 42 41 40])
 (.seq (.cond (.t 42)
 (.skip)
 (.exit 3))
 (.seq (.block 4 (.seq (.aj [ae 43 41,ae 7 43])
 (.aj [ae 44 6,dA 45 1,a7 46 45,ae 47 7,oc 48 46 47,yY 49 48,nf 50 44 49,ae 6 50])))
 (.aj [fM 51 41,ae 41 51])))
def IL:bL:=
 .seq (.aj [eV 1 0,lF 2])
 (.seq (.seq (.aj [fW 8 1,a7 9 8])
 (.block 0 (.seq (.aj [Ch 11 9,ae 10 11])
 (.cond (.t 10)
 (.seq (.aj [dA 12 1,a7 13 12,yY 14 13,ae 2 14])
 (.ret))
 (.seq (.aj [Cf 16 9,ae 15 16])
 (.cond (.t 15)
 (.seq (.aj [lF 3])
 (.seq (.seq (.aj [gE 17 1,a7 18 17,gE 19 1,a7 20 19,dY 21 20,pc 22 21,Cd 23 18 22,dY 24 23,eW 25])
 (.block 1 (.loop IM)))
 (.seq (.aj [ae 35 3,ae 2 35])
 (.ret))))
 (.seq (.aj [Ci 37 9,ae 36 37])
 (.cond (.t 36)
 (.seq (.aj [lF 6])
 (.seq (.seq (.aj [qi 38 1,a7 39 38,dY 40 39,eW 41])
 (.block 3 (.loop RG)))
 (.seq (.aj [ae 52 6,ae 2 52])
 (.ret))))
 (.skip)))))))))
 (.seq (.aj [lF 2])
 (.ret)))
theorem RF:cE 65 53 [.t 2] IL:=cK Tryz.func65 (by kernel_rfl) (by kernel_rfl) rfl (by kernel_rfl) (by kernel_rfl)
def IP:bL:=
 .seq (.aj [gD 19 18 17])
 (.seq (.cond (.t 19)
 (.skip)
 (.exit 0))
 (.seq (.block 1 (.seq (.aj [sN 20 16 18,jy 21 20,uC 6,⟨none,.st 3 (.t 6) (.t 21),none,[6,21]⟩])
 (.seq (.aj [fW 22 6,a7 23 22,sO 24 23,ae 25 24,e3 26 1 25,qj 27 6 25,e3 28 27 25,⟨some 29,.look .int (.int .i64 0) false (.t 26) (.t 28),(some (25,true)),[26,28,25]⟩,⟨some 30,.bin (.int .eql) (.t 29) (.c (.int .i64 0)),(some (25,true)),[29,25]⟩,ej 31 25 30])
 (.cond (.t 31)
 (.aj [a7 32 2,dA 33 6,a7 34 33,⟨none,.dM .int (.t 32) (.t 34) (.c (.bool true)),none,[32,34]⟩])
 (.skip)))))
 (.aj [fM 35 18,ae 18 35])))
def IQ:bL:=
 .seq (.aj [gD 41 40 39])
 (.seq (.cond (.t 41)
 (.skip)
 (.exit 2))
 (.seq (.block 3 (.seq (.aj [iy 42 38 40,a7 43 42,ae 9 43])
 (.aj [a7 44 1,ae 45 9,wA 46 44 45,fM 47 46,⟨none,.dM .int (.t 44) (.t 45) (.t 47),none,[44,45,47]⟩])))
 (.aj [fM 48 40,ae 40 48])))
def IS:bL:=
 .seq (.aj [gD 53 52 51])
 (.seq (.cond (.t 53)
 (.skip)
 (.exit 4))
 (.seq (.block 5 (.seq (.aj [ae 54 52,lH 55 50 52,dP 56 55,lG 11,ae 10 54,⟨none,.st 7 (.t 11) (.t 56),none,[11,56]⟩])
 (.seq (.aj [ae 57 10,sO 58 57,ae 59 58,⟨some 60,.cf 0 (.t 4),(some (59,true)),[4,59]⟩,e3 61 60 59,⟨some 62,.bin (.int .eql) (.t 61) (.c (.int .i64 2)),(some (59,true)),[61,59]⟩,jW 63 62 59,⟨some 64,.cf 0 (.t 4),(some (63,false)),[4,63]⟩,ie 65 64 63,⟨some 66,.bin (.int .eql) (.t 65) (.c (.int .i64 11)),(some (63,false)),[65,63]⟩,yX 67 63 66 59,ej 68 59 67,ae 12 68])
 (.seq (.seq (.aj [ae 69 12])
 (.cond (.t 69)
 (.aj [a7 70 1,dA 71 4,a7 72 71,wA 73 70 72,fM 74 73,⟨none,.dM .int (.t 70) (.t 72) (.t 74),none,[70,72,74]⟩])
 (.skip)))
 (.seq (.aj [a7 75 3,dP 76 11,qh 77 75 76])
 (.seq (.aj [ae 78 12])
 (.cond (.t 78)
 (.aj [a7 79 1,dA 80 4,a7 81 80,wA 82 79 81,pc 83 82,⟨none,.dM .int (.t 79) (.t 81) (.t 83),none,[79,81,83]⟩])
 (.skip))))))))
 (.aj [fM 84 52,ae 52 84])))
def IT:bL:=
 .seq (.aj [gD 88 87 86])
 (.seq (.cond (.t 88)
 (.skip)
 (.exit 6))
 (.seq (.block 7 (.seq (.aj [iy 89 85 87,a7 90 89,ae 14 90])
 (.aj [a7 91 1,ae 92 14,wA 93 91 92,pc 94 93,⟨none,.dM .int (.t 91) (.t 92) (.t 94),none,[91,92,94]⟩])))
 (.aj [fM 95 87,ae 87 95])))
def IN:bL:=
 .seq (.aj [eV 4 0])
 (.seq (.seq (.aj [kG 15 4,a7 16 15,dY 17 16,eW 18])
 (.block 0 (.loop IP)))
 (.seq (.aj [dP 36 4,⟨some 37,.call 65 [(.t 36)],none,[36]⟩,ae 7 37])
 (.seq (.seq (.aj [ae 38 7,dY 39 38,eW 40])
 (.block 2 (.loop IQ)))
 (.seq (.seq (.aj [gE 49 4,a7 50 49,dY 51 50,eW 52])
 (.block 4 (.loop IS)))
 (.seq (.aj [ae 85 7,dY 86 85,eW 87])
 (.block 6 (.loop IT)))))))
theorem RH:cE 66 96 [] IN:=cK Tryz.func66 (by kernel_rfl) (by kernel_rfl) rfl (by kernel_rfl) (by kernel_rfl)
def CY:bL:=
 .seq (.aj [lF 2])
 (.seq (.seq (.aj [ae 3 0,⟨some 4,.bin (.kj false 2) (.t 3) (.c .aF),none,[3]⟩])
 (.cond (.t 4)
 (.seq (.aj [lF 2])
 (.ret))
 (.skip)))
 (.seq (.aj [⟨some 5,.g6 0 1 [(.int .i64 0)] [],none,[]⟩,ae 6 0,nf 7 5 6,ae 2 7])
 (.ret)))
theorem IV:cE 75 8 [.t 2] CY:=cK Tryz.func75 (by kernel_rfl) (by kernel_rfl) rfl (by kernel_rfl) (by kernel_rfl)
def lh:bL:=
 .seq (.aj [GO 2,eP 3])
 (.seq (.aj [uD 5,Cl 6 5,uD 7,Cl 8 7,Cm 9,Cn 10 9,Cm 11,Cn 12 11,⟨some 13,.build [(.int .i64 0),(.int .i64 0)] [(0,1,(.c (.int .i64 1))),(1,1,(.c (.int .i64 3)))],none,[]⟩,⟨some 14,.build [(.bool false),(.bool false),(.bool false),(.bool false),(.int .i64 0),(.int .i64 0),(.int .i64 0),(.int .i64 0)] [(2,1,(.c (.bool true))),(4,2,(.t 13))],none,[13]⟩,⟨some 15,.build [(.int .i64 0),(.int .i64 0)] [(0,1,(.c (.int .i64 0))),(1,1,(.c (.int .i64 1024)))],none,[]⟩,GP 16 15,uD 17,GP 18 17,Cm 19,Cl 20 19,uD 21,Cn 22 21,uD 23,GQ 24,GR 25 23 24,uD 26,GQ 27,GR 28 26 27,⟨some 29,.build [(.bool false),(.bool false),(.bool false),(.bool false),(.int .i64 0),(.int .i64 0),(.int .i64 0),(.int .i64 0),(.bool false),(.bool false),(.bool false),(.bool false),(.int .i64 0),(.int .i64 0),(.int .i64 0),(.int .i64 0),(.bool false),(.bool false),(.bool false),(.bool false),(.int .i64 0),(.int .i64 0),(.int .i64 0),(.int .i64 0),(.bool false),(.bool false),(.bool false),(.bool false),(.int .i64 0),(.int .i64 0),(.int .i64 0),(.int .i64 0),(.bool false),(.bool false),(.bool false),(.bool false),(.int .i64 0),(.int .i64 0),(.int .i64 0),(.int .i64 0),(.bool false),(.bool false),(.bool false),(.bool false),(.int .i64 0),(.int .i64 0),(.int .i64 0),(.int .i64 0),(.bool false),(.bool false),(.bool false),(.bool false),(.int .i64 0),(.int .i64 0),(.int .i64 0),(.int .i64 0),(.bool false),(.bool false),(.bool false),(.bool false),(.int .i64 0),(.int .i64 0),(.int .i64 0),(.int .i64 0),(.bool false),(.bool false),(.bool false),(.bool false),(.int .i64 0),(.int .i64 0),(.int .i64 0),(.int .i64 0),(.bool false),(.bool false),(.bool false),(.bool false),(.int .i64 0),(.int .i64 0),(.int .i64 0),(.int .i64 0),(.bool false),(.bool false),(.bool false),(.bool false),(.int .i64 0),(.int .i64 0),(.int .i64 0),(.int .i64 0),(.bool false),(.bool false),(.bool false),(.bool false),(.int .i64 0),(.int .i64 0),(.int .i64 0),(.int .i64 0),(.bool false),(.bool false),(.bool false),(.bool false),(.int .i64 0),(.int .i64 0),(.int .i64 0),(.int .i64 0)] [(8,8,(.t 6)),(96,8,(.t 8)),(16,8,(.t 10)),(88,8,(.t 12)),(24,8,(.t 14)),(32,8,(.t 16)),(40,8,(.t 18)),(48,8,(.t 20)),(56,8,(.t 22)),(72,8,(.t 25)),(80,8,(.t 28))],none,[6,8,10,12,14,16,18,20,22,25,28]⟩,⟨some 4,.new [(.bool false),(.bool false),(.bool false),(.bool false),(.int .i64 0),(.int .i64 0),(.int .i64 0),(.int .i64 0),(.bool false),(.bool false),(.bool false),(.bool false),(.int .i64 0),(.int .i64 0),(.int .i64 0),(.int .i64 0),(.bool false),(.bool false),(.bool false),(.bool false),(.int .i64 0),(.int .i64 0),(.int .i64 0),(.int .i64 0),(.bool false),(.bool false),(.bool false),(.bool false),(.int .i64 0),(.int .i64 0),(.int .i64 0),(.int .i64 0),(.bool false),(.bool false),(.bool false),(.bool false),(.int .i64 0),(.int .i64 0),(.int .i64 0),(.int .i64 0),(.bool false),(.bool false),(.bool false),(.bool false),(.int .i64 0),(.int .i64 0),(.int .i64 0),(.int .i64 0),(.bool false),(.bool false),(.bool false),(.bool false),(.int .i64 0),(.int .i64 0),(.int .i64 0),(.int .i64 0),(.bool false),(.bool false),(.bool false),(.bool false),(.int .i64 0),(.int .i64 0),(.int .i64 0),(.int .i64 0),(.bool false),(.bool false),(.bool false),(.bool false),(.int .i64 0),(.int .i64 0),(.int .i64 0),(.int .i64 0),(.bool false),(.bool false),(.bool false),(.bool false),(.int .i64 0),(.int .i64 0),(.int .i64 0),(.int .i64 0),(.bool false),(.bool false),(.bool false),(.bool false),(.int .i64 0),(.int .i64 0),(.int .i64 0),(.int .i64 0),(.bool false),(.bool false),(.bool false),(.bool false),(.int .i64 0),(.int .i64 0),(.int .i64 0),(.int .i64 0),(.bool false),(.bool false),(.bool false),(.bool false),(.int .i64 0),(.int .i64 0),(.int .i64 0),(.int .i64 0)],none,[]⟩,⟨none,.st 104 (.t 4) (.t 29),none,[4,29]⟩])
 (.seq (.seq (.aj [ae 30 0,⟨some 31,.bin (.int .leq) (.t 30) (.c (.int .i64 0)),none,[30]⟩,ae 32 31,gl 33 0 32,⟨some 34,.bin (.int .geq) (.t 33) (.c (.int .i64 13)),(some (32,false)),[33,32]⟩,gQ 35 32 34,ae 36 35,gl 37 0 36,⟨some 38,.bin (.int .eql) (.t 37) (.c (.int .i64 8)),(some (36,false)),[37,36]⟩,gQ 39 36 38])
 (.cond (.t 39)
 (.seq (.aj [⟨some 40,.build [(.bool false),(.bool false),(.bool false),(.bool false),(.int .i64 0),(.int .i64 0),(.int .i64 0),(.int .i64 0)] [],none,[]⟩,⟨none,.st 8 (.t 2) (.t 40),none,[2,40]⟩,eP 3])
 (.ret))
 (.skip)))
 (.seq (.aj [ae 41 0,⟨some 42,.q1 13 8 (.t 4) (.t 41),none,[4,41]⟩,⟨some 43,.gd 8 (.t 42),none,[42]⟩,⟨none,.st 8 (.t 2) (.t 43),none,[2,43]⟩,uE 3])
 (.ret))))
theorem lO:cE 119 44 [.pv 2 8,.t 3] lh:=cK Tryz.func119 (by kernel_rfl) (by kernel_rfl) rfl (by kernel_rfl) (by kernel_rfl)
def HM:bL:=
 .seq (.aj [eP 2])
 (.seq (.aj [ae 3 0,yW 4 3,ae 5 4,jW 6 0 5,⟨some 7,.bin (.int .leq) (.t 6) (.c (.int .i64 1048575)),(some (5,true)),[6,5]⟩,ej 8 5 7,ae 2 8])
 (.ret))
theorem Q1:cE 120 9 [.t 2] HM:=cK Tryz.func120 (by kernel_rfl) (by kernel_rfl) rfl (by kernel_rfl) (by kernel_rfl)
def HN:bL:=
 .seq (.aj [eV 3 1,eP 4])
 (.seq (.aj [ae 5 0,⟨some 6,.q1 2 1 (.t 3) (.c (.int .i64 0)),none,[3]⟩,a7 7 6,⟨some 8,.bin (.int .geq) (.t 5) (.t 7),none,[5,7]⟩,ae 9 8,jW 10 0 9,⟨some 11,.q1 2 1 (.t 3) (.c (.int .i64 1)),(some (9,true)),[3,9]⟩,e3 12 11 9,⟨some 13,.bin (.int .leq) (.t 10) (.t 12),(some (9,true)),[10,12,9]⟩,ej 14 9 13,ae 4 14])
 (.ret))
theorem Q2:cE 121 15 [.t 4] HN:=cK Tryz.func121 (by kernel_rfl) (by kernel_rfl) rfl (by kernel_rfl) (by kernel_rfl)
def HO:bL:=
 .seq (.aj [⟨some 0,.fz (.c .hU),none,[]⟩])
 (.seq (.aj [⟨some 1,.o4 none,none,[]⟩,⟨none,.dM .str (.t 1) (.c (.str [97,100,100])) (.c (.int .i64 2)),none,[1]⟩,⟨none,.dM .str (.t 1) (.c (.str [115,117,98])) (.c (.int .i64 2)),none,[1]⟩,⟨none,.dM .str (.t 1) (.c (.str [109,117,108])) (.c (.int .i64 2)),none,[1]⟩,⟨none,.dM .str (.t 1) (.c (.str [100,105,118])) (.c (.int .i64 2)),none,[1]⟩,⟨none,.dM .str (.t 1) (.c (.str [109,111,100])) (.c (.int .i64 2)),none,[1]⟩,⟨none,.dM .str (.t 1) (.c (.str [101,113])) (.c (.int .i64 2)),none,[1]⟩,⟨none,.dM .str (.t 1) (.c (.str [108,116])) (.c (.int .i64 2)),none,[1]⟩,⟨none,.dM .str (.t 1) (.c (.str [108,101])) (.c (.int .i64 2)),none,[1]⟩,⟨none,.dM .str (.t 1) (.c (.str [98,121,116,101])) (.c (.int .i64 2)),none,[1]⟩,⟨none,.dM .str (.t 1) (.c (.str [106,111,105,110])) (.c (.int .i64 2)),none,[1]⟩,⟨none,.dM .str (.t 1) (.c (.str [115,101,116])) (.c (.int .i64 2)),none,[1]⟩,⟨none,.dM .str (.t 1) (.c (.str [110,101,103])) (.c (.int .i64 1)),none,[1]⟩,⟨none,.dM .str (.t 1) (.c (.str [103,101,116,99])) (.c (.int .i64 1)),none,[1]⟩,⟨none,.dM .str (.t 1) (.c (.str [112,117,116,99])) (.c (.int .i64 1)),none,[1]⟩,⟨none,.dM .str (.t 1) (.c (.str [112,117,116,115])) (.c (.int .i64 1)),none,[1]⟩,⟨none,.dM .str (.t 1) (.c (.str [115,105,122,101])) (.c (.int .i64 1)),none,[1]⟩,⟨none,.dM .str (.t 1) (.c (.str [99,104,114])) (.c (.int .i64 1)),none,[1]⟩,⟨none,.dM .str (.t 1) (.c (.str [99,117,116])) (.c (.int .i64 3)),none,[1]⟩,ae 2 1,ae 0 2])
 (.ret))
theorem Q3:cE 122 3 [.t 0] HO:=cK Tryz.func122 (by kernel_rfl) (by kernel_rfl) rfl (by kernel_rfl) (by kernel_rfl)
def HQ:bL:=
 .seq (.aj [gD 12 11 10])
 (.seq (.cond (.t 12)
 (.skip)
 (.exit 0))
 (.seq (.block 1 (.seq (.aj [iy 13 9 11,a7 14 13,ae 5 14])
 (.seq (.aj [ae 15 5,⟨some 16,.call 120 [(.t 15)],none,[15]⟩,ae 6 16])
 (.seq (.seq (.aj [fW 17 1,a7 18 17,⟨some 19,.bin (.int .eql) (.t 18) (.c (.int .i64 10)),none,[18]⟩])
 (.cond (.t 19)
 (.aj [ae 20 5,⟨some 21,.bin (.int .geq) (.t 20) (.c (.int .i64 (-1073741824))),none,[20]⟩,ae 22 21,jW 23 5 22,⟨some 24,.bin (.int .leq) (.t 23) (.c (.int .i64 1073741823)),(some (22,true)),[23,22]⟩,ej 25 22 24,ae 6 25])
 (.skip)))
 (.seq (.seq (.aj [ae 26 6,g4 27 26,ae 28 27,gl 29 3 28,gl 30 5 28,⟨some 31,.look .int (.bool false) false (.t 29) (.t 30),(some (28,false)),[29,30,28]⟩,gQ 32 28 31])
 (.cond (.t 32)
 (.seq (.aj [eP 2])
 (.ret))
 (.skip)))
 (.aj [ae 33 3,ae 34 5,⟨none,.dM .int (.t 33) (.t 34) (.c (.bool true)),none,[33,34]⟩]))))))
 (.aj [fM 35 11,ae 11 35])))
def HP:bL:=
 .seq (.aj [eV 1 0,eP 2])
 (.seq (.aj [⟨some 7,.o4 none,none,[]⟩,ae 3 7])
 (.seq (.seq (.aj [qi 8 1,a7 9 8,dY 10 9,eW 11])
 (.block 0 (.loop HQ)))
 (.seq (.aj [gE 36 1,a7 37 36,dY 38 37,qi 39 1,a7 40 39,dY 41 40,sM 42 38 41,ae 43 42,⟨some 44,.cf 6 (.t 1),(some (43,false)),[1,43]⟩,ie 45 44 43,pb 46 45 43,⟨some 47,.cf 5 (.t 1),(some (43,false)),[1,43]⟩,ie 48 47 43,pb 49 48 43,⟨some 50,.bin (.int .add) (.t 49) (.c (.int .i64 1)),(some (43,false)),[49,43]⟩,⟨some 51,.bin (.int .eql) (.t 46) (.t 50),(some (43,false)),[46,50,43]⟩,gQ 52 43 51,ae 2 52])
 (.ret))))
theorem Q4:cE 123 53 [.t 2] HP:=cK Tryz.func123 (by kernel_rfl) (by kernel_rfl) rfl (by kernel_rfl) (by kernel_rfl)
def HR:bL:=
 .seq (.aj [eP 4])
 (.seq (.aj [ae 5 0,ae 6 1,⟨some 7,.call 160 [(.t 5),(.t 6)],none,[5,6]⟩,yW 8 7,ae 4 8])
 (.ret))
theorem Q5:cE 124 9 [.t 4] HR:=cK Tryz.func124 (by kernel_rfl) (by kernel_rfl) rfl (by kernel_rfl) (by kernel_rfl)
def HS:bL:=
 .seq (.aj [eV 1 0,eP 2])
 (.seq (.aj [jy 3 1,⟨some 4,.call 126 [(.t 3)],none,[3]⟩,g4 5 4,ae 2 5])
 (.ret))
theorem Q6:cE 125 6 [.t 2] HS:=cK Tryz.func125 (by kernel_rfl) (by kernel_rfl) rfl (by kernel_rfl) (by kernel_rfl)
def HT:bL:=
 .seq (.aj [eV 1 0,eP 2])
 (.seq (.seq (.aj [fW 3 1,a7 4 3])
 (.block 0 (.seq (.aj [sO 6 4,ae 5 6])
 (.cond (.t 5)
 (.seq (.aj [dA 7 1,a7 8 7,yW 9 8,ae 10 9,qj 11 1 10,e3 12 11 10,⟨some 13,.bin (.int .leq) (.t 12) (.c (.int .i64 1048575)),(some (10,true)),[12,10]⟩,ej 14 10 13,ae 15 14,qk 16 1 15,e3 17 16 15,⟨some 18,.bin (.str .eql) (.t 17) (.c (.str [])),(some (15,true)),[17,15]⟩,ej 19 15 18,ae 2 19])
 (.ret))
 (.seq (.aj [yV 21 4,ae 20 21])
 (.cond (.t 20)
 (.seq (.aj [dA 22 1,a7 23 22,⟨some 24,.bin (.int .geq) (.t 23) (.c (.int .i64 (-1073741824))),none,[23]⟩,ae 25 24,qj 26 1 25,e3 27 26 25,⟨some 28,.bin (.int .leq) (.t 27) (.c (.int .i64 1073741823)),(some (25,true)),[27,25]⟩,ej 29 25 28,ae 30 29,qk 31 1 30,e3 32 31 30,⟨some 33,.bin (.str .eql) (.t 32) (.c (.str [])),(some (30,true)),[32,30]⟩,ej 34 30 33,ae 2 34])
 (.ret))
 (.seq (.aj [Ck 36 4,ae 35 36])
 (.cond (.t 35)
 (.seq (.aj [dA 37 1,a7 38 37,Co 39 38,ae 40 39,qk 41 1 40,e3 42 41 40,⟨some 43,.len .str (.t 42),(some (40,true)),[42,40]⟩,⟨some 44,.bin (.int .leq) (.t 43) (.c (.int .i64 4096)),(some (40,true)),[43,40]⟩,ej 45 40 44,ae 2 45])
 (.ret))
 (.skip)))))))))
 (.seq (.aj [eP 2])
 (.ret)))
theorem Q7:cE 126 46 [.t 2] HT:=cK Tryz.func126 (by kernel_rfl) (by kernel_rfl) rfl (by kernel_rfl) (by kernel_rfl)
def HV:bL:=
 .seq (.aj [gD 9 8 7])
 (.seq (.cond (.t 9)
 (.skip)
 (.exit 0))
 (.seq (.block 1 (.seq (.aj [ae 10 8,ae 5 10])
 (.seq (.aj [ae 11 1,ae 12 0,ae 13 5,lH 14 12 13,dP 15 14,qh 16 11 15])
 (.cond (.t 16)
 (.seq (.aj [ae 17 5,ae 4 17])
 (.ret))
 (.skip)))))
 (.aj [fM 18 8,ae 8 18])))
def HU:bL:=
 .seq (.aj [eW 4])
 (.seq (.seq (.aj [ae 6 0,dY 7 6,eW 8])
 (.block 0 (.loop HV)))
 (.seq (.aj [⟨some 4,.fz (.c (.int .i64 (-1))),none,[]⟩])
 (.ret)))
theorem Q8:cE 127 19 [.t 4] HU:=cK Tryz.func127 (by kernel_rfl) (by kernel_rfl) rfl (by kernel_rfl) (by kernel_rfl)
def H_:bL:=
 .seq (.aj [gD 9 8 7])
 (.seq (.cond (.t 9)
 (.skip)
 (.exit 0))
 (.seq (.block 1 (.seq (.aj [ae 10 8,ae 5 10])
 (.seq (.aj [ae 11 1,ae 12 0,ae 13 5,sN 14 12 13,jy 15 14,qh 16 11 15])
 (.cond (.t 16)
 (.seq (.aj [ae 17 5,ae 4 17])
 (.ret))
 (.skip)))))
 (.aj [fM 18 8,ae 8 18])))
def H':bL:=
 .seq (.aj [eW 4])
 (.seq (.seq (.aj [ae 6 0,dY 7 6,eW 8])
 (.block 0 (.loop H_)))
 (.seq (.aj [⟨some 4,.fz (.c (.int .i64 (-1))),none,[]⟩])
 (.ret)))
theorem Rh:cE 160 19 [.t 4] H':=cK Tryz.func160 (by kernel_rfl) (by kernel_rfl) rfl (by kernel_rfl) (by kernel_rfl)
def uU:bL:=
 .seq (.aj [eV 1 0,eP 2])
 (.seq (.seq (.aj [dP 5 1,Cp 6 5])
 (.cond (.t 6)
 (.seq (.aj [⟨some 7,.call 11 [],none,[]⟩,ae 2 7])
 (.ret))
 (.skip)))
 (.seq (.aj [dP 8 1,⟨some 9,.call 12 [(.t 8)],none,[8]⟩,lG 3,⟨none,.st 7 (.t 3) (.t 9),none,[3,9]⟩])
 (.seq (.draw [dP 10 3,dP 12 1,⟨some 11,.call 20 [(.t 10)],none,[10]⟩,⟨some 13,.call 21 [(.t 12)],none,[12]⟩,sM 14 11 13,ae 15 14,kf 16 3 15,kf 18 1 15,⟨some 17,.call 22 [(.t 16)],(some (15,true)),[16,15]⟩,⟨some 19,.call 23 [(.t 18)],(some (15,true)),[18,15]⟩,rE 20 17 19 15,ej 21 15 20,ae 4 21] [(0,[2]),(1,[2,3]),(6,[8]),(7,[8,9])])
 (.seq (.draw [ae 22 4,ae 23 22,kf 24 3 23,kf 26 1 23,⟨some 25,.call 25 [(.t 24)],(some (23,true)),[24,23]⟩,⟨some 27,.call 26 [(.t 26)],(some (23,true)),[26,23]⟩,Cq 28 25 27 23,ej 29 23 28,ae 30 29,kf 31 3 30,kf 33 1 30,⟨some 32,.call 27 [(.t 31)],(some (30,true)),[31,30]⟩,⟨some 34,.call 28 [(.t 33)],(some (30,true)),[33,30]⟩,Cq 35 32 34 30,ej 36 30 35,ae 4 36] [(2,[4]),(3,[4,5]),(9,[11]),(10,[11,12])])
 (.seq (.aj [ae 37 4,ae 38 37,kf 39 3 38,kf 40 1 38,Cr 41 39 40 38,ej 42 38 41,ae 43 42,⟨some 44,.call 11 [],(some (43,true)),[43]⟩,ej 45 43 44,ae 2 45])
 (.ret))))))
def Hx:bL:=
 .seq (.aj [eV 2 0,eP 4])
 (.seq (.aj [dP 5 2,ae 6 1,⟨some 7,.call 39 [(.t 5),(.t 6)],none,[5,6]⟩,ae 8 1,⟨some 9,.bin (.int .gtr) (.t 7) (.t 8),none,[7,8]⟩,ae 4 9])
 (.ret))
theorem Q0:cE 10 10 [.t 4] Hx:=cK Tryz.func10 (by kernel_rfl) (by kernel_rfl) rfl (by kernel_rfl) (by kernel_rfl)
def H9:bL:=
 .seq (.aj [eV 2 0,eV 3 1,eP 4])
 (.seq (.aj [fW 5 2,a7 6 5,fW 7 3,a7 8 7,sM 9 6 8,ae 10 9,qj 11 2 10,e3 12 11 10,qj 13 3 10,e3 14 13 10,rE 15 12 14 10,ej 16 10 15,ae 17 16,qk 18 2 17,e3 19 18 17,qk 20 3 17,e3 21 20 17,rE 22 19 21 17,ej 23 17 22,ae 24 23,sP 25 2 24,e3 26 25 24,sP 27 3 24,e3 28 27 24,⟨some 29,.bin (.str .eql) (.t 26) (.t 28),(some (24,true)),[26,28,24]⟩,ej 30 24 29,ae 31 30,wD 32 2 31,e3 33 32 31,wD 34 3 31,e3 35 34 31,⟨some 36,.call 42 [(.t 33),(.t 35)],(some (31,true)),[33,35,31]⟩,ej 37 31 36,ae 38 37,⟨some 39,.cf 5 (.t 2),(some (38,true)),[2,38]⟩,e3 40 39 38,⟨some 41,.cf 5 (.t 3),(some (38,true)),[3,38]⟩,e3 42 41 38,Cq 43 40 42 38,ej 44 38 43,ae 45 44,⟨some 46,.cf 6 (.t 2),(some (45,true)),[2,45]⟩,e3 47 46 45,⟨some 48,.cf 6 (.t 3),(some (45,true)),[3,45]⟩,e3 49 48 45,⟨some 50,.call 43 [(.t 47),(.t 49)],(some (45,true)),[47,49,45]⟩,ej 51 45 50,ae 4 51])
 (.ret))
theorem Ri:cE 16 52 [.t 4] H9:=cK Tryz.func16 (by kernel_rfl) (by kernel_rfl) rfl (by kernel_rfl) (by kernel_rfl)
def Ig:bL:=
 .seq (.seq (.aj [ae 11 5,ae 12 0,dY 13 12,gD 14 11 13])
 (.cond (.t 14)
 (.skip)
 (.exit 0)))
 (.seq (.block 1 (.seq (.draw [ae 17 0,ae 18 5,iy 19 17 18,a7 20 19,ae 21 1,ae 22 5,iy 23 21 22,a7 24 23,pa 25 20 24] [])
 (.cond (.t 25)
 (.seq (.aj [eP 4])
 (.ret))
 (.skip))))
 (.aj [ae 15 5,fM 16 15,ae 5 16]))
def Ie:bL:=
 .seq (.aj [eP 4])
 (.seq (.seq (.aj [ae 6 0,dY 7 6,ae 8 1,dY 9 8,pa 10 7 9])
 (.cond (.t 10)
 (.seq (.aj [eP 4])
 (.ret))
 (.skip)))
 (.seq (.seq (.aj [eW 5])
 (.block 0 (.loop Ig)))
 (.seq (.aj [uE 4])
 (.ret))))
theorem Rm:cE 24 26 [.t 4] Ie:=cK Tryz.func24 (by kernel_rfl) (by kernel_rfl) rfl (by kernel_rfl) (by kernel_rfl)
def Il:bL:=
 .seq (.seq (.aj [ae 21 6,kG 22 2,a7 23 22,dY 24 23,gD 25 21 24])
 (.cond (.t 25)
 (.skip)
 (.exit 0)))
 (.seq (.block 1 (.aj [ae 28 5,kG 29 2,a7 30 29,ae 31 6,sN 32 30 31,hl 33 32,a7 34 33,wE 35 34,⟨some 36,.bin (.int .quo) (.t 35) (.c (.int .i64 100)),none,[35]⟩,oc 37 28 36,ae 5 37]))
 (.aj [ae 26 6,fM 27 26,ae 6 27]))
def Im:bL:=
 .seq (.seq (.aj [ae 38 7,gE 39 2,a7 40 39,dY 41 40,gD 42 38 41,ae 43 42,jW 44 5 43,jW 45 1 43,⟨some 46,.bin (.int .leq) (.t 44) (.t 45),(some (43,true)),[44,45,43]⟩,ej 47 43 46])
 (.cond (.t 47)
 (.skip)
 (.exit 2)))
 (.seq (.block 3 (.aj [ae 50 5,gE 51 2,a7 52 51,ae 53 7,lH 54 52 53,dP 55 54,ae 56 1,ae 57 5,⟨some 58,.bin (.int .sub) (.t 56) (.t 57),none,[56,57]⟩,⟨some 59,.call 39 [(.t 55),(.t 58)],none,[55,58]⟩,oc 60 50 59,ae 5 60]))
 (.aj [ae 48 7,fM 49 48,ae 7 49]))
def Ik:bL:=
 .seq (.aj [eV 2 0,eW 4])
 (.seq (.aj [kG 8 2,a7 9 8,dY 10 9,⟨some 11,.bin (.int .add) (.c (.int .i64 1)) (.t 10),none,[10]⟩,qi 12 2,a7 13 12,dY 14 13,oc 15 11 14,od 16 2,a7 17 16,wE 18 17,⟨some 19,.bin (.int .quo) (.t 18) (.c (.int .i64 100)),none,[18]⟩,oc 20 15 19,ae 5 20])
 (.seq (.seq (.aj [eW 6])
 (.block 0 (.loop Il)))
 (.seq (.seq (.aj [eW 7])
 (.block 2 (.loop Im)))
 (.seq (.aj [ae 61 5,ae 4 61])
 (.ret)))))
theorem Rp:cE 39 62 [.t 4] Ik:=cK Tryz.func39 (by kernel_rfl) (by kernel_rfl) rfl (by kernel_rfl) (by kernel_rfl)
def Ir:bL:=
 .seq (.seq (.aj [ae 11 5,ae 12 0,dY 13 12,gD 14 11 13])
 (.cond (.t 14)
 (.skip)
 (.exit 0)))
 (.seq (.block 1 (.seq (.draw [ae 17 0,ae 18 5,sN 19 17 18,jy 20 19,ae 21 1,ae 22 5,sN 23 21 22,jy 24 23,⟨some 25,.bin (.other .neq 41) (.t 20) (.t 24),none,[20,24]⟩] [])
 (.cond (.t 25)
 (.seq (.aj [eP 4])
 (.ret))
 (.skip))))
 (.aj [ae 15 5,fM 16 15,ae 5 16]))
def Iq:bL:=
 .seq (.aj [eP 4])
 (.seq (.seq (.aj [ae 6 0,dY 7 6,ae 8 1,dY 9 8,pa 10 7 9])
 (.cond (.t 10)
 (.seq (.aj [eP 4])
 (.ret))
 (.skip)))
 (.seq (.seq (.aj [eW 5])
 (.block 0 (.loop Ir)))
 (.seq (.aj [uE 4])
 (.ret))))
theorem Rr:cE 42 26 [.t 4] Iq:=cK Tryz.func42 (by kernel_rfl) (by kernel_rfl) rfl (by kernel_rfl) (by kernel_rfl)
def It:bL:=
 .seq (.seq (.aj [ae 11 5,ae 12 0,dY 13 12,gD 14 11 13])
 (.cond (.t 14)
 (.skip)
 (.exit 0)))
 (.seq (.block 1 (.seq (.draw [ae 17 0,ae 18 5,lH 19 17 18,dP 20 19,ae 21 1,ae 22 5,lH 23 21 22,dP 24 23,⟨some 25,.call 16 [(.t 20),(.t 24)],none,[20,24]⟩,g4 26 25] [(3,[8]),(7,[8])])
 (.cond (.t 26)
 (.seq (.aj [eP 4])
 (.ret))
 (.skip))))
 (.aj [ae 15 5,fM 16 15,ae 5 16]))
def Is:bL:=
 .seq (.aj [eP 4])
 (.seq (.seq (.aj [ae 6 0,dY 7 6,ae 8 1,dY 9 8,pa 10 7 9])
 (.cond (.t 10)
 (.seq (.aj [eP 4])
 (.ret))
 (.skip)))
 (.seq (.seq (.aj [eW 5])
 (.block 0 (.loop It)))
 (.seq (.aj [uE 4])
 (.ret))))
theorem Rs:cE 43 27 [.t 4] Is:=cK Tryz.func43 (by kernel_rfl) (by kernel_rfl) rfl (by kernel_rfl) (by kernel_rfl)
end Go.Proofs.YtjbiefneffiogaaGreat
