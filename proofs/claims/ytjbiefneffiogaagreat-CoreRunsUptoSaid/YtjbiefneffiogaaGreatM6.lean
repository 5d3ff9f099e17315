/- The chapter's functions, walked by the abstract machine: plain lemmas, no condition. Printed by a program from longer texts: names made short. -/
import Derived.Test.YtjbiefneffiogaaGreatM5
import Derived.Test.YtjbiefneffiogaaGreatRows
import Derived.Test.YtjbiefneffiogaaGreatM3
import Derived.Shelf.SortM.Plain
import Derived.Shelf.SortM.SortNone
import Derived.Shelf.SlIterI.Nil
set_option linter.unusedSectionVars false
set_option linter.unusedSimpArgs false
set_option linter.unusedVariables false
namespace Go.Proofs.YtjbiefneffiogaaGreat
open Go Go.Shelf bA
abbrev ab (d aA:Nat):br:=⟨some d,.gQ (.t aA),none,[aA]⟩
abbrev aE (d aA:Nat):br:=⟨some d,.b9 (.t aA),none,[aA]⟩
abbrev bG (d aA:Nat):br:=⟨some d,.s8 (.t aA),none,[aA]⟩
abbrev cK (d aA:Nat):br:=⟨some d,.gl 7 (.t aA),none,[aA]⟩
abbrev cN (d aA bt:Nat):br:=⟨some d,.pick (.t aA) (.t bt) (.c (.bool false)),none,[aA,bt]⟩
abbrev cQ (d aA:Nat):br:=⟨some d,.c2 1 (.t aA),none,[aA]⟩
abbrev cY (d aA bt:Nat):br:=⟨some d,.b9 (.t aA),(some (bt,true)),[aA,bt]⟩
abbrev db (d aA:Nat):br:=⟨some d,.len .slice (.t aA),none,[aA]⟩
abbrev dM (d aA:Nat):br:=⟨some d,.box (.t aA),none,[aA]⟩
abbrev dH (d aA bt:Nat):br:=⟨some d,.gQ (.t aA),(some (bt,true)),[aA,bt]⟩
abbrev dV (d:Nat):br:=⟨some d,.gQ (.c (.bool false)),none,[]⟩
abbrev eu (d aA:Nat):br:=⟨some d,.c2 6 (.t aA),none,[aA]⟩
abbrev ey (d:Nat):br:=⟨some d,.gQ (.c (.int .i64 0)),none,[]⟩
abbrev eQ (d aA:Nat):br:=⟨some d,.c2 0 (.t aA),none,[aA]⟩
abbrev e' (d aA:Nat):br:=⟨some d,.bin (.int .add) (.t aA) (.c (.int .i64 1)),none,[aA]⟩
abbrev e_ (d aA:Nat):br:=⟨some d,.c2 2 (.t aA),none,[aA]⟩
abbrev fz (d aA bt:Nat):br:=⟨some d,.bin (.int .lss) (.t aA) (.t bt),none,[aA,bt]⟩
abbrev fI (d aA bt:Nat):br:=⟨some d,.pick (.t aA) (.c (.bool true)) (.t bt),none,[aA,bt]⟩
abbrev fJ (d aA bt:Nat):br:=⟨some d,.gQ (.t aA),(some (bt,false)),[aA,bt]⟩
abbrev fS (d aA:Nat):br:=⟨some d,.b_ 1 (.t aA) (.c (.int .i64 0)),none,[aA]⟩
abbrev f' (d aA bt:Nat):br:=⟨some d,.b9 (.t aA),(some (bt,false)),[aA,bt]⟩
abbrev gu (d aA:Nat):br:=⟨some d,.un .not (.t aA),none,[aA]⟩
abbrev h3 (d aA bt:Nat):br:=⟨some d,.b_ 1 (.t aA) (.t bt),none,[aA,bt]⟩
abbrev ie (d aA bt:Nat):br:=⟨some d,.app 1 (.t aA) (.t bt),none,[aA,bt]⟩
abbrev iT (d aA bt:Nat):br:=⟨some d,.b_ 7 (.t aA) (.t bt),none,[aA,bt]⟩
abbrev jy (d:Nat):br:=⟨some d,.gQ (.c .ay),none,[]⟩
abbrev jz (d aA:Nat):br:=⟨some d,.c2 4 (.t aA),none,[aA]⟩
abbrev kb (d aA:Nat):br:=⟨some d,.bin (.int .sub) (.t aA) (.c (.int .i64 1)),none,[aA]⟩
abbrev kB (d:Nat):br:=⟨some d,.gQ (.c .ch),none,[]⟩
abbrev kC (d aA:Nat):br:=⟨some d,.c2 7 (.t aA),none,[aA]⟩
abbrev kV (d aA bt:Nat):br:=⟨some d,.gl 7 (.t aA),(some (bt,true)),[aA,bt]⟩
abbrev kW (d aA:Nat):br:=⟨some d,.gl 3 (.t aA),none,[aA]⟩
abbrev kX (d aA:Nat):br:=⟨some d,.c2 8 (.t aA),none,[aA]⟩
abbrev lx (d aA bt:Nat):br:=⟨some d,.len .slice (.t aA),(some (bt,false)),[aA,bt]⟩
abbrev ly (d aA bt:Nat):br:=⟨some d,.c2 1 (.t aA),(some (bt,true)),[aA,bt]⟩
abbrev lz (d:Nat):br:=⟨some d,.gQ (.c (.bool true)),none,[]⟩
abbrev lA (d aA bt:Nat):br:=⟨some d,.call 101 [(.t aA),(.t bt)],none,[aA,bt]⟩
abbrev l3 (d aA bt:Nat):br:=⟨some d,.c2 2 (.t aA),(some (bt,true)),[aA,bt]⟩
abbrev l4 (d aA:Nat):br:=⟨some d,.b_ 1 (.t aA) (.c (.int .i64 1)),none,[aA]⟩
abbrev l5 (d aA bt:Nat):br:=⟨some d,.call 110 [(.t aA),(.t bt)],none,[aA,bt]⟩
abbrev mH (d aA bt:Nat):br:=⟨some d,.c2 4 (.t aA),(some (bt,true)),[aA,bt]⟩
abbrev nf (d:Nat):br:=⟨some d,.new [(.int .i64 0),(.int .i64 0),(.int .i64 0),(.str []),.ay,.ay,.ay],none,[]⟩
abbrev ng (d aA:Nat):br:=⟨some d,.c2 3 (.t aA),none,[aA]⟩
abbrev nK (d aA:Nat):br:=⟨some d,.bin (.int .eql) (.t aA) (.c (.int .i64 2)),none,[aA]⟩
abbrev oy (d aA bt:Nat):br:=⟨some d,.bin (.int .neq) (.t aA) (.t bt),none,[aA,bt]⟩
abbrev oz (d aA bt:Nat):br:=⟨some d,.bin (.int .add) (.t aA) (.t bt),none,[aA,bt]⟩
abbrev oA (d aA bt:Nat):br:=⟨some d,.bin (.int .eql) (.t aA) (.t bt),none,[aA,bt]⟩
abbrev oB (d aA:Nat):br:=⟨some d,.bin (.int .eql) (.t aA) (.c (.int .i64 1)),none,[aA]⟩
abbrev oC (d aA:Nat):br:=⟨some d,.h5 1 1 [(.int .i64 0)] [(0,1,(.t aA))],none,[aA]⟩
abbrev pw (d aA:Nat):br:=⟨some d,.c2 5 (.t aA),none,[aA]⟩
abbrev px (d aA:Nat):br:=⟨some d,.c2 15 (.t aA),none,[aA]⟩
abbrev qd (d aA bt:Nat):br:=⟨some d,.c2 3 (.t aA),(some (bt,true)),[aA,bt]⟩
abbrev q7 (d aA bt:Nat):br:=⟨some d,.len .slice (.t aA),(some (bt,true)),[aA,bt]⟩
abbrev q8 (d aA bt fe:Nat):br:=⟨some d,.pick (.t aA) (.c (.bool true)) (.t bt),(some (fe,true)),[aA,bt,fe]⟩
abbrev q9 (d aA bt:Nat):br:=⟨some d,.b_ 3 (.t aA) (.t bt),none,[aA,bt]⟩
abbrev q' (d aA bt fe:Nat):br:=⟨some d,.bin (.int .eql) (.t aA) (.t bt),(some (fe,true)),[aA,bt,fe]⟩
abbrev q_ (d aA bt fe:Nat):br:=⟨some d,.call 146 [(.t aA),(.t bt),(.t fe)],none,[aA,bt,fe]⟩
abbrev ra (d aA bt:Nat):br:=⟨some d,.s8 (.t aA),(some (bt,false)),[aA,bt]⟩
abbrev rb (d:Nat):br:=⟨some d,.new [(.int .i64 0),(.int .i64 0),(.int .i64 0),(.int .i64 0),.ay],none,[]⟩
abbrev re (d aA:Nat):br:=⟨some d,.call 154 [(.t aA)],none,[aA]⟩
abbrev se (d aA bt:Nat):br:=⟨some d,.c2 2 (.t aA),(some (bt,false)),[aA,bt]⟩
abbrev sf (d aA bt:Nat):br:=⟨some d,.bin (.int .eql) (.t aA) (.c (.int .i64 0)),(some (bt,true)),[aA,bt]⟩
abbrev sg (d aA:Nat):br:=⟨some d,.call 79 [(.t aA)],none,[aA]⟩
abbrev sh (d aA bt:Nat):br:=⟨some d,.s8 (.t aA),(some (bt,true)),[aA,bt]⟩
abbrev si (d aA bt:Nat):br:=⟨some d,.b_ 1 (.t aA) (.c (.int .i64 1)),(some (bt,true)),[aA,bt]⟩
abbrev tB (d aA:Nat):br:=⟨some d,.ext (.t aA) 0,none,[aA]⟩
abbrev tC (d aA:Nat):br:=⟨some d,.ext (.t aA) 1,none,[aA]⟩
abbrev tD (d aA:Nat):br:=⟨some d,.b_ 7 (.t aA) (.c (.int .i64 0)),none,[aA]⟩
abbrev u4 (d aA bt:Nat):br:=⟨some d,.c2 6 (.t aA),(some (bt,false)),[aA,bt]⟩
abbrev u5 (d aA bt:Nat):br:=⟨some d,.un .not (.t aA),(some (bt,true)),[aA,bt]⟩
abbrev u6 (d aA:Nat):br:=⟨some d,.bin (.int .eql) (.t aA) (.c (.int .i64 11)),none,[aA]⟩
abbrev wX (d aA:Nat):br:=⟨some d,.bin (.int .neq) (.t aA) (.c (.int .i64 0)),none,[aA]⟩
abbrev wY (d aA bt:Nat):br:=⟨some d,.rq (.t aA) [(.t bt)],none,[aA,bt]⟩
abbrev wZ (d aA:Nat):br:=⟨some d,.bin (.int .eql) (.t aA) (.c (.int .i64 3)),none,[aA]⟩
abbrev w0 (d aA:Nat):br:=⟨some d,.bin (.int .eql) (.t aA) (.c (.int .i64 7)),none,[aA]⟩
abbrev w1 (d aA:Nat):br:=⟨some d,.bin (.int .eql) (.t aA) (.c (.int .i64 8)),none,[aA]⟩
abbrev w2 (d:Nat):br:=⟨some d,.build [(.int .i64 0),(.int .i64 0)] [(0,1,(.c (.int .i64 1))),(1,1,(.c (.int .i64 1)))],none,[]⟩
abbrev w3 (d aA bt:Nat):br:=⟨some d,.len .str (.t aA),(some (bt,true)),[aA,bt]⟩
abbrev w4 (d aA:Nat):br:=⟨some d,.len .str (.t aA),none,[aA]⟩
abbrev w5 (d aA bt fe:Nat):br:=⟨some d,.b_ 1 (.t aA) (.t bt),(some (fe,true)),[aA,bt,fe]⟩
abbrev w6 (d aA bt fe:Nat):br:=⟨some d,.build [(.int .i64 0),.ch,.ch] [(0,1,(.t aA)),(1,1,(.t bt)),(2,1,(.t fe))],none,[aA,bt,fe]⟩
abbrev w7 (d aA:Nat):br:=⟨some d,.c2 9 (.t aA),none,[aA]⟩
abbrev w8 (d aA:Nat):br:=⟨some d,.call 103 [(.t aA),(.c (.int .i64 6))],none,[aA]⟩
abbrev w9 (d aA bt:Nat):br:=⟨some d,.b_ 1 (.t aA) (.c (.int .i64 0)),(some (bt,false)),[aA,bt]⟩
abbrev w' (d aA bt:Nat):br:=⟨some d,.bin (.int .lss) (.t aA) (.c (.int .i64 0)),(some (bt,false)),[aA,bt]⟩
abbrev w_ (d aA:Nat):br:=⟨some d,.h5 1 1 [.ch] [(0,1,(.t aA))],none,[aA]⟩
abbrev xa (d aA:Nat):br:=⟨some d,.gl 5 (.t aA),none,[aA]⟩
abbrev xb (d aA:Nat):br:=⟨some d,.call 113 [(.t aA),(.c (.int .i64 6))],none,[aA]⟩
abbrev xc (d aA:Nat):br:=⟨some d,.call 156 [(.t aA)],none,[aA]⟩
abbrev yU (d aA:Nat):br:=⟨some d,.call 44 [(.t aA)],none,[aA]⟩
abbrev yV (d aA bt:Nat):br:=⟨some d,.un .not (.t aA),(some (bt,false)),[aA,bt]⟩
abbrev yW (d:Nat):br:=⟨some d,.gQ (.c (.int .i64 1)),none,[]⟩
abbrev yX (d aA bt:Nat):br:=⟨some d,.c2 5 (.t aA),(some (bt,true)),[aA,bt]⟩
abbrev yY (d aA:Nat):br:=⟨some d,.bin (.int .geq) (.t aA) (.c (.int .i64 0)),none,[aA]⟩
abbrev yZ (d aA bt:Nat):br:=⟨some d,.c2 0 (.t aA),(some (bt,true)),[aA,bt]⟩
abbrev y0 (d:Nat):br:=⟨some d,.new [(.int .i64 0),(.int .i64 0),(.str [])],none,[]⟩
abbrev y1 (d:Nat):br:=⟨some d,.h5 0 1 [(.int .i64 0)] [],none,[]⟩
abbrev y2 (d aA:Nat):br:=⟨some d,.bin (.int .eql) (.t aA) (.c (.int .i64 10)),none,[aA]⟩
abbrev y3 (d aA:Nat):br:=⟨some d,.bin (.int .eql) (.t aA) (.c (.int .i64 0)),none,[aA]⟩
abbrev y4 (d aA:Nat):br:=⟨some d,.call 10 [(.t aA),(.c (.int .i64 400))],none,[aA]⟩
abbrev yH (d aA:Nat):br:=⟨some d,.call 47 [(.t aA)],none,[aA]⟩
abbrev yI (d aA:Nat):br:=⟨some d,.b_ 7 (.t aA) (.c (.int .i64 1)),none,[aA]⟩
abbrev yJ (d aA bt:Nat):br:=⟨some d,.bin (.int .eql) (.t aA) (.c (.int .i64 1)),(some (bt,true)),[aA,bt]⟩
abbrev yK (d aA:Nat):br:=⟨some d,.bin (.str .eql) (.t aA) (.c (.str [98,121,116,101])),none,[aA]⟩
abbrev yL (d aA:Nat):br:=⟨some d,.bin (.str .eql) (.t aA) (.c (.str [106,111,105,110])),none,[aA]⟩
abbrev yM (d aA:Nat):br:=⟨some d,.bin (.str .eql) (.t aA) (.c (.str [99,117,116])),none,[aA]⟩
abbrev yN (d aA:Nat):br:=⟨some d,.jD (.int .i64) (.t aA),none,[aA]⟩
abbrev yO (d aA:Nat):br:=⟨some d,.bin (.int .neq) (.t aA) (.c (.int .i64 4)),none,[aA]⟩
abbrev yP (d aA:Nat):br:=⟨some d,.call 80 [(.t aA)],none,[aA]⟩
abbrev yQ (d aA bt:Nat):br:=⟨some d,.call 108 [(.t aA),(.t bt)],none,[aA,bt]⟩
abbrev yR (d aA bt fe:Nat):br:=⟨some d,.bin (.int .geq) (.t aA) (.t bt),(some (fe,false)),[aA,bt,fe]⟩
abbrev yS (d aA:Nat):br:=⟨some d,.c2 11 (.t aA),none,[aA]⟩
abbrev yT (d aA bt fe:Nat):br:=⟨some d,.call 13 [(.t aA),(.t bt),(.t fe)],none,[aA,bt,fe]⟩
abbrev Bs (d aA:Nat):br:=⟨some d,.bin (.int .gtr) (.t aA) (.c (.int .i64 0)),none,[aA]⟩
abbrev Bt (d aA bt:Nat):br:=⟨some d,.c2 3 (.t aA),(some (bt,false)),[aA,bt]⟩
abbrev Bu (d aA bt:Nat):br:=⟨some d,.c2 5 (.t aA),(some (bt,false)),[aA,bt]⟩
abbrev Bv (d aA bt:Nat):br:=⟨some d,.c2 4 (.t aA),(some (bt,false)),[aA,bt]⟩
abbrev Bw (d aA:Nat):br:=⟨some d,.bin (.int .eql) (.t aA) (.c (.int .i64 5)),none,[aA]⟩
abbrev Bx (d aA bt:Nat):br:=⟨some d,.bin (.int .eql) (.t aA) (.c (.int .i64 2)),(some (bt,true)),[aA,bt]⟩
abbrev By (d aA bt:Nat):br:=⟨some d,.look .int (.int .i64 0) false (.t aA) (.t bt),none,[aA,bt]⟩
abbrev Bz (d aA bt:Nat):br:=⟨some d,.bin (.str .eql) (.t aA) (.c (.str [])),(some (bt,true)),[aA,bt]⟩
abbrev BA (d aA:Nat):br:=⟨some d,.call 11 [],(some (aA,true)),[aA]⟩
abbrev BB (d aA bt fe:Nat):br:=⟨some d,.bin (.int .lss) (.t aA) (.t bt),(some (fe,true)),[aA,bt,fe]⟩
abbrev BC (d aA bt:Nat):br:=⟨some d,.call 130 [(.t aA)],(some (bt,true)),[aA,bt]⟩
abbrev BD (d aA:Nat):br:=⟨some d,.bin (.int .eql) (.t aA) (.c (.int .i64 4)),none,[aA]⟩
abbrev BE (d aA bt:Nat):br:=⟨some d,.bin (.int .geq) (.t aA) (.c (.int .i64 0)),(some (bt,true)),[aA,bt]⟩
abbrev BF (d aA:Nat):br:=⟨some d,.bin (.str .eql) (.t aA) (.c (.str [110,101,103])),none,[aA]⟩
abbrev BG (d aA:Nat):br:=⟨some d,.bin (.str .eql) (.t aA) (.c (.str [103,101,116,99])),none,[aA]⟩
abbrev BH (d aA:Nat):br:=⟨some d,.bin (.str .eql) (.t aA) (.c (.str [112,117,116,99])),none,[aA]⟩
abbrev BI (d aA:Nat):br:=⟨some d,.bin (.str .eql) (.t aA) (.c (.str [112,117,116,115])),none,[aA]⟩
abbrev BJ (d aA:Nat):br:=⟨some d,.bin (.str .eql) (.t aA) (.c (.str [115,105,122,101])),none,[aA]⟩
abbrev BK (d aA:Nat):br:=⟨some d,.bin (.str .eql) (.t aA) (.c (.str [99,104,114])),none,[aA]⟩
abbrev BL (d:Nat):br:=⟨some d,.call 102 [(.c (.int .i64 0)),(.c .ay)],none,[]⟩
abbrev BM (d:Nat):br:=⟨some d,.new [(.bool false),(.int .i64 0),.ch,.ch],none,[]⟩
abbrev BN (d aA bt fe:Nat):br:=⟨some d,.call 152 [(.t aA),(.t bt),(.t fe)],none,[aA,bt,fe]⟩
abbrev BO (d aA:Nat):br:=⟨some d,.jD (.int .u8) (.t aA),none,[aA]⟩
abbrev BP (d aA:Nat):br:=⟨some d,.h5 1 1 [(.int .u8 0)] [(0,1,(.t aA))],none,[aA]⟩
abbrev BQ (d aA bt:Nat):br:=⟨some d,.len .str (.t aA),(some (bt,false)),[aA,bt]⟩
abbrev BR (d aA bt:Nat):br:=⟨some d,.b_ 8 (.t aA) (.t bt),none,[aA,bt]⟩
abbrev BS (d:Nat):br:=⟨some d,.call 112 [(.c (.int .i64 0)),(.c .ay)],none,[]⟩
abbrev Et (d aA bt:Nat):br:=⟨some d,.bin (.int .gtr) (.t aA) (.c (.int .i64 0)),(some (bt,false)),[aA,bt]⟩
abbrev Eu (d aA bt:Nat):br:=⟨some d,.g_ 7 (.t aA) none (some (.t bt)) none,none,[aA,bt]⟩
abbrev Ev (d aA bt:Nat):br:=⟨some d,.g_ 1 (.t aA) (some (.t bt)) none none,none,[aA,bt]⟩
abbrev Ew (d aA bt:Nat):br:=⟨some d,.bin (.int .neq) (.t aA) (.c (.int .i64 0)),(some (bt,true)),[aA,bt]⟩
abbrev Ex (d aA:Nat):br:=⟨some d,.bin (.int .eql) (.t aA) (.c (.int .i64 14)),none,[aA]⟩
abbrev Ey (d aA:Nat):br:=⟨some d,.build [(.bool false),(.bool false),(.bool false),(.bool false),(.int .i64 0),(.int .i64 0),(.int .i64 0),(.int .i64 0)] [(4,2,(.t aA))],none,[aA]⟩
abbrev Ez (d:Nat):br:=⟨some d,.build [(.int .i64 0),(.int .i64 0)] [(0,1,(.c (.int .i64 2))),(1,1,(.c (.int .i64 2)))],none,[]⟩
abbrev EA (d aA:Nat):br:=⟨some d,.build [(.bool false),(.bool false),(.bool false),(.bool false),(.int .i64 0),(.int .i64 0),(.int .i64 0),(.int .i64 0)] [(0,1,(.c (.bool true))),(6,2,(.t aA))],none,[aA]⟩
abbrev EB (d aA bt:Nat):br:=⟨some d,.bin (.int .leq) (.t aA) (.c (.int .i64 1048575)),(some (bt,true)),[aA,bt]⟩
abbrev EC (d aA bt fe:Nat):br:=⟨some d,.bin (.int .leq) (.t aA) (.t bt),(some (fe,true)),[aA,bt,fe]⟩
abbrev ED (d aA:Nat):br:=⟨some d,.bin (.int .geq) (.t aA) (.c (.int .i64 (-1073741824))),none,[aA]⟩
abbrev EE (d aA bt:Nat):br:=⟨some d,.bin (.int .leq) (.t aA) (.c (.int .i64 1073741823)),(some (bt,true)),[aA,bt]⟩
abbrev EF (d aA bt:Nat):br:=⟨some d,.bin (.int .leq) (.t aA) (.c (.int .i64 4096)),(some (bt,true)),[aA,bt]⟩
abbrev EG (d aA bt fe:Nat):br:=⟨some d,.call 24 [(.t aA),(.t bt)],(some (fe,true)),[aA,bt,fe]⟩
abbrev EH (d aA bt fe:Nat):br:=⟨some d,.call 16 [(.t aA),(.t bt)],(some (fe,true)),[aA,bt,fe]⟩
abbrev EI (d aA:Nat):br:=⟨some d,.bin (.int .add) (.c (.int .i64 1)) (.t aA),none,[aA]⟩
abbrev EJ (d aA:Nat):br:=⟨some d,.call 69 [(.t aA),(.c (.bool false)),(.c (.bool false)),(.c (.bool false)),(.c (.bool false))],none,[aA]⟩
abbrev EK (d aA bt fe:Nat):br:=⟨some d,.call 54 [(.t aA),(.t bt),(.t fe)],none,[aA,bt,fe]⟩
abbrev EL (d aA bt:Nat):br:=⟨some d,.bin (.int .eql) (.t aA) (.c (.int .i64 0)),(some (bt,false)),[aA,bt]⟩
abbrev EM (d aA:Nat):br:=⟨some d,.bin (.int .eql) (.t aA) (.c (.int .i64 12)),none,[aA]⟩
abbrev EN (d aA bt:Nat):br:=⟨some d,.call 131 [(.t aA),(.c (.int .i64 1))],(some (bt,true)),[aA,bt]⟩
abbrev EO (d aA:Nat):br:=⟨some d,.bin (.int .eql) (.t aA) (.c (.int .i64 6)),none,[aA]⟩
abbrev EP (d aA:Nat):br:=⟨some d,.bin (.int .eql) (.t aA) (.c (.int .i64 9)),none,[aA]⟩
abbrev ER (d aA:Nat):br:=⟨some d,.bin (.str .eql) (.t aA) (.c (.str [115,101,116])),none,[aA]⟩
abbrev ES (d aA bt fe:Nat):br:=⟨some d,.rq (.t aA) [(.t bt),(.t fe)],none,[aA,bt,fe]⟩
abbrev ET (d:Nat):br:=⟨some d,.h5 1 1 [(.int .i64 0)] [(0,1,(.c (.int .i64 1)))],none,[]⟩
abbrev EU (d aA:Nat):br:=⟨some d,.bin (.int .lss) (.t aA) (.c (.int .i64 0)),none,[aA]⟩
abbrev EV (d:Nat):br:=⟨some d,.call 102 [(.c (.int .i64 2)),(.c .ay)],none,[]⟩
abbrev EW (d aA bt fe:Nat):br:=⟨some d,.bin (.int .gtr) (.t aA) (.t bt),(some (fe,false)),[aA,bt,fe]⟩
abbrev EX (d aA bt:Nat):br:=⟨some d,.b_ 1 (.t aA) (.c (.int .i64 2)),(some (bt,true)),[aA,bt]⟩
abbrev EY (d aA bt:Nat):br:=⟨some d,.bin (.int .gtr) (.t aA) (.c (.int .i64 100)),(some (bt,false)),[aA,bt]⟩
abbrev EZ (d aA bt:Nat):br:=⟨some d,.h5 2 3 [(.int .i64 0),(.int .i64 0),(.str [])] [(0,3,(.t aA)),(3,3,(.t bt))],none,[aA,bt]⟩
abbrev E0 (d aA bt:Nat):br:=⟨some d,.bin (.int .gtr) (.t aA) (.c (.int .i64 1000)),(some (bt,false)),[aA,bt]⟩
abbrev Jv (d:Nat):br:=⟨some d,.new [(.bool false),(.bool false),(.bool false),(.bool false),(.int .i64 0),(.int .i64 0),(.int .i64 0),(.int .i64 0)],none,[]⟩
abbrev Jw (d aA:Nat):br:=⟨some d,.build [(.bool false),(.bool false),(.bool false),(.bool false),(.int .i64 0),(.int .i64 0),(.int .i64 0),(.int .i64 0)] [(1,1,(.c (.bool true))),(4,2,(.t aA))],none,[aA]⟩
abbrev Jx (d:Nat):br:=⟨some d,.build [(.int .i64 0),(.int .i64 0)] [(0,1,(.c (.int .i64 1))),(1,1,(.c (.int .i64 1073741824)))],none,[]⟩
abbrev Jy (d aA bt:Nat):br:=⟨some d,.build [(.bool false),(.bool false),(.bool false),(.bool false),(.int .i64 0),(.int .i64 0),(.int .i64 0),(.int .i64 0)] [(3,1,(.c (.bool true))),(4,2,(.t aA)),(6,2,(.t bt))],none,[aA,bt]⟩
abbrev Jz (d aA:Nat):br:=⟨some d,.call 69 [(.t aA),(.c (.bool false)),(.c (.bool true)),(.c (.bool false)),(.c (.bool false))],none,[aA]⟩
abbrev JA (d:Nat):br:=⟨some d,.h5 2 1 [(.int .i64 0)] [(0,1,(.c (.int .i64 1))),(1,1,(.c (.int .i64 1)))],none,[]⟩
abbrev JB (d:Nat):br:=⟨some d,.build [(.int .i64 0),(.int .i64 0),(.int .i64 0),(.int .i64 0),.ay] [(0,1,(.c (.int .i64 5)))],none,[]⟩
abbrev JC (d aA:Nat):br:=⟨some d,.build [(.int .i64 0),(.int .i64 0),(.str []),(.int .i64 0),(.int .i64 0),(.int .i64 0),(.str []),.ay,.ay,.ay,.ch,.ay,(.bool false)] [(0,1,(.c (.int .i64 2))),(2,1,(.t aA))],none,[aA]⟩
abbrev JD (d:Nat):br:=⟨some d,.new [(.int .i64 0),(.int .i64 0),(.int .i64 0),(.str []),.ay,.ay,.ay,.ch],none,[]⟩
abbrev JE (d aA:Nat):br:=⟨some d,.build [(.int .i64 0),(.int .i64 0),(.str [])] [(0,1,(.c (.int .i64 2))),(1,1,(.t aA))],none,[aA]⟩
def Tryz.O8:Go.Shelf.Ren:=⟨fun | 7=>68 | 10=>129 | n=>n,fun | 23=>88 | 26=>3 | 3=>4 | 28=>91 | 0=>0 | 27=>90 | 33=>136 | 4=>4 | n=>n,fun | n=>n⟩
theorem Tryz.aa7:Go.Proofs.SlLaysZI.n7 Tryz.prog Tryz.O8 where
 mixed:=by kernel_rfl
 f7:=⟨"maps.Keys[map[int]bool,int,bool]",by decide,Tryz.func68.trans (congrArg some (by kernel_rfl))⟩
 f10:=⟨"maps.Keys[map[int]bool,int,bool]$1",by decide,Tryz.func129.trans (congrArg some (by kernel_rfl))⟩
 t0:=Tryz.underlying0
 a0:=Tryz.isAgg0
 z0:=Tryz.sizeOf0
 v0:=Tryz.zeroValue0
 t4:=Tryz.underlying4
 a4:=Tryz.isAgg4
 z4:=Tryz.sizeOf4
 v4:=Tryz.zeroValue4
 t23:=Tryz.underlying88
 a23:=Tryz.isAgg88
 z23:=Tryz.sizeOf88
 v23:=Tryz.zeroValue88
 t26:=Tryz.underlying3
 a26:=Tryz.isAgg3
 z26:=Tryz.sizeOf3
 v26:=Tryz.zeroValue3
 t27:=Tryz.underlying90
 a27:=Tryz.isAgg90
 z27:=Tryz.sizeOf90
 v27:=Tryz.zeroValue90
 t28:=Tryz.underlying91
 a28:=Tryz.isAgg91
 z28:=Tryz.sizeOf91
 v28:=Tryz.zeroValue91
 t33:=Tryz.underlying136
 a33:=Tryz.isAgg136
 z33:=Tryz.sizeOf136
 v33:=Tryz.zeroValue136
def Tryz.Rf:Go.Shelf.Ren:=⟨fun | 6=>67 | 8=>128 | 9=>51 | 11=>161 | 13=>73 | 12=>72 | 23=>143 | 24=>144 | 14=>134 | 15=>135 | 16=>136 | 17=>137 | 18=>138 | 19=>139 | 20=>140 | 21=>141 | 22=>142 | 25=>164 | 26=>165 | 27=>166 | 28=>167 | 29=>168 | 30=>169 | 31=>171 | n=>n,fun | 26=>3 | 28=>91 | 24=>23 | 0=>0 | 3=>3 | 37=>96 | 48=>156 | 50=>158 | 4=>4 | 40=>148 | 39=>147 | 45=>153 | 5=>5 | 9=>9 | 51=>178 | 55=>182 | 57=>187 | 58=>188 | 33=>136 | n=>n,fun | n=>n⟩
theorem Tryz.af':Go.Proofs.SlLaysZI.n6 Tryz.prog Tryz.Rf where
 mixed:=by kernel_rfl
 f6:=⟨"slices.Sorted[int]",by decide,Tryz.func67.trans (congrArg some (by kernel_rfl))⟩
 f8:=⟨"slices.Collect[int]",by decide,Tryz.func128.trans (congrArg some (by kernel_rfl))⟩
 f11:=⟨"slices.AppendSeq[[]int,int]",by decide,Tryz.func161.trans (congrArg some (by kernel_rfl))⟩
 t0:=Tryz.underlying0
 a0:=Tryz.isAgg0
 z0:=Tryz.sizeOf0
 v0:=Tryz.zeroValue0
 t24:=Tryz.underlying23
 a24:=Tryz.isAgg23
 z24:=Tryz.sizeOf23
 v24:=Tryz.zeroValue23
 t26:=Tryz.underlying3
 a26:=Tryz.isAgg3
 z26:=Tryz.sizeOf3
 v26:=Tryz.zeroValue3
 t28:=Tryz.underlying91
 a28:=Tryz.isAgg91
 z28:=Tryz.sizeOf91
 v28:=Tryz.zeroValue91
 i26:=by kernel_rfl
def Tryz.af8:Go.Shelf.Ren:=⟨fun | 5=>51 | 8=>73 | 7=>72 | 19=>143 | 20=>144 | 10=>134 | 11=>135 | 12=>136 | 13=>137 | 14=>138 | 15=>139 | 16=>140 | 17=>141 | 18=>142 | 30=>164 | 31=>165 | 32=>166 | 33=>167 | 34=>168 | 35=>169 | 40=>171 | n=>n,fun | 23=>23 | 25=>3 | 3=>3 | 32=>96 | 22=>23 | 0=>0 | 44=>156 | 46=>158 | 4=>4 | 36=>148 | 35=>147 | 41=>153 | 5=>5 | 9=>9 | 53=>178 | 57=>182 | 63=>187 | 64=>188 | n=>n,fun | n=>n⟩
theorem Tryz.DZ:Go.Proofs.SlLaysM.n5 Tryz.prog Tryz.af8 where
 mixed:=by kernel_rfl
 f5:=⟨"slices.Sort[[]int,int]",by decide,Tryz.func51.trans (congrArg some (by kernel_rfl))⟩
 f7:=⟨"slices.pdqsortOrdered[int]",by decide,Tryz.func72.trans (congrArg some (by kernel_rfl))⟩
 f8:=Tryz.func73.trans (congrArg some (by kernel_rfl))
 f10:=⟨"slices.insertionSortOrdered[int]",by decide,Tryz.func134.trans (congrArg some (by kernel_rfl))⟩
 f11:=⟨"slices.heapSortOrdered[int]",by decide,Tryz.func135.trans (congrArg some (by kernel_rfl))⟩
 f12:=⟨"slices.breakPatternsOrdered[int]",by decide,Tryz.func136.trans (congrArg some (by kernel_rfl))⟩
 f13:=⟨"slices.choosePivotOrdered[int]",by decide,Tryz.func137.trans (congrArg some (by kernel_rfl))⟩
 f14:=⟨"slices.reverseRangeOrdered[int]",by decide,Tryz.func138.trans (congrArg some (by kernel_rfl))⟩
 f15:=⟨"slices.partialInsertionSortOrdered[int]",by decide,Tryz.func139.trans (congrArg some (by kernel_rfl))⟩
 f16:=⟨"cmp.Less[int]",by decide,Tryz.func140.trans (congrArg some (by kernel_rfl))⟩
 f17:=⟨"slices.partitionEqualOrdered[int]",by decide,Tryz.func141.trans (congrArg some (by kernel_rfl))⟩
 f18:=⟨"slices.partitionOrdered[int]",by decide,Tryz.func142.trans (congrArg some (by kernel_rfl))⟩
 f19:=Tryz.func143.trans (congrArg some (by kernel_rfl))
 f20:=Tryz.func144.trans (congrArg some (by kernel_rfl))
 f30:=⟨"slices.siftDownOrdered[int]",by decide,Tryz.func164.trans (congrArg some (by kernel_rfl))⟩
 f31:=Tryz.func165.trans (congrArg some (by kernel_rfl))
 f32:=Tryz.func166.trans (congrArg some (by kernel_rfl))
 f33:=⟨"slices.medianAdjacentOrdered[int]",by decide,Tryz.func167.trans (congrArg some (by kernel_rfl))⟩
 f34:=⟨"slices.medianOrdered[int]",by decide,Tryz.func168.trans (congrArg some (by kernel_rfl))⟩
 f35:=⟨"cmp.isNaN[int]",by decide,Tryz.func169.trans (congrArg some (by kernel_rfl))⟩
 f40:=⟨"slices.order2Ordered[int]",by decide,Tryz.func171.trans (congrArg some (by kernel_rfl))⟩
 t0:=Tryz.underlying0
 a0:=Tryz.isAgg0
 z0:=Tryz.sizeOf0
 v0:=Tryz.zeroValue0
 t3:=Tryz.underlying3
 a3:=Tryz.isAgg3
 z3:=Tryz.sizeOf3
 v3:=Tryz.zeroValue3
 t4:=Tryz.underlying4
 a4:=Tryz.isAgg4
 z4:=Tryz.sizeOf4
 v4:=Tryz.zeroValue4
 t5:=Tryz.underlying5
 a5:=Tryz.isAgg5
 z5:=Tryz.sizeOf5
 v5:=Tryz.zeroValue5
 t9:=Tryz.underlying9
 a9:=Tryz.isAgg9
 z9:=Tryz.sizeOf9
 v9:=Tryz.zeroValue9
 t22:=Tryz.underlying23
 a22:=Tryz.isAgg23
 z22:=Tryz.sizeOf23
 v22:=Tryz.zeroValue23
 t23:=Tryz.underlying23
 a23:=Tryz.isAgg23
 z23:=Tryz.sizeOf23
 v23:=Tryz.zeroValue23
 t25:=Tryz.underlying3
 a25:=Tryz.isAgg3
 z25:=Tryz.sizeOf3
 v25:=Tryz.zeroValue3
 t32:=Tryz.underlying96
 a32:=Tryz.isAgg96
 z32:=Tryz.sizeOf96
 v32:=Tryz.zeroValue96
 t35:=Tryz.underlying147
 a35:=Tryz.isAgg147
 z35:=Tryz.sizeOf147
 v35:=Tryz.zeroValue147
 t36:=Tryz.underlying148
 a36:=Tryz.isAgg148
 z36:=Tryz.sizeOf148
 v36:=Tryz.zeroValue148
 t41:=Tryz.underlying153
 a41:=Tryz.isAgg153
 z41:=Tryz.sizeOf153
 v41:=Tryz.zeroValue153
 t44:=Tryz.underlying156
 a44:=Tryz.isAgg156
 z44:=Tryz.sizeOf156
 v44:=Tryz.zeroValue156
 t46:=Tryz.underlying158
 a46:=Tryz.isAgg158
 z46:=Tryz.sizeOf158
 v46:=Tryz.zeroValue158
 t53:=Tryz.underlying178
 a53:=Tryz.isAgg178
 z53:=Tryz.sizeOf178
 v53:=Tryz.zeroValue178
 t57:=Tryz.underlying182
 a57:=Tryz.isAgg182
 z57:=Tryz.sizeOf182
 v57:=Tryz.zeroValue182
 t63:=Tryz.underlying187
 a63:=Tryz.isAgg187
 z63:=Tryz.sizeOf187
 v63:=Tryz.zeroValue187
 t64:=Tryz.underlying188
 a64:=Tryz.isAgg188
 z64:=Tryz.sizeOf188
 v64:=Tryz.zeroValue188
open Go.RowKit Go.Maps Go.Sort
theorem agb (m:Nat):AnyZI.SortsIn Tryz.prog Tryz.Rf Fence.wide m:=
 ⟨fun bb off cap gY W rz pO gd=>callsIn_wide.2 (AnyM.slices_Sort_int Tryz.DZ bb off cap gY W rz pO gd),
  fun p cap W=>callsIn_wide.2 (AnyM.slices_Sort_int_none Tryz.DZ p cap W)⟩
theorem Rg:bA.JQ Tryz.prog 67 129 3:=by
 intro uZ b Ax tA R w Xw oW hE CS XL
 have Y0:SeqGives Fence.wide 2 Tryz.prog 129 #[.pointer (some ⟨uZ,0,none⟩)] encZ (fun gY=>gY.Perm (intKeys tA)) (Maps.size tA) w:=
  AnyZI.keys_gives (ρ:=Tryz.O8) {Tryz.aa7 with} Fence.wide _ trivial rfl (by omega) uZ b Ax tA w Xw oW hE
 have MQ:=AnyZI.sorted_in Tryz.af' Fence.wide 5 trivial trivial trivial trivial rfl (by omega) (agb _) (enters_of Tryz.func51 (by kernel_rfl) rfl) 129 #[.pointer (some ⟨uZ,0,none⟩)] trivial (enters_of Tryz.func129 (by kernel_rfl) rfl) _ _ CS XL _ Y0
 change CallsIn _ _ Tryz.prog 67 _ _ _ at MQ
 exact callsIn_wide.1 (MQ.mono fun e aW q=>by
  obtain ⟨v,gY,rfl,ga,YU,Yz,ah⟩:=q
  exact ⟨v,gY,rfl,ga,YU,Yz,ah⟩)
instance lay:bA.Lay:=⟨fun _=>True,fun h _=>h⟩
theorem follows:Tryz.prog.follows .mixedOrders=true:=by kernel_rfl
theorem names:(Tryz.prog.funcs.toList.all fun fn=>!(fn.name == "runtime.NumGoroutine"))=true:=by kernel_rfl
theorem H4:bA.kE Tryz.prog:=by
 intro f fn h
 have:=List.all_eq_true.1 names fn (List.mem_of_getElem? (i:=f) (by simpa using h))
 simpa using this
noncomputable def ctx:bA.Ctx:=⟨Tryz.prog,fun f=>bif Nat.beq f 67 then some (bA.A5 129) else none⟩
theorem adY:bA.tG ctx:=by
 intro f p args h v aa aT he
 simp only [ctx] at aT
 cases av:Nat.beq f 67 with
 | false=>rw [av] at aT;cases aT
 | true=>
   rw [av] at aT
   simp only [cond_true,Option.some.injEq] at aT
   subst aT
   obtain rfl:f=67:=Nat.eq_of_beq_eq_true av
   exact ⟨⟨_,Tryz.func67,by kernel_rfl⟩,fun aZ E w xs az s=>bA.Rh Tryz.underlying3 Rg he aZ E w xs az s⟩
def cv (f:FuncId) (n:Nat) (rs:List bA.y6) (c:bA.bE):Prop:=∀{args:List bA.V} {h:bA.aj} {K:bA.V→bA.aj→Prop},Nat.ble args.length n=true→(bA.jk Tryz.prog c (bA.bV.aq args) h fun e r aa=>e.ends∧∃ai,bA.fb r aa rs=some ai∧K (bA.oneOf ai) aa)→bA.bB Tryz.prog f args h K
theorem cx {f:FuncId} {fn:Func} {n:Nat} {rs:List bA.y6} {c:bA.bE} (ae:Tryz.prog.funcs[f]? =some fn) (ak:fn.body=some (fn.body.getD .skip)) (aC:Nat.ble fn.ntmps bA.top=true) (a7:fn.ntmps=n) (bq:bA.m_ Tryz.prog fn.ntmps (fn.body.getD .skip)=c) (dZ:bA.q1 Tryz.prog fn.ntmps fn.results.toList=rs):cv f n rs c:=by
 subst a7
 exact fun aK H=>bA.V_ follows H4 ae ak aC aK bq dZ H
end Go.Proofs.YtjbiefneffiogaaGreat
namespace Go.Proofs.YtjbiefneffiogaaGreat
open Go bA
def Lt:bE:=
 .seq (.ag [dM 1 0,ey 2])
 (.seq (.block 0 (.seq (.ag [cK 4 1,yU 5 4,gu 6 5,ab 3 6])
 (.cond (.t 3)
 (.seq (.ag [⟨some 2,.gQ (.c (.int .i64 2)),none,[]⟩])
 (.ret))
 (.seq (.draw [cK 8 1,cK 11 1,⟨some 9,.call 45 [(.t 8)],none,[8]⟩,db 10 9,⟨some 12,.call 25 [(.t 11)],none,[11]⟩,db 13 12,oy 14 10 13,ab 7 14] [(0,[2]),(1,[2,4])])
 (.cond (.t 7)
 (.seq (.ag [⟨some 2,.gQ (.c (.int .i64 7)),none,[]⟩])
 (.ret))
 (.seq (.ag [cK 16 1,⟨some 17,.call 46 [(.t 16)],none,[16]⟩,db 18 17,Bs 19 18,ab 15 19])
 (.cond (.t 15)
 (.seq (.ag [⟨some 2,.gQ (.c (.int .i64 6)),none,[]⟩])
 (.ret))
 (.skip))))))))
 (.seq (.ag [ey 2])
 (.ret)))
theorem Uq:cv 20 20 [.t 2] Lt:=cx Tryz.func20 (by kernel_rfl) (by kernel_rfl) rfl (by kernel_rfl) (by kernel_rfl)
def Lv:bE:=
 .seq (.ag [dM 1 0,ey 2])
 (.seq (.seq (.ag [cK 3 1,yU 4 3,gu 5 4])
 (.cond (.t 5)
 (.seq (.ag [ey 2])
 (.ret))
 (.skip)))
 (.seq (.ag [cK 6 1,⟨some 7,.call 49 [(.t 6)],none,[6]⟩,ab 2 7])
 (.ret)))
theorem Us:cv 22 8 [.t 2] Lv:=cx Tryz.func22 (by kernel_rfl) (by kernel_rfl) rfl (by kernel_rfl) (by kernel_rfl)
def Ly:bE:=
 .seq (.ag [dM 1 0,jy 2])
 (.seq (.seq (.ag [cK 4 1,yU 5 4,gu 6 5])
 (.cond (.t 6)
 (.seq (.ag [jy 2])
 (.ret))
 (.skip)))
 (.seq (.ag [cK 7 1,⟨some 8,.call 45 [(.t 7)],none,[7]⟩,ab 3 8])
 (.seq (.ag [ab 9 3,⟨some 10,.call 51 [(.t 9)],none,[9]⟩])
 (.seq (.ag [ab 11 3,⟨some 12,.call 52 [(.t 11)],none,[11]⟩,ab 2 12])
 (.ret)))))
theorem Uu:cv 25 13 [.t 2] Ly:=cx Tryz.func25 (by kernel_rfl) (by kernel_rfl) rfl (by kernel_rfl) (by kernel_rfl)
def LO:bE:=
 .seq (.ag [fz 55 54 53])
 (.seq (.cond (.t 55)
 (.skip)
 (.exit 0))
 (.seq (.block 1 (.seq (.ag [iT 56 52 54,cK 57 56,nf 5,⟨none,.st 7 (.t 5) (.t 57),none,[5,57]⟩])
 (.seq (.ag [eQ 58 5,aE 59 58,⟨some 60,.bin (.int .neq) (.t 59) (.c (.int .i64 7)),none,[59]⟩,ab 61 60,⟨some 62,.gl 7 (.t 5),(some (61,false)),[5,61]⟩,⟨some 63,.call 61 [(.t 62),(.c (.bool true))],(some (61,false)),[62,61]⟩,yV 64 63 61,fI 65 61 64,ab 66 65,u4 67 5 66,f' 68 67 66,⟨some 69,.b_ 7 (.t 68) (.c (.int .i64 0)),(some (66,false)),[68,66]⟩,⟨some 70,.gl 7 (.t 69),(some (66,false)),[69,66]⟩,⟨some 71,.call 44 [(.t 70)],(some (66,false)),[70,66]⟩,yV 72 71 66,fI 73 66 72])
 (.cond (.t 73)
 (.seq (.ag [dV 2])
 (.ret))
 (.skip)))))
 (.ag [e' 74 54,ab 54 74])))
def LN:bE:=
 .seq (.ag [dM 1 0,dV 2])
 (.seq (.seq (.ag [eQ 6 1,aE 7 6,⟨some 8,.bin (.int .neq) (.t 7) (.c (.int .i64 8)),none,[7]⟩])
 (.cond (.t 8)
 (.seq (.seq (.ag [cK 9 1,⟨some 10,.call 61 [(.t 9),(.c (.bool false))],none,[9]⟩,gu 11 10])
 (.cond (.t 11)
 (.seq (.ag [dV 2])
 (.ret))
 (.skip)))
 (.seq (.ag [eu 12 1,aE 13 12,⟨some 14,.call 62 [(.t 13),(.c (.func 63 []))],none,[13]⟩,gu 15 14,ab 2 15])
 (.ret)))
 (.skip)))
 (.seq (.ag [eu 16 1,aE 17 16,db 18 17,kb 19 18,ab 3 19])
 (.seq (.seq (.ag [cQ 20 1,aE 21 20,wX 22 21,ab 23 22,se 24 1 23,f' 25 24 23,⟨some 26,.bin (.int .neq) (.t 25) (.c (.int .i64 0)),(some (23,false)),[25,23]⟩,fI 27 23 26,ab 28 27,Bt 29 1 28,f' 30 29 28,⟨some 31,.bin (.str .neq) (.t 30) (.c (.str [])),(some (28,false)),[30,28]⟩,fI 32 28 31,ab 33 32,Bu 34 1 33,f' 35 34 33,lx 36 35 33,Et 37 36 33,fI 38 33 37,ab 39 38,Bv 40 1 39,f' 41 40 39,lx 42 41 39,Et 43 42 39,fI 44 39 43,ab 45 44,fJ 46 3 45,⟨some 47,.bin (.int .lss) (.t 46) (.c (.int .i64 1)),(some (45,false)),[46,45]⟩,fI 48 45 47])
 (.cond (.t 48)
 (.seq (.ag [dV 2])
 (.ret))
 (.skip)))
 (.seq (.seq (.ag [eu 49 1,aE 50 49,ab 51 3,Eu 52 50 51,db 53 52,ey 54])
 (.block 0 (.loop LO)))
 (.seq (.ag [eu 75 1,aE 76 75,ab 77 3,iT 78 76 77,cK 79 78,yU 80 79,ab 2 80])
 (.ret))))))
theorem UD:cv 44 81 [.t 2] LN:=cx Tryz.func44 (by kernel_rfl) (by kernel_rfl) rfl (by kernel_rfl) (by kernel_rfl)
def LP:bE:=
 .seq (.ag [dM 1 0,jy 2])
 (.seq (.ag [⟨some 3,.new [.ay],none,[]⟩])
 (.seq (.ag [⟨some 4,.new [.kN],none,[]⟩])
 (.seq (.ag [⟨some 5,.fn 64 [(.t 3),(.t 4)],none,[3,4]⟩,⟨none,.st 1 (.t 4) (.t 5),none,[4,5]⟩])
 (.seq (.ag [aE 6 4,cK 7 1,wY 8 6 7])
 (.seq (.ag [aE 9 3,ab 2 9])
 (.ret))))))
theorem UE:cv 45 10 [.t 2] LP:=cx Tryz.func45 (by kernel_rfl) (by kernel_rfl) rfl (by kernel_rfl) (by kernel_rfl)
def LQ:bE:=
 .seq (.ag [dM 1 0,jy 2])
 (.seq (.ag [⟨some 6,.rT none,none,[]⟩,⟨some 3,.new [.lN],none,[]⟩,⟨none,.st 1 (.t 3) (.t 6),none,[3,6]⟩])
 (.seq (.ag [⟨some 7,.rT none,none,[]⟩,⟨some 4,.new [.lN],none,[]⟩,⟨none,.st 1 (.t 4) (.t 7),none,[4,7]⟩])
 (.seq (.ag [⟨some 5,.new [.kN],none,[]⟩])
 (.seq (.ag [⟨some 8,.fn 66 [(.t 4),(.t 3),(.t 5)],none,[4,3,5]⟩,⟨none,.st 1 (.t 5) (.t 8),none,[5,8]⟩])
 (.seq (.ag [aE 9 5,cK 10 1,wY 11 9 10])
 (.seq (.ag [aE 12 3,⟨some 13,.call 68 [(.t 12)],none,[12]⟩,⟨some 14,.call 67 [(.t 13)],none,[13]⟩,ab 2 14])
 (.ret)))))))
theorem UF:cv 46 15 [.t 2] LQ:=cx Tryz.func46 (by kernel_rfl) (by kernel_rfl) rfl (by kernel_rfl) (by kernel_rfl)
def LX:bE:=
 .seq (.ag [fz 10 9 8])
 (.seq (.cond (.t 10)
 (.skip)
 (.exit 0))
 (.seq (.block 1 (.seq (.ag [iT 11 7 9,cK 12 11,nf 5,⟨none,.st 7 (.t 5) (.t 12),none,[5,12]⟩])
 (.ag [ab 13 3,cK 14 5,⟨some 15,.call 49 [(.t 14)],none,[14]⟩,oz 16 13 15,ab 3 16])))
 (.ag [e' 17 9,ab 9 17])))
def LW:bE:=
 .seq (.ag [dM 1 0,ey 2])
 (.seq (.ag [yW 3])
 (.seq (.seq (.ag [eu 6 1,aE 7 6,db 8 7,ey 9])
 (.block 0 (.loop LX)))
 (.seq (.ag [ab 18 3,ab 2 18])
 (.ret))))
theorem UI:cv 49 19 [.t 2] LW:=cx Tryz.func49 (by kernel_rfl) (by kernel_rfl) rfl (by kernel_rfl) (by kernel_rfl)
def LZ:bE:=
 .seq (.seq (.ag [ab 29 5,ab 30 4,db 31 30,fz 32 29 31])
 (.cond (.t 32)
 (.skip)
 (.exit 2)))
 (.seq (.block 3 (.seq (.draw [ab 35 4,ab 36 5,h3 37 35 36,aE 38 37,ab 39 4,ab 40 5,kb 41 40,h3 42 39 41,aE 43 42,oy 44 38 43] [])
 (.cond (.t 44)
 (.seq (.ag [ab 45 0,ab 46 3,ab 47 4,ab 48 5,h3 49 47 48,aE 50 49,h3 51 45 46,⟨none,.st 1 (.t 51) (.t 50),none,[51,50]⟩])
 (.ag [ab 52 3,e' 53 52,ab 3 53]))
 (.skip))))
 (.ag [ab 33 5,e' 34 33,ab 5 34]))
def L0:bE:=
 .seq (.seq (.ag [ab 10 3,ab 11 0,db 12 11,fz 13 10 12])
 (.cond (.t 13)
 (.skip)
 (.exit 0)))
 (.seq (.block 1 (.seq (.draw [ab 16 0,ab 17 3,h3 18 16 17,aE 19 18,ab 20 0,ab 21 3,kb 22 21,h3 23 20 22,aE 24 23,oA 25 19 24] [])
 (.cond (.t 25)
 (.seq (.ag [ab 26 0,ab 27 3,Ev 28 26 27,ab 4 28])
 (.seq (.seq (.ag [yW 5])
 (.block 2 (.loop LZ)))
 (.seq (.ag [ab 54 0,ab 55 3,Ev 56 54 55,⟨none,.Cc [(.int .i64 0)] (.t 56),none,[56]⟩])
 (.seq (.ag [ab 57 0,ab 58 3,⟨some 59,.g_ 1 (.t 57) none (some (.t 58)) none,none,[57,58]⟩,ab 2 59])
 (.ret)))))
 (.skip))))
 (.ag [ab 14 3,e' 15 14,ab 3 15]))
def LY:bE:=
 .seq (.ag [jy 2])
 (.seq (.seq (.ag [ab 6 0,db 7 6,⟨some 8,.bin (.int .lss) (.t 7) (.c (.int .i64 2)),none,[7]⟩])
 (.cond (.t 8)
 (.seq (.ag [ab 9 0,ab 2 9])
 (.ret))
 (.skip)))
 (.seq (.seq (.ag [yW 3])
 (.block 0 (.loop L0)))
 (.seq (.ag [ab 60 0,ab 2 60])
 (.ret))))
theorem UJ:cv 52 61 [.t 2] LY:=cx Tryz.func52 (by kernel_rfl) (by kernel_rfl) rfl (by kernel_rfl) (by kernel_rfl)
def L':bE:=
 .seq (.ag [dM 2 0,dV 4])
 (.seq (.ag [eQ 8 2,aE 9 8,⟨some 10,.call 119 [(.t 9)],none,[9]⟩,ab 7 10,tB 11 7,tC 12 7,Jv 5,⟨none,.st 8 (.t 5) (.t 11),none,[5,11]⟩,ab 6 12])
 (.seq (.block 0 (.seq (.seq (.ag [ab 14 6,gu 15 14,ab 13 15])
 (.cond (.t 13)
 (.skip)
 (.seq (.ag [cQ 16 2,aE 17 16,⟨some 18,.call 120 [(.t 17)],none,[17]⟩,gu 19 18,ab 13 19])
 (.cond (.t 13)
 (.skip)
 (.seq (.ag [eQ 20 5,aE 21 20,gu 22 21,ab 23 22,ly 24 2 23,cY 25 24 23,Ew 26 25 23,cN 27 23 26,ab 13 27])
 (.cond (.t 13)
 (.skip)
 (.seq (.ag [cQ 28 5,aE 29 28,gu 30 29,ab 31 30,dH 32 1 31,u5 33 32 31,cN 34 31 33,ab 35 34,l3 36 2 35,cY 37 36 35,Ew 38 37 35,cN 39 35 38,ab 13 39])
 (.cond (.t 13)
 (.skip)
 (.seq (.ag [e_ 40 5,aE 41 40,gu 42 41,ab 43 42,qd 44 2 43,cY 45 44 43,⟨some 46,.bin (.str .neq) (.t 45) (.c (.str [])),(some (43,true)),[45,43]⟩,cN 47 43 46,ab 13 47])
 (.cond (.t 13)
 (.skip)
 (.ag [ng 48 5,aE 49 48,gu 50 49,ab 51 50,yX 52 2 51,cY 53 52 51,q7 54 53 51,⟨some 55,.bin (.int .gtr) (.t 54) (.c (.int .i64 0)),(some (51,true)),[54,51]⟩,cN 56 51 55,ab 13 56])))))))))))
 (.cond (.t 13)
 (.seq (.ag [dV 4])
 (.ret))
 (.seq (.seq (.ag [jz 58 2,aE 59 58,db 60 59,jz 61 5,⟨some 62,.gl 2 (.t 61),none,[61]⟩,⟨some 63,.call 121 [(.t 60),(.t 62)],none,[60,62]⟩,gu 64 63,ab 57 64])
 (.cond (.t 57)
 (.skip)
 (.seq (.ag [eu 65 2,aE 66 65,db 67 66,eu 68 5,⟨some 69,.gl 2 (.t 68),none,[68]⟩,⟨some 70,.call 121 [(.t 67),(.t 69)],none,[67,69]⟩,gu 71 70,ab 57 71])
 (.cond (.t 57)
 (.skip)
 (.ag [e_ 72 2,aE 73 72,⟨some 74,.call 120 [(.t 73)],none,[73]⟩,gu 75 74,ab 57 75])))))
 (.cond (.t 57)
 (.seq (.ag [dV 4])
 (.ret))
 (.seq (.seq (.ag [eQ 77 2,aE 78 77,Bw 79 78,ab 80 79,l3 81 2 80,cY 82 81 80,⟨some 83,.bin (.int .geq) (.t 82) (.c (.int .i64 1024)),(some (80,true)),[82,80]⟩,cN 84 80 83,ab 76 84])
 (.cond (.t 76)
 (.skip)
 (.seq (.draw [eQ 85 2,aE 86 85,wZ 87 86,ab 88 87,qd 90 2 88,cY 91 90 88,mH 93 2 88,cY 94 93 88,q7 95 94 88,⟨some 89,.call 122 [],(some (88,true)),[88]⟩,⟨some 92,.look .str (.int .i64 0) false (.t 89) (.t 91),(some (88,true)),[89,91,88]⟩,⟨some 96,.bin (.int .neq) (.t 92) (.t 95),(some (88,true)),[92,95,88]⟩,cN 97 88 96,ab 76 97] [(1,[9]),(5,[9,14]),(10,[14]),(7,[9,14])])
 (.cond (.t 76)
 (.skip)
 (.ag [ng 98 5,aE 99 98,ab 100 99,kV 101 2 100,⟨some 102,.call 123 [(.t 101)],(some (100,true)),[101,100]⟩,u5 103 102 100,cN 104 100 103,ab 76 104])))))
 (.cond (.t 76)
 (.seq (.ag [dV 4])
 (.ret))
 (.skip))))))))
 (.seq (.ag [jz 105 2,aE 106 105,⟨some 107,.call 124 [(.t 106),(.c (.func 125 []))],none,[106]⟩,gu 108 107,ab 4 108])
 (.ret))))
theorem UO:cv 61 109 [.t 4] L':=cx Tryz.func61 (by kernel_rfl) (by kernel_rfl) rfl (by kernel_rfl) (by kernel_rfl)
def L_:bE:=
 .seq (.ag [dV 4])
 (.seq (.ag [ab 5 0,ab 6 1,⟨some 7,.call 127 [(.t 5),(.t 6)],none,[5,6]⟩,yY 8 7,ab 4 8])
 (.ret))
theorem UP:cv 62 9 [.t 4] L_:=cx Tryz.func62 (by kernel_rfl) (by kernel_rfl) rfl (by kernel_rfl) (by kernel_rfl)
def Ma:bE:=
 .seq (.ag [dM 1 0,dV 2])
 (.seq (.ag [cK 3 1,yU 4 3,gu 5 4,ab 2 5])
 (.ret))
theorem UQ:cv 63 6 [.t 2] Ma:=cx Tryz.func63 (by kernel_rfl) (by kernel_rfl) rfl (by kernel_rfl) (by kernel_rfl)
def Mc:bE:=
 .seq (.ag [fz 14 13 12])
 (.seq (.cond (.t 14)
 (.skip)
 (.exit 0))
 (.seq (.block 1 (.seq (.ag [ab 15 13,iT 16 11 13,cK 17 16,nf 5,ab 4 15,⟨none,.st 7 (.t 5) (.t 17),none,[5,17]⟩])
 (.seq (.seq (.ag [ab 18 4,oB 19 18,ab 20 19,yZ 21 3 20,cY 22 21 20,Bx 23 22 20,dH 24 23 20,⟨some 25,.c2 0 (.t 3),(some (24,false)),[3,24]⟩,f' 26 25 24,⟨some 27,.bin (.int .eql) (.t 26) (.c (.int .i64 11)),(some (24,false)),[26,24]⟩,q8 28 24 27 20,cN 29 20 28])
 (.cond (.t 29)
 (.ag [aE 30 1,cQ 31 3,aE 32 31,oC 33 32,ie 34 30 33,⟨none,.st 1 (.t 1) (.t 34),none,[1,34]⟩])
 (.skip)))
 (.ag [aE 35 2,cK 36 5,wY 37 35 36]))))
 (.ag [e' 38 13,ab 13 38])))
def Mb:bE:=
 .seq (.ag [dM 3 0])
 (.seq (.draw [aE 6 1,cK 7 3,⟨some 8,.call 65 [(.t 7)],none,[7]⟩,ie 9 6 8,⟨none,.st 1 (.t 1) (.t 9),none,[1,9]⟩] [(0,[2,3]),(1,[2])])
 (.seq (.ag [eu 10 3,aE 11 10,db 12 11,ey 13])
 (.block 0 (.loop Mc))))
theorem UR:cv 64 39 [] Mb:=cx Tryz.func64 (by kernel_rfl) (by kernel_rfl) rfl (by kernel_rfl) (by kernel_rfl)
def Me:bE:=
 .seq (.ag [fz 26 25 24])
 (.seq (.cond (.t 26)
 (.skip)
 (.exit 1))
 (.seq (.block 2 (.seq (.ag [iT 27 23 25,cK 28 27,nf 5,⟨none,.st 7 (.t 5) (.t 28),none,[5,28]⟩])
 (.ag [ab 29 3,e_ 30 5,aE 31 30,oC 32 31,ie 33 29 32,ab 3 33])))
 (.ag [e' 34 25,ab 25 34])))
def UT:bE:=
 .seq (.ag [fz 42 41 40])
 (.seq (.cond (.t 42)
 (.skip)
 (.exit 3))
 (.seq (.block 4 (.seq (.ag [ab 43 41,ab 7 43])
 (.ag [ab 44 6,cQ 45 1,aE 46 45,ab 47 7,oz 48 46 47,oC 49 48,ie 50 44 49,ab 6 50])))
 (.ag [e' 51 41,ab 41 51])))
def Md:bE:=
 .seq (.ag [dM 1 0,jy 2])
 (.seq (.seq (.ag [eQ 8 1,aE 9 8])
 (.block 0 (.seq (.ag [w0 11 9,ab 10 11])
 (.cond (.t 10)
 (.seq (.ag [cQ 12 1,aE 13 12,oC 14 13,ab 2 14])
 (.ret))
 (.seq (.ag [w1 16 9,ab 15 16])
 (.cond (.t 15)
 (.seq (.ag [jy 3])
 (.seq (.seq (.ag [eu 17 1,aE 18 17,eu 19 1,aE 20 19,db 21 20,kb 22 21,Eu 23 18 22,db 24 23,ey 25])
 (.block 1 (.loop Me)))
 (.seq (.ag [ab 35 3,ab 2 35])
 (.ret))))
 (.seq (.ag [Ex 37 9,ab 36 37])
 (.cond (.t 36)
 (.seq (.ag [jy 6])
 (.seq (.seq (.ag [pw 38 1,aE 39 38,db 40 39,ey 41])
 (.block 3 (.loop UT)))
 (.seq (.ag [ab 52 6,ab 2 52])
 (.ret))))
 (.skip)))))))))
 (.seq (.ag [jy 2])
 (.ret)))
theorem US:cv 65 53 [.t 2] Md:=cx Tryz.func65 (by kernel_rfl) (by kernel_rfl) rfl (by kernel_rfl) (by kernel_rfl)
def Mg:bE:=
 .seq (.ag [fz 19 18 17])
 (.seq (.cond (.t 19)
 (.skip)
 (.exit 0))
 (.seq (.block 1 (.seq (.ag [q9 20 16 18,kW 21 20,y0 6,⟨none,.st 3 (.t 6) (.t 21),none,[6,21]⟩])
 (.seq (.ag [eQ 22 6,aE 23 22,oB 24 23,ab 25 24,cY 26 1 25,ly 27 6 25,cY 28 27 25,⟨some 29,.look .int (.int .i64 0) false (.t 26) (.t 28),(some (25,true)),[26,28,25]⟩,sf 30 29 25,cN 31 25 30])
 (.cond (.t 31)
 (.ag [aE 32 2,cQ 33 6,aE 34 33,⟨none,.fk .int (.t 32) (.t 34) (.c (.bool true)),none,[32,34]⟩])
 (.skip)))))
 (.ag [e' 35 18,ab 18 35])))
def Mh:bE:=
 .seq (.ag [fz 41 40 39])
 (.seq (.cond (.t 41)
 (.skip)
 (.exit 2))
 (.seq (.block 3 (.seq (.ag [h3 42 38 40,aE 43 42,ab 9 43])
 (.ag [aE 44 1,ab 45 9,By 46 44 45,e' 47 46,⟨none,.fk .int (.t 44) (.t 45) (.t 47),none,[44,45,47]⟩])))
 (.ag [e' 48 40,ab 40 48])))
def Mi:bE:=
 .seq (.ag [fz 53 52 51])
 (.seq (.cond (.t 53)
 (.skip)
 (.exit 4))
 (.seq (.block 5 (.seq (.ag [ab 54 52,iT 55 50 52,cK 56 55,nf 11,ab 10 54,⟨none,.st 7 (.t 11) (.t 56),none,[11,56]⟩])
 (.seq (.ag [ab 57 10,oB 58 57,ab 59 58,yZ 60 4 59,cY 61 60 59,Bx 62 61 59,dH 63 62 59,⟨some 64,.c2 0 (.t 4),(some (63,false)),[4,63]⟩,f' 65 64 63,⟨some 66,.bin (.int .eql) (.t 65) (.c (.int .i64 11)),(some (63,false)),[65,63]⟩,q8 67 63 66 59,cN 68 59 67,ab 12 68])
 (.seq (.seq (.ag [ab 69 12])
 (.cond (.t 69)
 (.ag [aE 70 1,cQ 71 4,aE 72 71,By 73 70 72,e' 74 73,⟨none,.fk .int (.t 70) (.t 72) (.t 74),none,[70,72,74]⟩])
 (.skip)))
 (.seq (.ag [aE 75 3,cK 76 11,wY 77 75 76])
 (.seq (.ag [ab 78 12])
 (.cond (.t 78)
 (.ag [aE 79 1,cQ 80 4,aE 81 80,By 82 79 81,kb 83 82,⟨none,.fk .int (.t 79) (.t 81) (.t 83),none,[79,81,83]⟩])
 (.skip))))))))
 (.ag [e' 84 52,ab 52 84])))
def Mj:bE:=
 .seq (.ag [fz 88 87 86])
 (.seq (.cond (.t 88)
 (.skip)
 (.exit 6))
 (.seq (.block 7 (.seq (.ag [h3 89 85 87,aE 90 89,ab 14 90])
 (.ag [aE 91 1,ab 92 14,By 93 91 92,kb 94 93,⟨none,.fk .int (.t 91) (.t 92) (.t 94),none,[91,92,94]⟩])))
 (.ag [e' 95 87,ab 87 95])))
def Mf:bE:=
 .seq (.ag [dM 4 0])
 (.seq (.seq (.ag [jz 15 4,aE 16 15,db 17 16,ey 18])
 (.block 0 (.loop Mg)))
 (.seq (.ag [cK 36 4,⟨some 37,.call 65 [(.t 36)],none,[36]⟩,ab 7 37])
 (.seq (.seq (.ag [ab 38 7,db 39 38,ey 40])
 (.block 2 (.loop Mh)))
 (.seq (.seq (.ag [eu 49 4,aE 50 49,db 51 50,ey 52])
 (.block 4 (.loop Mi)))
 (.seq (.ag [ab 85 7,db 86 85,ey 87])
 (.block 6 (.loop Mj)))))))
theorem UU:cv 66 96 [] Mf:=cx Tryz.func66 (by kernel_rfl) (by kernel_rfl) rfl (by kernel_rfl) (by kernel_rfl)
def Fz:bE:=
 .seq (.ag [jy 2])
 (.seq (.seq (.ag [ab 3 0,⟨some 4,.bin (.l' false 2) (.t 3) (.c .ay),none,[3]⟩])
 (.cond (.t 4)
 (.seq (.ag [jy 2])
 (.ret))
 (.skip)))
 (.seq (.ag [y1 5,ab 6 0,ie 7 5 6,ab 2 7])
 (.ret)))
theorem Mq:cv 75 8 [.t 2] Fz:=cx Tryz.func75 (by kernel_rfl) (by kernel_rfl) rfl (by kernel_rfl) (by kernel_rfl)
def nk:bE:=
 .seq (.ag [Jv 2,dV 3])
 (.seq (.ag [w2 5,Ey 6 5,w2 7,Ey 8 7,Ez 9,EA 10 9,Ez 11,EA 12 11,⟨some 13,.build [(.int .i64 0),(.int .i64 0)] [(0,1,(.c (.int .i64 1))),(1,1,(.c (.int .i64 3)))],none,[]⟩,⟨some 14,.build [(.bool false),(.bool false),(.bool false),(.bool false),(.int .i64 0),(.int .i64 0),(.int .i64 0),(.int .i64 0)] [(2,1,(.c (.bool true))),(4,2,(.t 13))],none,[13]⟩,⟨some 15,.build [(.int .i64 0),(.int .i64 0)] [(0,1,(.c (.int .i64 0))),(1,1,(.c (.int .i64 1024)))],none,[]⟩,Jw 16 15,w2 17,Jw 18 17,Ez 19,Ey 20 19,w2 21,EA 22 21,w2 23,Jx 24,Jy 25 23 24,w2 26,Jx 27,Jy 28 26 27,⟨some 29,.build [(.bool false),(.bool false),(.bool false),(.bool false),(.int .i64 0),(.int .i64 0),(.int .i64 0),(.int .i64 0),(.bool false),(.bool false),(.bool false),(.bool false),(.int .i64 0),(.int .i64 0),(.int .i64 0),(.int .i64 0),(.bool false),(.bool false),(.bool false),(.bool false),(.int .i64 0),(.int .i64 0),(.int .i64 0),(.int .i64 0),(.bool false),(.bool false),(.bool false),(.bool false),(.int .i64 0),(.int .i64 0),(.int .i64 0),(.int .i64 0),(.bool false),(.bool false),(.bool false),(.bool false),(.int .i64 0),(.int .i64 0),(.int .i64 0),(.int .i64 0),(.bool false),(.bool false),(.bool false),(.bool false),(.int .i64 0),(.int .i64 0),(.int .i64 0),(.int .i64 0),(.bool false),(.bool false),(.bool false),(.bool false),(.int .i64 0),(.int .i64 0),(.int .i64 0),(.int .i64 0),(.bool false),(.bool false),(.bool false),(.bool false),(.int .i64 0),(.int .i64 0),(.int .i64 0),(.int .i64 0),(.bool false),(.bool false),(.bool false),(.bool false),(.int .i64 0),(.int .i64 0),(.int .i64 0),(.int .i64 0),(.bool false),(.bool false),(.bool false),(.bool false),(.int .i64 0),(.int .i64 0),(.int .i64 0),(.int .i64 0),(.bool false),(.bool false),(.bool false),(.bool false),(.int .i64 0),(.int .i64 0),(.int .i64 0),(.int .i64 0),(.bool false),(.bool false),(.bool false),(.bool false),(.int .i64 0),(.int .i64 0),(.int .i64 0),(.int .i64 0),(.bool false),(.bool false),(.bool false),(.bool false),(.int .i64 0),(.int .i64 0),(.int .i64 0),(.int .i64 0)] [(8,8,(.t 6)),(96,8,(.t 8)),(16,8,(.t 10)),(88,8,(.t 12)),(24,8,(.t 14)),(32,8,(.t 16)),(40,8,(.t 18)),(48,8,(.t 20)),(56,8,(.t 22)),(72,8,(.t 25)),(80,8,(.t 28))],none,[6,8,10,12,14,16,18,20,22,25,28]⟩,⟨some 4,.new [(.bool false),(.bool false),(.bool false),(.bool false),(.int .i64 0),(.int .i64 0),(.int .i64 0),(.int .i64 0),(.bool false),(.bool false),(.bool false),(.bool false),(.int .i64 0),(.int .i64 0),(.int .i64 0),(.int .i64 0),(.bool false),(.bool false),(.bool false),(.bool false),(.int .i64 0),(.int .i64 0),(.int .i64 0),(.int .i64 0),(.bool false),(.bool false),(.bool false),(.bool false),(.int .i64 0),(.int .i64 0),(.int .i64 0),(.int .i64 0),(.bool false),(.bool false),(.bool false),(.bool false),(.int .i64 0),(.int .i64 0),(.int .i64 0),(.int .i64 0),(.bool false),(.bool false),(.bool false),(.bool false),(.int .i64 0),(.int .i64 0),(.int .i64 0),(.int .i64 0),(.bool false),(.bool false),(.bool false),(.bool false),(.int .i64 0),(.int .i64 0),(.int .i64 0),(.int .i64 0),(.bool false),(.bool false),(.bool false),(.bool false),(.int .i64 0),(.int .i64 0),(.int .i64 0),(.int .i64 0),(.bool false),(.bool false),(.bool false),(.bool false),(.int .i64 0),(.int .i64 0),(.int .i64 0),(.int .i64 0),(.bool false),(.bool false),(.bool false),(.bool false),(.int .i64 0),(.int .i64 0),(.int .i64 0),(.int .i64 0),(.bool false),(.bool false),(.bool false),(.bool false),(.int .i64 0),(.int .i64 0),(.int .i64 0),(.int .i64 0),(.bool false),(.bool false),(.bool false),(.bool false),(.int .i64 0),(.int .i64 0),(.int .i64 0),(.int .i64 0),(.bool false),(.bool false),(.bool false),(.bool false),(.int .i64 0),(.int .i64 0),(.int .i64 0),(.int .i64 0)],none,[]⟩,⟨none,.st 104 (.t 4) (.t 29),none,[4,29]⟩])
 (.seq (.seq (.ag [ab 30 0,⟨some 31,.bin (.int .leq) (.t 30) (.c (.int .i64 0)),none,[30]⟩,ab 32 31,fJ 33 0 32,⟨some 34,.bin (.int .geq) (.t 33) (.c (.int .i64 13)),(some (32,false)),[33,32]⟩,fI 35 32 34,ab 36 35,fJ 37 0 36,⟨some 38,.bin (.int .eql) (.t 37) (.c (.int .i64 8)),(some (36,false)),[37,36]⟩,fI 39 36 38])
 (.cond (.t 39)
 (.seq (.ag [⟨some 40,.build [(.bool false),(.bool false),(.bool false),(.bool false),(.int .i64 0),(.int .i64 0),(.int .i64 0),(.int .i64 0)] [],none,[]⟩,⟨none,.st 8 (.t 2) (.t 40),none,[2,40]⟩,dV 3])
 (.ret))
 (.skip)))
 (.seq (.ag [ab 41 0,⟨some 42,.sX 13 8 (.t 4) (.t 41),none,[4,41]⟩,⟨some 43,.gl 8 (.t 42),none,[42]⟩,⟨none,.st 8 (.t 2) (.t 43),none,[2,43]⟩,lz 3])
 (.ret))))
theorem nR:cv 119 44 [.k3 2 8,.t 3] nk:=cx Tryz.func119 (by kernel_rfl) (by kernel_rfl) rfl (by kernel_rfl) (by kernel_rfl)
def KP:bE:=
 .seq (.ag [dV 2])
 (.seq (.ag [ab 3 0,yY 4 3,ab 5 4,dH 6 0 5,EB 7 6 5,cN 8 5 7,ab 2 8])
 (.ret))
theorem TV:cv 120 9 [.t 2] KP:=cx Tryz.func120 (by kernel_rfl) (by kernel_rfl) rfl (by kernel_rfl) (by kernel_rfl)
def KQ:bE:=
 .seq (.ag [dM 3 1,dV 4])
 (.seq (.ag [ab 5 0,⟨some 6,.sX 2 1 (.t 3) (.c (.int .i64 0)),none,[3]⟩,aE 7 6,⟨some 8,.bin (.int .geq) (.t 5) (.t 7),none,[5,7]⟩,ab 9 8,dH 10 0 9,⟨some 11,.sX 2 1 (.t 3) (.c (.int .i64 1)),(some (9,true)),[3,9]⟩,cY 12 11 9,EC 13 10 12 9,cN 14 9 13,ab 4 14])
 (.ret))
theorem TW:cv 121 15 [.t 4] KQ:=cx Tryz.func121 (by kernel_rfl) (by kernel_rfl) rfl (by kernel_rfl) (by kernel_rfl)
def KR:bE:=
 .seq (.ag [⟨some 0,.gQ (.c .lN),none,[]⟩])
 (.seq (.ag [⟨some 1,.rT none,none,[]⟩,⟨none,.fk .str (.t 1) (.c (.str [97,100,100])) (.c (.int .i64 2)),none,[1]⟩,⟨none,.fk .str (.t 1) (.c (.str [115,117,98])) (.c (.int .i64 2)),none,[1]⟩,⟨none,.fk .str (.t 1) (.c (.str [109,117,108])) (.c (.int .i64 2)),none,[1]⟩,⟨none,.fk .str (.t 1) (.c (.str [100,105,118])) (.c (.int .i64 2)),none,[1]⟩,⟨none,.fk .str (.t 1) (.c (.str [109,111,100])) (.c (.int .i64 2)),none,[1]⟩,⟨none,.fk .str (.t 1) (.c (.str [101,113])) (.c (.int .i64 2)),none,[1]⟩,⟨none,.fk .str (.t 1) (.c (.str [108,116])) (.c (.int .i64 2)),none,[1]⟩,⟨none,.fk .str (.t 1) (.c (.str [108,101])) (.c (.int .i64 2)),none,[1]⟩,⟨none,.fk .str (.t 1) (.c (.str [98,121,116,101])) (.c (.int .i64 2)),none,[1]⟩,⟨none,.fk .str (.t 1) (.c (.str [106,111,105,110])) (.c (.int .i64 2)),none,[1]⟩,⟨none,.fk .str (.t 1) (.c (.str [115,101,116])) (.c (.int .i64 2)),none,[1]⟩,⟨none,.fk .str (.t 1) (.c (.str [110,101,103])) (.c (.int .i64 1)),none,[1]⟩,⟨none,.fk .str (.t 1) (.c (.str [103,101,116,99])) (.c (.int .i64 1)),none,[1]⟩,⟨none,.fk .str (.t 1) (.c (.str [112,117,116,99])) (.c (.int .i64 1)),none,[1]⟩,⟨none,.fk .str (.t 1) (.c (.str [112,117,116,115])) (.c (.int .i64 1)),none,[1]⟩,⟨none,.fk .str (.t 1) (.c (.str [115,105,122,101])) (.c (.int .i64 1)),none,[1]⟩,⟨none,.fk .str (.t 1) (.c (.str [99,104,114])) (.c (.int .i64 1)),none,[1]⟩,⟨none,.fk .str (.t 1) (.c (.str [99,117,116])) (.c (.int .i64 3)),none,[1]⟩,ab 2 1,ab 0 2])
 (.ret))
theorem TX:cv 122 3 [.t 0] KR:=cx Tryz.func122 (by kernel_rfl) (by kernel_rfl) rfl (by kernel_rfl) (by kernel_rfl)
def KT:bE:=
 .seq (.ag [fz 12 11 10])
 (.seq (.cond (.t 12)
 (.skip)
 (.exit 0))
 (.seq (.block 1 (.seq (.ag [h3 13 9 11,aE 14 13,ab 5 14])
 (.seq (.ag [ab 15 5,⟨some 16,.call 120 [(.t 15)],none,[15]⟩,ab 6 16])
 (.seq (.seq (.ag [eQ 17 1,aE 18 17,y2 19 18])
 (.cond (.t 19)
 (.ag [ab 20 5,ED 21 20,ab 22 21,dH 23 5 22,EE 24 23 22,cN 25 22 24,ab 6 25])
 (.skip)))
 (.seq (.seq (.ag [ab 26 6,gu 27 26,ab 28 27,fJ 29 3 28,fJ 30 5 28,⟨some 31,.look .int (.bool false) false (.t 29) (.t 30),(some (28,false)),[29,30,28]⟩,fI 32 28 31])
 (.cond (.t 32)
 (.seq (.ag [dV 2])
 (.ret))
 (.skip)))
 (.ag [ab 33 3,ab 34 5,⟨none,.fk .int (.t 33) (.t 34) (.c (.bool true)),none,[33,34]⟩]))))))
 (.ag [e' 35 11,ab 11 35])))
def KS:bE:=
 .seq (.ag [dM 1 0,dV 2])
 (.seq (.ag [⟨some 7,.rT none,none,[]⟩,ab 3 7])
 (.seq (.seq (.ag [pw 8 1,aE 9 8,db 10 9,ey 11])
 (.block 0 (.loop KT)))
 (.seq (.ag [eu 36 1,aE 37 36,db 38 37,pw 39 1,aE 40 39,db 41 40,oA 42 38 41,ab 43 42,u4 44 1 43,f' 45 44 43,lx 46 45 43,Bu 47 1 43,f' 48 47 43,lx 49 48 43,⟨some 50,.bin (.int .add) (.t 49) (.c (.int .i64 1)),(some (43,false)),[49,43]⟩,⟨some 51,.bin (.int .eql) (.t 46) (.t 50),(some (43,false)),[46,50,43]⟩,fI 52 43 51,ab 2 52])
 (.ret))))
theorem TY:cv 123 53 [.t 2] KS:=cx Tryz.func123 (by kernel_rfl) (by kernel_rfl) rfl (by kernel_rfl) (by kernel_rfl)
def KU:bE:=
 .seq (.ag [dV 4])
 (.seq (.ag [ab 5 0,ab 6 1,⟨some 7,.call 160 [(.t 5),(.t 6)],none,[5,6]⟩,yY 8 7,ab 4 8])
 (.ret))
theorem TZ:cv 124 9 [.t 4] KU:=cx Tryz.func124 (by kernel_rfl) (by kernel_rfl) rfl (by kernel_rfl) (by kernel_rfl)
def KV:bE:=
 .seq (.ag [dM 1 0,dV 2])
 (.seq (.ag [kW 3 1,⟨some 4,.call 126 [(.t 3)],none,[3]⟩,gu 5 4,ab 2 5])
 (.ret))
theorem T0:cv 125 6 [.t 2] KV:=cx Tryz.func125 (by kernel_rfl) (by kernel_rfl) rfl (by kernel_rfl) (by kernel_rfl)
def KW:bE:=
 .seq (.ag [dM 1 0,dV 2])
 (.seq (.seq (.ag [eQ 3 1,aE 4 3])
 (.block 0 (.seq (.ag [oB 6 4,ab 5 6])
 (.cond (.t 5)
 (.seq (.ag [cQ 7 1,aE 8 7,yY 9 8,ab 10 9,ly 11 1 10,cY 12 11 10,EB 13 12 10,cN 14 10 13,ab 15 14,l3 16 1 15,cY 17 16 15,Bz 18 17 15,cN 19 15 18,ab 2 19])
 (.ret))
 (.seq (.ag [nK 21 4,ab 20 21])
 (.cond (.t 20)
 (.seq (.ag [cQ 22 1,aE 23 22,ED 24 23,ab 25 24,ly 26 1 25,cY 27 26 25,EE 28 27 25,cN 29 25 28,ab 30 29,l3 31 1 30,cY 32 31 30,Bz 33 32 30,cN 34 30 33,ab 2 34])
 (.ret))
 (.seq (.ag [wZ 36 4,ab 35 36])
 (.cond (.t 35)
 (.seq (.ag [cQ 37 1,aE 38 37,y3 39 38,ab 40 39,l3 41 1 40,cY 42 41 40,w3 43 42 40,EF 44 43 40,cN 45 40 44,ab 2 45])
 (.ret))
 (.skip)))))))))
 (.seq (.ag [dV 2])
 (.ret)))
theorem T1:cv 126 46 [.t 2] KW:=cx Tryz.func126 (by kernel_rfl) (by kernel_rfl) rfl (by kernel_rfl) (by kernel_rfl)
def KY:bE:=
 .seq (.ag [fz 9 8 7])
 (.seq (.cond (.t 9)
 (.skip)
 (.exit 0))
 (.seq (.block 1 (.seq (.ag [ab 10 8,ab 5 10])
 (.seq (.ag [ab 11 1,ab 12 0,ab 13 5,iT 14 12 13,cK 15 14,wY 16 11 15])
 (.cond (.t 16)
 (.seq (.ag [ab 17 5,ab 4 17])
 (.ret))
 (.skip)))))
 (.ag [e' 18 8,ab 8 18])))
def KX:bE:=
 .seq (.ag [ey 4])
 (.seq (.seq (.ag [ab 6 0,db 7 6,ey 8])
 (.block 0 (.loop KY)))
 (.seq (.ag [⟨some 4,.gQ (.c (.int .i64 (-1))),none,[]⟩])
 (.ret)))
theorem T2:cv 127 19 [.t 4] KX:=cx Tryz.func127 (by kernel_rfl) (by kernel_rfl) rfl (by kernel_rfl) (by kernel_rfl)
def Lo:bE:=
 .seq (.ag [fz 9 8 7])
 (.seq (.cond (.t 9)
 (.skip)
 (.exit 0))
 (.seq (.block 1 (.seq (.ag [ab 10 8,ab 5 10])
 (.seq (.ag [ab 11 1,ab 12 0,ab 13 5,q9 14 12 13,kW 15 14,wY 16 11 15])
 (.cond (.t 16)
 (.seq (.ag [ab 17 5,ab 4 17])
 (.ret))
 (.skip)))))
 (.ag [e' 18 8,ab 8 18])))
def Ln:bE:=
 .seq (.ag [ey 4])
 (.seq (.seq (.ag [ab 6 0,db 7 6,ey 8])
 (.block 0 (.loop Lo)))
 (.seq (.ag [⟨some 4,.gQ (.c (.int .i64 (-1))),none,[]⟩])
 (.ret)))
theorem Uk:cv 160 19 [.t 4] Ln:=cx Tryz.func160 (by kernel_rfl) (by kernel_rfl) rfl (by kernel_rfl) (by kernel_rfl)
def sB:bE:=
 .seq (.ag [dM 1 0,dV 2])
 (.seq (.seq (.ag [cK 5 1,y4 6 5])
 (.cond (.t 6)
 (.seq (.ag [⟨some 7,.call 11 [],none,[]⟩,ab 2 7])
 (.ret))
 (.skip)))
 (.seq (.ag [cK 8 1,⟨some 9,.call 12 [(.t 8)],none,[8]⟩,nf 3,⟨none,.st 7 (.t 3) (.t 9),none,[3,9]⟩])
 (.seq (.draw [cK 10 3,cK 12 1,⟨some 11,.call 20 [(.t 10)],none,[10]⟩,⟨some 13,.call 21 [(.t 12)],none,[12]⟩,oA 14 11 13,ab 15 14,kV 16 3 15,kV 18 1 15,⟨some 17,.call 22 [(.t 16)],(some (15,true)),[16,15]⟩,⟨some 19,.call 23 [(.t 18)],(some (15,true)),[18,15]⟩,q' 20 17 19 15,cN 21 15 20,ab 4 21] [(0,[2]),(1,[2,3]),(6,[8]),(7,[8,9])])
 (.seq (.draw [ab 22 4,ab 23 22,kV 24 3 23,kV 26 1 23,⟨some 25,.call 25 [(.t 24)],(some (23,true)),[24,23]⟩,⟨some 27,.call 26 [(.t 26)],(some (23,true)),[26,23]⟩,EG 28 25 27 23,cN 29 23 28,ab 30 29,kV 31 3 30,kV 33 1 30,⟨some 32,.call 27 [(.t 31)],(some (30,true)),[31,30]⟩,⟨some 34,.call 28 [(.t 33)],(some (30,true)),[33,30]⟩,EG 35 32 34 30,cN 36 30 35,ab 4 36] [(2,[4]),(3,[4,5]),(9,[11]),(10,[11,12])])
 (.seq (.ag [ab 37 4,ab 38 37,kV 39 3 38,kV 40 1 38,EH 41 39 40 38,cN 42 38 41,ab 43 42,BA 44 43,cN 45 43 44,ab 2 45])
 (.ret))))))
def Fy:bE:=
 .seq (.ag [dM 2 0,dV 4])
 (.seq (.seq (.ag [cK 10 2,y4 11 10])
 (.cond (.t 11)
 (.seq (.ag [⟨some 12,.call 11 [],none,[]⟩,ab 4 12])
 (.ret))
 (.skip)))
 (.seq (.ag [cK 13 2,⟨some 14,.call 12 [(.t 13)],none,[13]⟩,nf 5,⟨none,.st 7 (.t 5) (.t 14),none,[5,14]⟩])
 (.seq (.ag [cK 16 5,ab 17 1,⟨some 18,.call 29 [(.t 16),(.t 17)],none,[16,17]⟩,ab 15 18,tB 19 15,tC 20 15,nf 6,⟨none,.st 7 (.t 6) (.t 19),none,[6,19]⟩,ab 7 20])
 (.seq (.ag [cK 22 2,ab 23 1,⟨some 24,.call 30 [(.t 22),(.t 23)],none,[22,23]⟩,ab 21 24,tB 25 21,tC 26 21,nf 8,⟨none,.st 7 (.t 8) (.t 25),none,[8,25]⟩,ab 9 26])
 (.seq (.seq (.ag [cK 27 6,cK 28 8,⟨some 29,.call 16 [(.t 27),(.t 28)],none,[27,28]⟩,gu 30 29,ab 31 30,fJ 32 7 31,fJ 33 9 31,⟨some 34,.bin (.int .neq) (.t 32) (.t 33),(some (31,false)),[32,33,31]⟩,fI 35 31 34])
 (.cond (.t 35)
 (.seq (.ag [dV 4])
 (.ret))
 (.skip)))
 (.seq (.ag [cK 36 6,⟨some 37,.call 31 [(.t 36)],none,[36]⟩])
 (.seq (.ag [cK 38 5,cK 39 2,⟨some 40,.call 16 [(.t 38),(.t 39)],none,[38,39]⟩,ab 41 40,BA 42 41,cN 43 41 42,ab 4 43])
 (.ret))))))))
def B':bE:=
 .seq (.ag [dM 2 0,dV 4])
 (.seq (.ag [cK 5 2,ab 6 1,⟨some 7,.call 39 [(.t 5),(.t 6)],none,[5,6]⟩,ab 8 1,⟨some 9,.bin (.int .gtr) (.t 7) (.t 8),none,[7,8]⟩,ab 4 9])
 (.ret))
theorem TM:cv 10 10 [.t 4] B':=cx Tryz.func10 (by kernel_rfl) (by kernel_rfl) rfl (by kernel_rfl) (by kernel_rfl)
def KZ:bE:=
 .seq (.seq (.ag [ab 18 4,ab 19 3,db 20 19,fz 21 18 20])
 (.cond (.t 21)
 (.skip)
 (.exit 0)))
 (.seq (.block 1 (.draw [eu 24 1,aE 25 24,ab 26 3,ab 27 4,iT 28 26 27,cK 29 28,⟨some 30,.call 12 [(.t 29)],none,[29]⟩,⟨some 31,.h5 1 7 [(.int .i64 0),(.int .i64 0),(.int .i64 0),(.str []),.ay,.ay,.ay] [(0,7,(.t 30))],none,[30]⟩,⟨some 32,.app 7 (.t 25) (.t 31),none,[25,31]⟩,eu 33 1,⟨none,.st 1 (.t 33) (.t 32),none,[33,32]⟩] [(1,[6,8]),(5,[6])]))
 (.ag [ab 22 4,e' 23 22,ab 4 23]))
def KO:bE:=
 .seq (.ag [dM 1 0,nf 2])
 (.seq (.ag [⟨some 5,.h5 0 3 [(.int .i64 0),(.int .i64 0),(.str [])] [],none,[]⟩,jz 6 1,aE 7 6,⟨some 8,.app 3 (.t 5) (.t 7),none,[5,7]⟩,jz 9 1,⟨none,.st 1 (.t 9) (.t 8),none,[9,8]⟩])
 (.seq (.ag [y1 10,pw 11 1,aE 12 11,ie 13 10 12,pw 14 1,⟨none,.st 1 (.t 14) (.t 13),none,[14,13]⟩])
 (.seq (.ag [eu 15 1,aE 16 15,ab 3 16])
 (.seq (.ag [eu 17 1,⟨none,.st 1 (.t 17) (.c .ay),none,[17]⟩])
 (.seq (.seq (.ag [ey 4])
 (.block 0 (.loop KZ)))
 (.seq (.ag [cK 34 1,⟨none,.st 7 (.t 2) (.t 34),none,[2,34]⟩])
 (.ret)))))))
theorem T3:cv 12 35 [.k3 2 7] KO:=cx Tryz.func12 (by kernel_rfl) (by kernel_rfl) rfl (by kernel_rfl) (by kernel_rfl)
def Lm:bE:=
 .seq (.ag [dM 2 0,dM 3 1,dV 4])
 (.seq (.ag [eQ 5 2,aE 6 5,eQ 7 3,aE 8 7,oA 9 6 8,ab 10 9,ly 11 2 10,cY 12 11 10,ly 13 3 10,cY 14 13 10,q' 15 12 14 10,cN 16 10 15,ab 17 16,l3 18 2 17,cY 19 18 17,l3 20 3 17,cY 21 20 17,q' 22 19 21 17,cN 23 17 22,ab 24 23,qd 25 2 24,cY 26 25 24,qd 27 3 24,cY 28 27 24,⟨some 29,.bin (.str .eql) (.t 26) (.t 28),(some (24,true)),[26,28,24]⟩,cN 30 24 29,ab 31 30,mH 32 2 31,cY 33 32 31,mH 34 3 31,cY 35 34 31,⟨some 36,.call 42 [(.t 33),(.t 35)],(some (31,true)),[33,35,31]⟩,cN 37 31 36,ab 38 37,yX 39 2 38,cY 40 39 38,yX 41 3 38,cY 42 41 38,EG 43 40 42 38,cN 44 38 43,ab 45 44,⟨some 46,.c2 6 (.t 2),(some (45,true)),[2,45]⟩,cY 47 46 45,⟨some 48,.c2 6 (.t 3),(some (45,true)),[3,45]⟩,cY 49 48 45,⟨some 50,.call 43 [(.t 47),(.t 49)],(some (45,true)),[47,49,45]⟩,cN 51 45 50,ab 4 51])
 (.ret))
theorem Un:cv 16 52 [.t 4] Lm:=cx Tryz.func16 (by kernel_rfl) (by kernel_rfl) rfl (by kernel_rfl) (by kernel_rfl)
def Lu:bE:=
 .seq (.ag [dM 1 0,ey 2])
 (.seq (.seq (.ag [cK 3 1,yH 4 3,gu 5 4])
 (.cond (.t 5)
 (.seq (.ag [⟨some 2,.gQ (.c (.int .i64 2)),none,[]⟩])
 (.ret))
 (.skip)))
 (.seq (.seq (.draw [cK 6 1,cK 9 1,⟨some 7,.call 48 [(.t 6),(.c .ay)],none,[6]⟩,db 8 7,⟨some 10,.call 26 [(.t 9)],none,[9]⟩,db 11 10,oy 12 8 11] [(0,[2]),(1,[2,4])])
 (.cond (.t 12)
 (.seq (.ag [⟨some 2,.gQ (.c (.int .i64 7)),none,[]⟩])
 (.ret))
 (.skip)))
 (.seq (.seq (.ag [cK 13 1,⟨some 14,.call 28 [(.t 13)],none,[13]⟩,db 15 14,Bs 16 15])
 (.cond (.t 16)
 (.seq (.ag [⟨some 2,.gQ (.c (.int .i64 6)),none,[]⟩])
 (.ret))
 (.skip)))
 (.seq (.ag [ey 2])
 (.ret)))))
theorem Ur:cv 21 17 [.t 2] Lu:=cx Tryz.func21 (by kernel_rfl) (by kernel_rfl) rfl (by kernel_rfl) (by kernel_rfl)
def Lx:bE:=
 .seq (.seq (.ag [ab 11 5,ab 12 0,db 13 12,fz 14 11 13])
 (.cond (.t 14)
 (.skip)
 (.exit 0)))
 (.seq (.block 1 (.seq (.draw [ab 17 0,ab 18 5,h3 19 17 18,aE 20 19,ab 21 1,ab 22 5,h3 23 21 22,aE 24 23,oy 25 20 24] [])
 (.cond (.t 25)
 (.seq (.ag [dV 4])
 (.ret))
 (.skip))))
 (.ag [ab 15 5,e' 16 15,ab 5 16]))
def Lw:bE:=
 .seq (.ag [dV 4])
 (.seq (.seq (.ag [ab 6 0,db 7 6,ab 8 1,db 9 8,oy 10 7 9])
 (.cond (.t 10)
 (.seq (.ag [dV 4])
 (.ret))
 (.skip)))
 (.seq (.seq (.ag [ey 5])
 (.block 0 (.loop Lx)))
 (.seq (.ag [lz 4])
 (.ret))))
theorem Ut:cv 24 26 [.t 4] Lw:=cx Tryz.func24 (by kernel_rfl) (by kernel_rfl) rfl (by kernel_rfl) (by kernel_rfl)
def Lz:bE:=
 .seq (.ag [dM 1 0,jy 2])
 (.seq (.seq (.ag [cK 3 1,yH 4 3,gu 5 4])
 (.cond (.t 5)
 (.seq (.ag [jy 2])
 (.ret))
 (.skip)))
 (.seq (.ag [cK 6 1,⟨some 7,.call 48 [(.t 6),(.c .ay)],none,[6]⟩,⟨some 8,.call 53 [(.t 7)],none,[7]⟩,ab 2 8])
 (.ret)))
theorem Uv:cv 26 9 [.t 2] Lz:=cx Tryz.func26 (by kernel_rfl) (by kernel_rfl) rfl (by kernel_rfl) (by kernel_rfl)
def LA:bE:=
 .seq (.ag [dM 1 0,jy 2])
 (.seq (.seq (.ag [cK 3 1,yH 4 3,gu 5 4])
 (.cond (.t 5)
 (.seq (.ag [jy 2])
 (.ret))
 (.skip)))
 (.seq (.ag [cK 6 1,⟨some 7,.call 54 [(.t 6),(.c .ay),(.c .ay)],none,[6]⟩,⟨some 8,.call 53 [(.t 7)],none,[7]⟩,ab 2 8])
 (.ret)))
theorem Uw:cv 28 9 [.t 2] LA:=cx Tryz.func28 (by kernel_rfl) (by kernel_rfl) rfl (by kernel_rfl) (by kernel_rfl)
def LC:bE:=
 .seq (.seq (.ag [ab 21 6,jz 22 2,aE 23 22,db 24 23,fz 25 21 24])
 (.cond (.t 25)
 (.skip)
 (.exit 0)))
 (.seq (.block 1 (.ag [ab 28 5,jz 29 2,aE 30 29,ab 31 6,q9 32 30 31,e_ 33 32,aE 34 33,w4 35 34,⟨some 36,.bin (.int .quo) (.t 35) (.c (.int .i64 100)),none,[35]⟩,oz 37 28 36,ab 5 37]))
 (.ag [ab 26 6,e' 27 26,ab 6 27]))
def LD:bE:=
 .seq (.seq (.ag [ab 38 7,eu 39 2,aE 40 39,db 41 40,fz 42 38 41,ab 43 42,dH 44 5 43,dH 45 1 43,EC 46 44 45 43,cN 47 43 46])
 (.cond (.t 47)
 (.skip)
 (.exit 2)))
 (.seq (.block 3 (.ag [ab 50 5,eu 51 2,aE 52 51,ab 53 7,iT 54 52 53,cK 55 54,ab 56 1,ab 57 5,⟨some 58,.bin (.int .sub) (.t 56) (.t 57),none,[56,57]⟩,⟨some 59,.call 39 [(.t 55),(.t 58)],none,[55,58]⟩,oz 60 50 59,ab 5 60]))
 (.ag [ab 48 7,e' 49 48,ab 7 49]))
def LB:bE:=
 .seq (.ag [dM 2 0,ey 4])
 (.seq (.ag [jz 8 2,aE 9 8,db 10 9,EI 11 10,pw 12 2,aE 13 12,db 14 13,oz 15 11 14,ng 16 2,aE 17 16,w4 18 17,⟨some 19,.bin (.int .quo) (.t 18) (.c (.int .i64 100)),none,[18]⟩,oz 20 15 19,ab 5 20])
 (.seq (.seq (.ag [ey 6])
 (.block 0 (.loop LC)))
 (.seq (.seq (.ag [ey 7])
 (.block 2 (.loop LD)))
 (.seq (.ag [ab 61 5,ab 4 61])
 (.ret)))))
theorem Ux:cv 39 62 [.t 4] LB:=cx Tryz.func39 (by kernel_rfl) (by kernel_rfl) rfl (by kernel_rfl) (by kernel_rfl)
def LK:bE:=
 .seq (.seq (.ag [ab 11 5,ab 12 0,db 13 12,fz 14 11 13])
 (.cond (.t 14)
 (.skip)
 (.exit 0)))
 (.seq (.block 1 (.seq (.draw [ab 17 0,ab 18 5,q9 19 17 18,kW 20 19,ab 21 1,ab 22 5,q9 23 21 22,kW 24 23,⟨some 25,.bin (.other .neq 41) (.t 20) (.t 24),none,[20,24]⟩] [])
 (.cond (.t 25)
 (.seq (.ag [dV 4])
 (.ret))
 (.skip))))
 (.ag [ab 15 5,e' 16 15,ab 5 16]))
def LJ:bE:=
 .seq (.ag [dV 4])
 (.seq (.seq (.ag [ab 6 0,db 7 6,ab 8 1,db 9 8,oy 10 7 9])
 (.cond (.t 10)
 (.seq (.ag [dV 4])
 (.ret))
 (.skip)))
 (.seq (.seq (.ag [ey 5])
 (.block 0 (.loop LK)))
 (.seq (.ag [lz 4])
 (.ret))))
theorem UB:cv 42 26 [.t 4] LJ:=cx Tryz.func42 (by kernel_rfl) (by kernel_rfl) rfl (by kernel_rfl) (by kernel_rfl)
def LM:bE:=
 .seq (.seq (.ag [ab 11 5,ab 12 0,db 13 12,fz 14 11 13])
 (.cond (.t 14)
 (.skip)
 (.exit 0)))
 (.seq (.block 1 (.seq (.draw [ab 17 0,ab 18 5,iT 19 17 18,cK 20 19,ab 21 1,ab 22 5,iT 23 21 22,cK 24 23,⟨some 25,.call 16 [(.t 20),(.t 24)],none,[20,24]⟩,gu 26 25] [(3,[8]),(7,[8])])
 (.cond (.t 26)
 (.seq (.ag [dV 4])
 (.ret))
 (.skip))))
 (.ag [ab 15 5,e' 16 15,ab 5 16]))
def LL:bE:=
 .seq (.ag [dV 4])
 (.seq (.seq (.ag [ab 6 0,db 7 6,ab 8 1,db 9 8,oy 10 7 9])
 (.cond (.t 10)
 (.seq (.ag [dV 4])
 (.ret))
 (.skip)))
 (.seq (.seq (.ag [ey 5])
 (.block 0 (.loop LM)))
 (.seq (.ag [lz 4])
 (.ret))))
theorem UC:cv 43 27 [.t 4] LL:=cx Tryz.func43 (by kernel_rfl) (by kernel_rfl) rfl (by kernel_rfl) (by kernel_rfl)
def LS:bE:=
 .seq (.seq (.ag [ab 23 3,eu 24 1,aE 25 24,db 26 25,kb 27 26,fz 28 23 27])
 (.cond (.t 28)
 (.skip)
 (.exit 0)))
 (.seq (.block 1 (.seq (.ag [eu 31 1,aE 32 31,ab 33 3,iT 34 32 33,cK 35 34,⟨some 36,.call 70 [(.t 35),(.c (.bool true))],none,[35]⟩,gu 37 36,ab 38 37,u4 39 1 38,f' 40 39 38,fJ 41 3 38,⟨some 42,.b_ 7 (.t 40) (.t 41),(some (38,false)),[40,41,38]⟩,u4 43 42 38,f' 44 43 38,⟨some 45,.b_ 7 (.t 44) (.c (.int .i64 0)),(some (38,false)),[44,38]⟩,⟨some 46,.gl 7 (.t 45),(some (38,false)),[45,38]⟩,⟨some 47,.call 47 [(.t 46)],(some (38,false)),[46,38]⟩,yV 48 47 38,fI 49 38 48])
 (.cond (.t 49)
 (.seq (.ag [dV 2])
 (.ret))
 (.skip))))
 (.ag [ab 29 3,e' 30 29,ab 3 30]))
def Fv:bE:=
 .seq (.seq (.ag [ab 67 4,eu 68 1,aE 69 68,db 70 69,fz 71 67 70])
 (.cond (.t 71)
 (.skip)
 (.exit 2)))
 (.seq (.block 3 (.seq (.ag [eu 74 1,aE 75 74,ab 76 4,iT 77 75 76,cK 78 77,yH 79 78,gu 80 79])
 (.cond (.t 80)
 (.seq (.ag [dV 2])
 (.ret))
 (.skip))))
 (.ag [ab 72 4,e' 73 72,ab 4 73]))
def LR:bE:=
 .seq (.ag [dM 1 0,dV 2])
 (.seq (.seq (.ag [eQ 5 1,aE 6 5,w1 7 6])
 (.cond (.t 7)
 (.seq (.seq (.ag [cK 8 1,EJ 9 8,gu 10 9,ab 11 10,Bv 12 1 11,f' 13 12 11,lx 14 13 11,Et 15 14 11,fI 16 11 15,ab 17 16,u4 18 1 17,f' 19 18 17,lx 20 19 17,⟨some 21,.bin (.int .lss) (.t 20) (.c (.int .i64 2)),(some (17,false)),[20,17]⟩,fI 22 17 21])
 (.cond (.t 22)
 (.seq (.ag [dV 2])
 (.ret))
 (.skip)))
 (.seq (.seq (.ag [ey 3])
 (.block 0 (.loop LS)))
 (.seq (.ag [eu 50 1,aE 51 50,eu 52 1,aE 53 52,db 54 53,kb 55 54,iT 56 51 55,cK 57 56,yH 58 57,ab 2 58])
 (.ret))))
 (.skip)))
 (.seq (.seq (.ag [cK 59 1,⟨some 60,.call 71 [(.t 59)],none,[59]⟩,gu 61 60,ab 62 61,kV 63 1 62,⟨some 64,.call 70 [(.t 63),(.c (.bool false))],(some (62,true)),[63,62]⟩,u5 65 64 62,cN 66 62 65])
 (.cond (.t 66)
 (.seq (.ag [dV 2])
 (.ret))
 (.skip)))
 (.seq (.seq (.ag [ey 4])
 (.block 2 (.loop Fv)))
 (.seq (.ag [lz 2])
 (.ret)))))
theorem UG:cv 47 81 [.t 2] LR:=cx Tryz.func47 (by kernel_rfl) (by kernel_rfl) rfl (by kernel_rfl) (by kernel_rfl)
def LV:bE:=
 .seq (.seq (.ag [ab 37 5,eu 38 2,aE 39 38,db 40 39,kb 41 40,fz 42 37 41])
 (.cond (.t 42)
 (.skip)
 (.exit 1)))
 (.seq (.block 2 (.ag [ab 45 1,eu 46 2,aE 47 46,ab 48 5,iT 49 47 48,e_ 50 49,aE 51 50,oC 52 51,ie 53 45 52,ab 1 53]))
 (.ag [ab 43 5,e' 44 43,ab 5 44]))
def Fw:bE:=
 .seq (.seq (.ag [ab 54 6,eu 55 2,aE 56 55,db 57 56,fz 58 54 57])
 (.cond (.t 58)
 (.skip)
 (.exit 3)))
 (.seq (.block 4 (.ag [eu 61 2,aE 62 61,ab 63 6,iT 64 62 63,cK 65 64,ab 66 1,⟨some 67,.call 48 [(.t 65),(.t 66)],none,[65,66]⟩,ab 1 67]))
 (.ag [ab 59 6,e' 60 59,ab 6 60]))
def LU:bE:=
 .seq (.ag [dM 2 0,jy 4])
 (.seq (.seq (.ag [eQ 7 2,aE 8 7])
 (.block 0 (.seq (.seq (.ag [nK 10 8,ab 9 10])
 (.cond (.t 9)
 (.skip)
 (.ag [u6 11 8,ab 9 11])))
 (.cond (.t 9)
 (.seq (.ag [eu 12 2,aE 13 12,tD 14 13,cK 15 14,ab 16 1,⟨some 17,.call 48 [(.t 15),(.t 16)],none,[15,16]⟩,ab 1 17])
 (.seq (.draw [eu 18 2,aE 19 18,yI 20 19,cK 21 20,ab 22 1,cQ 23 2,aE 24 23,oC 25 24,ie 26 22 25,⟨some 27,.call 48 [(.t 21),(.t 26)],none,[21,26]⟩,ab 4 27] [(1,[8,9]),(3,[8,9]),(6,[8])])
 (.ret)))
 (.seq (.ag [w0 29 8,ab 28 29])
 (.cond (.t 28)
 (.ag [ab 30 1,cQ 31 2,aE 32 31,oC 33 32,ie 34 30 33,ab 1 34])
 (.seq (.ag [w1 36 8,ab 35 36])
 (.cond (.t 35)
 (.seq (.ag [ey 5])
 (.block 1 (.loop LV)))
 (.skip)))))))))
 (.seq (.seq (.ag [ey 6])
 (.block 3 (.loop Fw)))
 (.seq (.ag [ab 68 1,ab 4 68])
 (.ret))))
theorem UH:cv 48 69 [.t 4] LU:=cx Tryz.func48 (by kernel_rfl) (by kernel_rfl) rfl (by kernel_rfl) (by kernel_rfl)
def L2:bE:=
 .seq (.seq (.draw [ab 13 5,ab 14 3,db 15 14,fz 16 13 15,ab 17 16,dH 18 3 17,dH 19 5 17,w5 20 18 19 17,cY 21 20 17,dH 22 0 17,dH 23 4 17,w5 24 22 23 17,cY 25 24 17,BB 26 21 25 17,cN 27 17 26] [])
 (.cond (.t 27)
 (.skip)
 (.exit 2)))
 (.block 3 (.ag [ab 28 5,e' 29 28,ab 5 29]))
def L3:bE:=
 .seq (.seq (.ag [ab 7 4,ab 8 0,db 9 8,fz 10 7 9])
 (.cond (.t 10)
 (.skip)
 (.exit 0)))
 (.seq (.block 1 (.seq (.ag [ey 5])
 (.seq (.block 2 (.loop L2))
 (.seq (.seq (.draw [ab 30 5,ab 31 3,db 32 31,fz 33 30 32,ab 34 33,dH 35 3 34,dH 36 5 34,w5 37 35 36 34,cY 38 37 34,dH 39 0 34,dH 40 4 34,w5 41 39 40 34,cY 42 41 34,q' 43 38 42 34,cN 44 34 43] [])
 (.cond (.t 44)
 (.exit 1)
 (.skip)))
 (.seq (.ag [y1 45,ab 46 3,ab 47 5,Ev 48 46 47,ie 49 45 48,ab 6 49])
 (.draw [ab 50 3,ab 51 5,ab 52 5,⟨some 53,.g_ 1 (.t 50) none (some (.t 51)) (some (.t 52)),none,[50,51,52]⟩,ab 54 0,ab 55 4,h3 56 54 55,aE 57 56,oC 58 57,ab 60 6,ie 59 53 58,ie 61 59 60,ab 3 61] [(7,[10])]))))))
 (.ag [ab 11 4,e' 12 11,ab 4 12]))
def L1:bE:=
 .seq (.ag [jy 2])
 (.seq (.ag [jy 3])
 (.seq (.seq (.ag [ey 4])
 (.block 0 (.loop L3)))
 (.seq (.ag [ab 62 3,ab 2 62])
 (.ret))))
theorem UK:cv 53 63 [.t 2] L1:=cx Tryz.func53 (by kernel_rfl) (by kernel_rfl) rfl (by kernel_rfl) (by kernel_rfl)
def L5:bE:=
 .seq (.seq (.ag [ab 11 7,jz 12 3,aE 13 12,db 14 13,fz 15 11 14])
 (.cond (.t 15)
 (.skip)
 (.exit 0)))
 (.seq (.block 1 (.seq (.ag [jz 18 3,aE 19 18,ab 20 7,q9 21 19 20,eQ 22 21,aE 23 22,oB 24 23,ab 25 24,dH 26 1 25,mH 27 3 25,cY 28 27 25,dH 29 7 25,⟨some 30,.b_ 3 (.t 28) (.t 29),(some (25,true)),[28,29,25]⟩,ly 31 30 25,cY 32 31 25,⟨some 33,.call 74 [(.t 26),(.t 32)],(some (25,true)),[26,32,25]⟩,u5 34 33 25,cN 35 25 34])
 (.cond (.t 35)
 (.ag [ab 36 2,jz 37 3,aE 38 37,ab 39 7,q9 40 38 39,cQ 41 40,aE 42 41,oC 43 42,ie 44 36 43,ab 2 44])
 (.skip))))
 (.ag [ab 16 7,e' 17 16,ab 7 17]))
def L6:bE:=
 .seq (.seq (.ag [ab 80 9,eu 81 3,aE 82 81,db 83 82,kb 84 83,fz 85 80 84])
 (.cond (.t 85)
 (.skip)
 (.exit 3)))
 (.seq (.block 4 (.ag [ab 88 8,eu 89 3,aE 90 89,ab 91 9,iT 92 90 91,e_ 93 92,aE 94 93,oC 95 94,ie 96 88 95,ab 8 96]))
 (.ag [ab 86 9,e' 87 86,ab 9 87]))
def Fx:bE:=
 .seq (.seq (.ag [ab 97 10,eu 98 3,aE 99 98,db 100 99,fz 101 97 100])
 (.cond (.t 101)
 (.skip)
 (.exit 5)))
 (.seq (.block 6 (.ag [eu 104 3,aE 105 104,ab 106 10,iT 107 105 106,cK 108 107,ab 109 8,ab 110 2,EK 111 108 109 110,ab 2 111]))
 (.ag [ab 102 10,e' 103 102,ab 10 103]))
def L4:bE:=
 .seq (.ag [dM 3 0,jy 6])
 (.seq (.seq (.ag [ey 7])
 (.block 0 (.loop L5)))
 (.seq (.ag [y1 45,ab 46 1,ie 47 45 46,ab 8 47])
 (.seq (.seq (.ag [eQ 48 3,aE 49 48])
 (.block 2 (.seq (.seq (.ag [nK 51 49,ab 50 51])
 (.cond (.t 50)
 (.skip)
 (.ag [u6 52 49,ab 50 52])))
 (.cond (.t 50)
 (.seq (.ag [eu 53 3,aE 54 53,tD 55 54,cK 56 55,ab 57 1,ab 58 2,EK 59 56 57 58,ab 2 59])
 (.seq (.draw [eu 60 3,aE 61 60,yI 62 61,cK 63 62,ab 64 8,cQ 65 3,aE 66 65,oC 67 66,ab 69 2,ie 68 64 67,EK 70 63 68 69,ab 6 70] [(1,[9,10]),(3,[9,10]),(6,[9])])
 (.ret)))
 (.seq (.ag [w0 72 49,ab 71 72])
 (.cond (.t 71)
 (.ag [ab 73 8,cQ 74 3,aE 75 74,oC 76 75,ie 77 73 76,ab 8 77])
 (.seq (.ag [w1 79 49,ab 78 79])
 (.cond (.t 78)
 (.seq (.ag [ey 9])
 (.block 3 (.loop L6)))
 (.skip)))))))))
 (.seq (.seq (.ag [ey 10])
 (.block 5 (.loop Fx)))
 (.seq (.ag [ab 112 2,ab 6 112])
 (.ret))))))
theorem UL:cv 54 113 [.t 6] L4:=cx Tryz.func54 (by kernel_rfl) (by kernel_rfl) rfl (by kernel_rfl) (by kernel_rfl)
def Ml:bE:=
 .seq (.ag [dM 5 0,dV 10])
 (.seq (.ag [ab 11 1,ab 12 11,⟨some 13,.c2 1 (.t 5),(some (12,false)),[5,12]⟩,f' 14 13 12,EL 15 14 12,fI 16 12 15,ab 17 16,dH 18 2 17,dH 19 18 17,se 20 5 19,f' 21 20 19,EL 22 21 19,q8 23 19 22 17,cN 24 17 23,ab 25 24,dH 26 3 25,dH 27 26 25,Bt 28 5 27,f' 29 28 27,⟨some 30,.bin (.str .eql) (.t 29) (.c (.str [])),(some (27,false)),[29,27]⟩,q8 31 27 30 25,cN 32 25 31,ab 33 32,dH 34 4 33,dH 35 34 33,Bu 36 5 35,f' 37 36 35,lx 38 37 35,EL 39 38 35,q8 40 35 39 33,cN 41 33 40,ab 10 41])
 (.ret))
theorem UX:cv 69 42 [.t 10] Ml:=cx Tryz.func69 (by kernel_rfl) (by kernel_rfl) rfl (by kernel_rfl) (by kernel_rfl)
def Mm:bE:=
 .seq (.ag [dM 2 0,dV 4])
 (.seq (.ag [eQ 5 2,aE 6 5,w0 7 6,ab 8 7,kV 9 2 8,dH 10 1 8,⟨some 11,.call 69 [(.t 9),(.c (.bool true)),(.t 10),(.c (.bool false)),(.c (.bool false))],(some (8,true)),[9,10,8]⟩,cN 12 8 11,ab 13 12,ly 14 2 13,cY 15 14 13,BC 16 15 13,cN 17 13 16,ab 18 17,dH 19 1 18,u5 20 19 18,dH 21 20 18,se 22 2 21,f' 23 22 21,⟨some 24,.call 130 [(.t 23)],(some (21,false)),[23,21]⟩,q8 25 21 24 18,cN 26 18 25,ab 27 26,mH 28 2 27,cY 29 28 27,q7 30 29 27,sf 31 30 27,cN 32 27 31,ab 33 32,⟨some 34,.c2 6 (.t 2),(some (33,true)),[2,33]⟩,cY 35 34 33,q7 36 35 33,yJ 37 36 33,cN 38 33 37,ab 4 38])
 (.ret))
theorem UZ:cv 70 39 [.t 4] Mm:=cx Tryz.func70 (by kernel_rfl) (by kernel_rfl) rfl (by kernel_rfl) (by kernel_rfl)
def Mn:bE:=
 .seq (.ag [dM 1 0,dV 2])
 (.seq (.ag [eu 5 1,aE 6 5,db 7 6,ab 3 7])
 (.seq (.seq (.ag [eQ 8 1,aE 9 8])
 (.block 0 (.seq (.seq (.ag [oB 11 9,ab 10 11])
 (.cond (.t 10)
 (.skip)
 (.ag [EM 12 9,ab 10 12])))
 (.cond (.t 10)
 (.seq (.ag [cK 13 1,EJ 14 13,ab 15 14,mH 16 1 15,cY 17 16 15,EN 18 17 15,cN 19 15 18,ab 20 19,dH 21 3 20,sf 22 21 20,cN 23 20 22,ab 2 23])
 (.ret))
 (.seq (.seq (.ag [nK 25 9,ab 24 25])
 (.cond (.t 24)
 (.skip)
 (.ag [u6 26 9,ab 24 26])))
 (.cond (.t 24)
 (.seq (.ag [cK 27 1,⟨some 28,.call 69 [(.t 27),(.c (.bool true)),(.c (.bool false)),(.c (.bool false)),(.c (.bool false))],none,[27]⟩,ab 29 28,ly 30 1 29,cY 31 30 29,BC 32 31 29,cN 33 29 32,ab 34 33,mH 35 1 34,cY 36 35 34,q7 37 36 34,sf 38 37 34,cN 39 34 38,ab 40 39,dH 41 3 40,Bx 42 41 40,cN 43 40 42,ab 2 43])
 (.ret))
 (.seq (.ag [wZ 45 9,ab 44 45])
 (.cond (.t 44)
 (.seq (.draw [cK 46 1,⟨some 47,.call 69 [(.t 46),(.c (.bool false)),(.c (.bool false)),(.c (.bool true)),(.c (.bool false))],none,[46]⟩,ab 48 47,qd 49 1 48,cY 50 49 48,⟨some 51,.call 132 [(.t 50)],(some (48,true)),[50,48]⟩,⟨some 52,.bin (.int .gtr) (.t 51) (.c (.int .i64 0)),(some (48,true)),[51,48]⟩,cN 53 48 52,ab 54 53,mH 55 1 54,cY 56 55 54,qd 57 1 54,cY 58 57 54,⟨some 59,.call 132 [(.t 58)],(some (54,true)),[58,54]⟩,⟨some 60,.call 131 [(.t 56),(.t 59)],(some (54,true)),[56,59,54]⟩,cN 61 54 60,ab 62 61,dH 63 3 62,sf 64 63 62,cN 65 62 64,ab 2 65] [(0,[1]),(4,[5]),(10,[13,14]),(12,[13])])
 (.ret))
 (.seq (.ag [BD 67 9,ab 66 67])
 (.cond (.t 66)
 (.seq (.ag [cK 68 1,Jz 69 68,ab 70 69,l3 71 1 70,cY 72 71 70,BC 73 72 70,cN 74 70 73,ab 75 74,mH 76 1 75,cY 77 76 75,q7 78 77 75,⟨some 79,.bin (.int .leq) (.t 78) (.c (.int .i64 1024)),(some (75,true)),[78,75]⟩,cN 80 75 79,ab 81 80,mH 82 1 81,cY 83 82 81,mH 84 1 81,cY 85 84 81,q7 86 85 81,⟨some 87,.call 131 [(.t 83),(.t 86)],(some (81,true)),[83,86,81]⟩,cN 88 81 87,ab 89 88,dH 90 3 89,sf 91 90 89,cN 92 89 91,ab 2 92])
 (.ret))
 (.seq (.ag [Bw 94 9,ab 93 94])
 (.cond (.t 93)
 (.seq (.ag [cK 95 1,Jz 96 95,ab 97 96,l3 98 1 97,cY 99 98 97,BE 100 99 97,cN 101 97 100,ab 102 101,l3 103 1 102,cY 104 103 102,⟨some 105,.bin (.int .lss) (.t 104) (.c (.int .i64 1024)),(some (102,true)),[104,102]⟩,cN 106 102 105,ab 107 106,mH 108 1 107,cY 109 108 107,EN 110 109 107,cN 111 107 110,ab 112 111,dH 113 3 112,sf 114 113 112,cN 115 112 114,ab 2 115])
 (.ret))
 (.seq (.ag [EO 117 9,ab 116 117])
 (.cond (.t 116)
 (.seq (.ag [cK 118 1,EJ 119 118,ab 120 119,mH 121 1 120,cY 122 121 120,⟨some 123,.call 131 [(.t 122),(.c (.int .i64 2))],(some (120,true)),[122,120]⟩,cN 124 120 123,ab 125 124,dH 126 3 125,sf 127 126 125,cN 128 125 127,ab 2 128])
 (.ret))
 (.seq (.seq (.ag [EP 130 9,ab 129 130])
 (.cond (.t 129)
 (.skip)
 (.ag [y2 131 9,ab 129 131])))
 (.cond (.t 129)
 (.seq (.ag [ab 132 3,⟨some 133,.bin (.int .geq) (.t 132) (.c (.int .i64 1)),none,[132]⟩,ab 134 133,dH 135 3 134,yX 136 1 134,cY 137 136 134,q7 138 137 134,q' 139 135 138 134,dH 140 139 134,fJ 141 3 140,Bu 142 1 140,f' 143 142 140,lx 144 143 140,⟨some 145,.bin (.int .add) (.t 144) (.c (.int .i64 1)),(some (140,false)),[144,140]⟩,⟨some 146,.bin (.int .eql) (.t 141) (.t 145),(some (140,false)),[141,145,140]⟩,q8 147 140 146 134,cN 148 134 147,ab 4 148])
 (.seq (.ag [cK 149 1,⟨some 150,.call 69 [(.t 149),(.c (.bool false)),(.c (.bool false)),(.c (.bool false)),(.c (.bool true))],none,[149]⟩,ab 151 150,mH 152 1 151,cY 153 152 151,EN 154 153 151,cN 155 151 154,ab 156 155,yX 157 1 156,cY 158 157 156,yZ 159 1 156,cY 160 159 156,⟨some 161,.bin (.int .eql) (.t 160) (.c (.int .i64 10)),(some (156,true)),[160,156]⟩,⟨some 162,.call 133 [(.t 158),(.t 161)],(some (156,true)),[158,161,156]⟩,cN 163 156 162,ab 164 163,dH 165 4 164,cN 166 164 165,ab 2 166])
 (.ret)))
 (.skip)))))))))))))))))
 (.seq (.ag [dV 2])
 (.ret))))
theorem U0:cv 71 167 [.t 2] Mn:=cx Tryz.func71 (by kernel_rfl) (by kernel_rfl) rfl (by kernel_rfl) (by kernel_rfl)
def Mp:bE:=
 .seq (.seq (.ag [ab 6 5,ab 7 0,db 8 7,fz 9 6 8])
 (.cond (.t 9)
 (.skip)
 (.exit 0)))
 (.seq (.block 1 (.seq (.ag [ab 12 0,ab 13 5,h3 14 12 13,aE 15 14,ab 16 1,oA 17 15 16])
 (.cond (.t 17)
 (.seq (.ag [lz 4])
 (.ret))
 (.skip))))
 (.ag [ab 10 5,e' 11 10,ab 5 11]))
def Mo:bE:=
 .seq (.ag [dV 4])
 (.seq (.seq (.ag [ey 5])
 (.block 0 (.loop Mp)))
 (.seq (.ag [dV 4])
 (.ret)))
theorem U1:cv 74 18 [.t 4] Mo:=cx Tryz.func74 (by kernel_rfl) (by kernel_rfl) rfl (by kernel_rfl) (by kernel_rfl)
def Ms:bE:=
 .seq (.seq (.ag [ab 6 5,ab 7 0,db 8 7,fz 9 6 8])
 (.cond (.t 9)
 (.skip)
 (.exit 0)))
 (.seq (.block 1 (.seq (.ag [ab 12 0,ab 13 5,h3 14 12 13,aE 15 14,ab 16 1,oA 17 15 16])
 (.cond (.t 17)
 (.seq (.ag [ab 18 5,ab 4 18])
 (.ret))
 (.skip))))
 (.ag [ab 10 5,e' 11 10,ab 5 11]))
def Mr:bE:=
 .seq (.ag [ey 4])
 (.seq (.seq (.ag [ey 5])
 (.block 0 (.loop Ms)))
 (.seq (.ag [⟨some 4,.gQ (.c (.int .i64 (-1))),none,[]⟩])
 (.ret)))
theorem U2:cv 76 19 [.t 4] Mr:=cx Tryz.func76 (by kernel_rfl) (by kernel_rfl) rfl (by kernel_rfl) (by kernel_rfl)
def K1:bE:=
 .seq (.ag [dV 2])
 (.seq (.ag [ab 3 0,yY 4 3,ab 5 4,dH 6 0 5,EB 7 6 5,cN 8 5 7,ab 2 8])
 (.ret))
theorem T4:cv 130 9 [.t 2] K1:=cx Tryz.func130 (by kernel_rfl) (by kernel_rfl) rfl (by kernel_rfl) (by kernel_rfl)
def K3:bE:=
 .seq (.seq (.ag [ab 6 5,ab 7 0,db 8 7,fz 9 6 8])
 (.cond (.t 9)
 (.skip)
 (.exit 0)))
 (.seq (.block 1 (.seq (.ag [ab 12 0,ab 13 5,q9 14 12 13,kW 15 14,⟨some 16,.call 162 [(.t 15)],none,[15]⟩,gu 17 16])
 (.cond (.t 17)
 (.seq (.ag [dV 4])
 (.ret))
 (.skip))))
 (.ag [ab 10 5,e' 11 10,ab 5 11]))
def K2:bE:=
 .seq (.ag [dV 4])
 (.seq (.seq (.ag [ey 5])
 (.block 0 (.loop K3)))
 (.seq (.ag [ab 18 0,db 19 18,ab 20 1,oA 21 19 20,ab 4 21])
 (.ret)))
theorem T5:cv 131 22 [.t 4] K2:=cx Tryz.func131 (by kernel_rfl) (by kernel_rfl) rfl (by kernel_rfl) (by kernel_rfl)
def K4:bE:=
 .seq (.ag [ey 2])
 (.seq (.seq (.ag [ab 3 0])
 (.block 0 (.seq (.seq (.ag [⟨some 5,.bin (.str .eql) (.t 3) (.c (.str [97,100,100])),none,[3]⟩,ab 4 5])
 (.cond (.t 4)
 (.skip)
 (.seq (.ag [⟨some 6,.bin (.str .eql) (.t 3) (.c (.str [115,117,98])),none,[3]⟩,ab 4 6])
 (.cond (.t 4)
 (.skip)
 (.seq (.ag [⟨some 7,.bin (.str .eql) (.t 3) (.c (.str [109,117,108])),none,[3]⟩,ab 4 7])
 (.cond (.t 4)
 (.skip)
 (.seq (.ag [⟨some 8,.bin (.str .eql) (.t 3) (.c (.str [100,105,118])),none,[3]⟩,ab 4 8])
 (.cond (.t 4)
 (.skip)
 (.seq (.ag [⟨some 9,.bin (.str .eql) (.t 3) (.c (.str [109,111,100])),none,[3]⟩,ab 4 9])
 (.cond (.t 4)
 (.skip)
 (.seq (.ag [⟨some 10,.bin (.str .eql) (.t 3) (.c (.str [101,113])),none,[3]⟩,ab 4 10])
 (.cond (.t 4)
 (.skip)
 (.seq (.ag [⟨some 11,.bin (.str .eql) (.t 3) (.c (.str [108,116])),none,[3]⟩,ab 4 11])
 (.cond (.t 4)
 (.skip)
 (.seq (.ag [⟨some 12,.bin (.str .eql) (.t 3) (.c (.str [108,101])),none,[3]⟩,ab 4 12])
 (.cond (.t 4)
 (.skip)
 (.seq (.ag [yK 13 3,ab 4 13])
 (.cond (.t 4)
 (.skip)
 (.seq (.ag [yL 14 3,ab 4 14])
 (.cond (.t 4)
 (.skip)
 (.ag [ER 15 3,ab 4 15])))))))))))))))))))))
 (.cond (.t 4)
 (.seq (.ag [⟨some 2,.gQ (.c (.int .i64 2)),none,[]⟩])
 (.ret))
 (.seq (.seq (.ag [BF 17 3,ab 16 17])
 (.cond (.t 16)
 (.skip)
 (.seq (.ag [BG 18 3,ab 16 18])
 (.cond (.t 16)
 (.skip)
 (.seq (.ag [BH 19 3,ab 16 19])
 (.cond (.t 16)
 (.skip)
 (.seq (.ag [BI 20 3,ab 16 20])
 (.cond (.t 16)
 (.skip)
 (.seq (.ag [BJ 21 3,ab 16 21])
 (.cond (.t 16)
 (.skip)
 (.ag [BK 22 3,ab 16 22])))))))))))
 (.cond (.t 16)
 (.seq (.ag [yW 2])
 (.ret))
 (.seq (.ag [yM 24 3,ab 23 24])
 (.cond (.t 23)
 (.seq (.ag [⟨some 2,.gQ (.c (.int .i64 3)),none,[]⟩])
 (.ret))
 (.skip)))))))))
 (.seq (.ag [ey 2])
 (.ret)))
theorem T6:cv 132 25 [.t 2] K4:=cx Tryz.func132 (by kernel_rfl) (by kernel_rfl) rfl (by kernel_rfl) (by kernel_rfl)
def Fs:bE:=
 .seq (.seq (.ag [ab 34 6,ab 35 5,fz 36 34 35])
 (.cond (.t 36)
 (.skip)
 (.exit 2)))
 (.seq (.block 3 (.seq (.draw [ab 39 0,ab 40 6,h3 41 39 40,aE 42 41,ab 43 0,ab 44 5,h3 45 43 44,aE 46 45,oA 47 42 46] [])
 (.cond (.t 47)
 (.seq (.ag [dV 4])
 (.ret))
 (.skip))))
 (.ag [ab 37 6,e' 38 37,ab 6 38]))
def K6:bE:=
 .seq (.seq (.ag [ab 7 5,ab 8 0,db 9 8,fz 10 7 9])
 (.cond (.t 10)
 (.skip)
 (.exit 0)))
 (.seq (.block 1 (.seq (.seq (.ag [ab 13 1,ab 14 13,dH 15 0 14,dH 16 5 14,w5 17 15 16 14,cY 18 17 14,⟨some 19,.call 163 [(.t 18)],(some (14,true)),[18,14]⟩,u5 20 19 14,cN 21 14 20,ab 22 21,fJ 23 1 22,yV 24 23 22,fJ 25 24 22,dH 26 0 25,dH 27 5 25,w5 28 26 27 25,cY 29 28 25,BC 30 29 25,u5 31 30 25,⟨some 32,.pick (.t 25) (.t 31) (.c (.bool false)),(some (22,false)),[25,31,22]⟩,fI 33 22 32])
 (.cond (.t 33)
 (.seq (.ag [dV 4])
 (.ret))
 (.skip)))
 (.seq (.ag [ey 6])
 (.block 2 (.loop Fs)))))
 (.ag [ab 11 5,e' 12 11,ab 5 12]))
def K5:bE:=
 .seq (.ag [dV 4])
 (.seq (.seq (.ag [ey 5])
 (.block 0 (.loop K6)))
 (.seq (.ag [lz 4])
 (.ret)))
theorem T7:cv 133 48 [.t 4] K5:=cx Tryz.func133 (by kernel_rfl) (by kernel_rfl) rfl (by kernel_rfl) (by kernel_rfl)
def Lp:bE:=
 .seq (.ag [dM 1 0,dV 2])
 (.seq (.seq (.ag [eQ 3 1,aE 4 3])
 (.block 0 (.seq (.ag [oB 6 4,ab 5 6])
 (.cond (.t 5)
 (.seq (.ag [cQ 7 1,aE 8 7,⟨some 9,.call 130 [(.t 8)],none,[8]⟩,ab 10 9,l3 11 1 10,cY 12 11 10,Bz 13 12 10,cN 14 10 13,ab 2 14])
 (.ret))
 (.seq (.ag [nK 16 4,ab 15 16])
 (.cond (.t 15)
 (.seq (.ag [cQ 17 1,aE 18 17,⟨some 19,.call 163 [(.t 18)],none,[18]⟩,ab 20 19,l3 21 1 20,cY 22 21 20,Bz 23 22 20,cN 24 20 23,ab 2 24])
 (.ret))
 (.seq (.ag [wZ 26 4,ab 25 26])
 (.cond (.t 25)
 (.seq (.ag [cQ 27 1,aE 28 27,y3 29 28,ab 30 29,l3 31 1 30,cY 32 31 30,w3 33 32 30,EF 34 33 30,cN 35 30 34,ab 2 35])
 (.ret))
 (.skip)))))))))
 (.seq (.ag [dV 2])
 (.ret)))
theorem Ul:cv 162 36 [.t 2] Lp:=cx Tryz.func162 (by kernel_rfl) (by kernel_rfl) rfl (by kernel_rfl) (by kernel_rfl)
def Lq:bE:=
 .seq (.ag [dV 2])
 (.seq (.ag [ab 3 0,ED 4 3,ab 5 4,dH 6 0 5,EE 7 6 5,cN 8 5 7,ab 2 8])
 (.ret))
theorem Um:cv 163 9 [.t 2] Lq:=cx Tryz.func163 (by kernel_rfl) (by kernel_rfl) rfl (by kernel_rfl) (by kernel_rfl)
end Go.Proofs.YtjbiefneffiogaaGreat
