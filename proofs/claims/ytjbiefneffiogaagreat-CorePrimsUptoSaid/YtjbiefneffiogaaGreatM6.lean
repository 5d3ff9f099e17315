/- The chapter's functions, walked by the abstract machine: plain lemmas, no condition. Printed by a program from longer texts: names made short. -/
import Derived.Test.YtjbiefneffiogaaGreatM5
import Derived.Test.YtjbiefneffiogaaGreatRows
import Derived.Test.YtjbiefneffiogaaGreatM3
import Derived.Shelf.SortM.Plain
import Derived.Shelf.SortM.SortNone
import Derived.Shelf.SlIterI.Nil
set_option linter.unusedSectionVars false
set_option linter.unusedSimpArgs false
set_option linter.unusedVariables false
namespace Go.Proofs.YtjbiefneffiogaaGreat
open Go Go.Shelf bs
abbrev aa (d ay:Nat):bq:=⟨some d,.gu (.t ay),none,[ay]⟩
abbrev aG (d ay:Nat):bq:=⟨some d,.b7 (.t ay),none,[ay]⟩
abbrev bC (d ay:Nat):bq:=⟨some d,.tb (.t ay),none,[ay]⟩
abbrev cO (d ay:Nat):bq:=⟨some d,.cX 1 (.t ay),none,[ay]⟩
abbrev c3 (d ay bx:Nat):bq:=⟨some d,.pick (.t ay) (.t bx) (.c (.bool false)),none,[ay,bx]⟩
abbrev dc (d ay:Nat):bq:=⟨some d,.gT 7 (.t ay),none,[ay]⟩
abbrev dg (d ay bx:Nat):bq:=⟨some d,.b7 (.t ay),(some (bx,true)),[ay,bx]⟩
abbrev dQ (d ay:Nat):bq:=⟨some d,.len .slice (.t ay),none,[ay]⟩
abbrev eo (d ay:Nat):bq:=⟨some d,.box (.t ay),none,[ay]⟩
abbrev ep (d ay bx:Nat):bq:=⟨some d,.gu (.t ay),(some (bx,true)),[ay,bx]⟩
abbrev eP (d ay:Nat):bq:=⟨some d,.cX 0 (.t ay),none,[ay]⟩
abbrev eQ (d ay:Nat):bq:=⟨some d,.cX 6 (.t ay),none,[ay]⟩
abbrev e9 (d:Nat):bq:=⟨some d,.gu (.c (.bool false)),none,[]⟩
abbrev e' (d ay:Nat):bq:=⟨some d,.cX 2 (.t ay),none,[ay]⟩
abbrev fg (d:Nat):bq:=⟨some d,.gu (.c (.int .i64 0)),none,[]⟩
abbrev fK (d ay:Nat):bq:=⟨some d,.bin (.int .add) (.t ay) (.c (.int .i64 1)),none,[ay]⟩
abbrev fL (d ay:Nat):bq:=⟨some d,.b9 1 (.t ay) (.c (.int .i64 0)),none,[ay]⟩
abbrev gn (d ay bx:Nat):bq:=⟨some d,.bin (.int .lss) (.t ay) (.t bx),none,[ay,bx]⟩
abbrev gD (d ay:Nat):bq:=⟨some d,.un .not (.t ay),none,[ay]⟩
abbrev gK (d ay bx:Nat):bq:=⟨some d,.b7 (.t ay),(some (bx,false)),[ay,bx]⟩
abbrev g6 (d ay bx:Nat):bq:=⟨some d,.pick (.t ay) (.c (.bool true)) (.t bx),none,[ay,bx]⟩
abbrev hj (d ay bx:Nat):bq:=⟨some d,.gu (.t ay),(some (bx,false)),[ay,bx]⟩
abbrev iB (d ay bx:Nat):bq:=⟨some d,.b9 1 (.t ay) (.t bx),none,[ay,bx]⟩
abbrev iC (d ay bx:Nat):bq:=⟨some d,.app 1 (.t ay) (.t bx),none,[ay,bx]⟩
abbrev jo (d ay:Nat):bq:=⟨some d,.bin (.int .sub) (.t ay) (.c (.int .i64 1)),none,[ay]⟩
abbrev jX (d:Nat):bq:=⟨some d,.gu (.c .aw),none,[]⟩
abbrev j6 (d ay bx:Nat):bq:=⟨some d,.b9 7 (.t ay) (.t bx),none,[ay,bx]⟩
abbrev kA (d:Nat):bq:=⟨some d,.gu (.c .cc),none,[]⟩
abbrev kB (d ay:Nat):bq:=⟨some d,.cX 7 (.t ay),none,[ay]⟩
abbrev kU (d ay:Nat):bq:=⟨some d,.cX 4 (.t ay),none,[ay]⟩
abbrev kV (d ay:Nat):bq:=⟨some d,.cX 8 (.t ay),none,[ay]⟩
abbrev lx (d ay:Nat):bq:=⟨some d,.gT 3 (.t ay),none,[ay]⟩
abbrev ly (d ay bx:Nat):bq:=⟨some d,.call 101 [(.t ay),(.t bx)],none,[ay,bx]⟩
abbrev lZ (d ay:Nat):bq:=⟨some d,.b9 1 (.t ay) (.c (.int .i64 1)),none,[ay]⟩
abbrev l0 (d ay bx:Nat):bq:=⟨some d,.call 110 [(.t ay),(.t bx)],none,[ay,bx]⟩
abbrev mB (d ay bx:Nat):bq:=⟨some d,.cX 1 (.t ay),(some (bx,true)),[ay,bx]⟩
abbrev m5 (d ay bx:Nat):bq:=⟨some d,.len .slice (.t ay),(some (bx,false)),[ay,bx]⟩
abbrev m6 (d ay bx:Nat):bq:=⟨some d,.cX 2 (.t ay),(some (bx,true)),[ay,bx]⟩
abbrev m7 (d:Nat):bq:=⟨some d,.gu (.c (.bool true)),none,[]⟩
abbrev nE (d ay bx:Nat):bq:=⟨some d,.cX 4 (.t ay),(some (bx,true)),[ay,bx]⟩
abbrev nF (d ay:Nat):bq:=⟨some d,.bin (.int .eql) (.t ay) (.c (.int .i64 2)),none,[ay]⟩
abbrev ou (d:Nat):bq:=⟨some d,.new [(.int .i64 0),(.int .i64 0),(.int .i64 0),(.str []),.aw,.aw,.aw],none,[]⟩
abbrev ov (d ay:Nat):bq:=⟨some d,.cX 3 (.t ay),none,[ay]⟩
abbrev ow (d ay bx:Nat):bq:=⟨some d,.gT 7 (.t ay),(some (bx,true)),[ay,bx]⟩
abbrev ox (d ay:Nat):bq:=⟨some d,.bin (.int .eql) (.t ay) (.c (.int .i64 1)),none,[ay]⟩
abbrev oy (d ay:Nat):bq:=⟨some d,.h9 1 1 [(.int .i64 0)] [(0,1,(.t ay))],none,[ay]⟩
abbrev pq (d ay bx:Nat):bq:=⟨some d,.bin (.int .eql) (.t ay) (.t bx),none,[ay,bx]⟩
abbrev pr (d ay:Nat):bq:=⟨some d,.cX 15 (.t ay),none,[ay]⟩
abbrev rk (d ay bx fC:Nat):bq:=⟨some d,.call 146 [(.t ay),(.t bx),(.t fC)],none,[ay,bx,fC]⟩
abbrev rl (d ay bx:Nat):bq:=⟨some d,.tb (.t ay),(some (bx,false)),[ay,bx]⟩
abbrev rm (d ay:Nat):bq:=⟨some d,.call 154 [(.t ay)],none,[ay]⟩
abbrev sq (d ay:Nat):bq:=⟨some d,.cX 5 (.t ay),none,[ay]⟩
abbrev sr (d ay:Nat):bq:=⟨some d,.call 79 [(.t ay)],none,[ay]⟩
abbrev ss (d ay bx:Nat):bq:=⟨some d,.tb (.t ay),(some (bx,true)),[ay,bx]⟩
abbrev su (d ay bx:Nat):bq:=⟨some d,.b9 1 (.t ay) (.c (.int .i64 1)),(some (bx,true)),[ay,bx]⟩
abbrev tJ (d ay bx:Nat):bq:=⟨some d,.bin (.int .neq) (.t ay) (.t bx),none,[ay,bx]⟩
abbrev tK (d ay bx:Nat):bq:=⟨some d,.cX 3 (.t ay),(some (bx,true)),[ay,bx]⟩
abbrev tL (d ay bx:Nat):bq:=⟨some d,.len .slice (.t ay),(some (bx,true)),[ay,bx]⟩
abbrev tM (d ay bx:Nat):bq:=⟨some d,.bin (.int .eql) (.t ay) (.c (.int .i64 0)),(some (bx,true)),[ay,bx]⟩
abbrev tN (d ay:Nat):bq:=⟨some d,.b9 7 (.t ay) (.c (.int .i64 0)),none,[ay]⟩
abbrev tO (d:Nat):bq:=⟨some d,.new [(.int .i64 0),(.int .i64 0),(.int .i64 0),(.int .i64 0),.aw],none,[]⟩
abbrev vf (d ay bx:Nat):bq:=⟨some d,.cX 6 (.t ay),(some (bx,false)),[ay,bx]⟩
abbrev vg (d ay bx:Nat):bq:=⟨some d,.un .not (.t ay),(some (bx,true)),[ay,bx]⟩
abbrev vh (d ay bx fC:Nat):bq:=⟨some d,.pick (.t ay) (.c (.bool true)) (.t bx),(some (fC,true)),[ay,bx,fC]⟩
abbrev vi (d ay bx:Nat):bq:=⟨some d,.bin (.int .add) (.t ay) (.t bx),none,[ay,bx]⟩
abbrev vj (d ay bx:Nat):bq:=⟨some d,.b9 3 (.t ay) (.t bx),none,[ay,bx]⟩
abbrev vk (d ay:Nat):bq:=⟨some d,.bin (.int .eql) (.t ay) (.c (.int .i64 11)),none,[ay]⟩
abbrev w_ (d ay bx:Nat):bq:=⟨some d,.cX 2 (.t ay),(some (bx,false)),[ay,bx]⟩
abbrev xa (d ay bx:Nat):bq:=⟨some d,.rA (.t ay) [(.t bx)],none,[ay,bx]⟩
abbrev xb (d ay:Nat):bq:=⟨some d,.bin (.int .eql) (.t ay) (.c (.int .i64 3)),none,[ay]⟩
abbrev xc (d ay:Nat):bq:=⟨some d,.bin (.int .eql) (.t ay) (.c (.int .i64 7)),none,[ay]⟩
abbrev xd (d ay:Nat):bq:=⟨some d,.bin (.int .eql) (.t ay) (.c (.int .i64 8)),none,[ay]⟩
abbrev xe (d:Nat):bq:=⟨some d,.new [(.int .i64 0),(.int .i64 0),(.str [])],none,[]⟩
abbrev xf (d:Nat):bq:=⟨some d,.build [(.int .i64 0),(.int .i64 0)] [(0,1,(.c (.int .i64 1))),(1,1,(.c (.int .i64 1)))],none,[]⟩
abbrev xg (d ay bx:Nat):bq:=⟨some d,.len .str (.t ay),(some (bx,true)),[ay,bx]⟩
abbrev xh (d ay bx fC:Nat):bq:=⟨some d,.bin (.int .eql) (.t ay) (.t bx),(some (fC,true)),[ay,bx,fC]⟩
abbrev xi (d ay bx fC:Nat):bq:=⟨some d,.b9 1 (.t ay) (.t bx),(some (fC,true)),[ay,bx,fC]⟩
abbrev xj (d ay bx fC:Nat):bq:=⟨some d,.build [(.int .i64 0),.cc,.cc] [(0,1,(.t ay)),(1,1,(.t bx)),(2,1,(.t fC))],none,[ay,bx,fC]⟩
abbrev xk (d ay:Nat):bq:=⟨some d,.cX 9 (.t ay),none,[ay]⟩
abbrev xl (d ay:Nat):bq:=⟨some d,.call 103 [(.t ay),(.c (.int .i64 6))],none,[ay]⟩
abbrev xm (d ay bx:Nat):bq:=⟨some d,.b9 1 (.t ay) (.c (.int .i64 0)),(some (bx,false)),[ay,bx]⟩
abbrev xn (d ay:Nat):bq:=⟨some d,.h9 1 1 [.cc] [(0,1,(.t ay))],none,[ay]⟩
abbrev xo (d ay:Nat):bq:=⟨some d,.gT 5 (.t ay),none,[ay]⟩
abbrev xp (d ay:Nat):bq:=⟨some d,.call 113 [(.t ay),(.c (.int .i64 6))],none,[ay]⟩
abbrev xq (d ay:Nat):bq:=⟨some d,.call 156 [(.t ay)],none,[ay]⟩
abbrev y1 (d ay:Nat):bq:=⟨some d,.bin (.int .geq) (.t ay) (.c (.int .i64 0)),none,[ay]⟩
abbrev y2 (d ay:Nat):bq:=⟨some d,.bin (.int .eql) (.t ay) (.c (.int .i64 10)),none,[ay]⟩
abbrev y3 (d ay:Nat):bq:=⟨some d,.bin (.int .eql) (.t ay) (.c (.int .i64 0)),none,[ay]⟩
abbrev y4 (d ay:Nat):bq:=⟨some d,.call 47 [(.t ay)],none,[ay]⟩
abbrev y5 (d ay:Nat):bq:=⟨some d,.b9 7 (.t ay) (.c (.int .i64 1)),none,[ay]⟩
abbrev y6 (d ay bx:Nat):bq:=⟨some d,.bin (.int .eql) (.t ay) (.c (.int .i64 1)),(some (bx,true)),[ay,bx]⟩
abbrev y7 (d ay:Nat):bq:=⟨some d,.bin (.str .eql) (.t ay) (.c (.str [98,121,116,101])),none,[ay]⟩
abbrev y8 (d ay:Nat):bq:=⟨some d,.bin (.str .eql) (.t ay) (.c (.str [106,111,105,110])),none,[ay]⟩
abbrev y9 (d ay:Nat):bq:=⟨some d,.bin (.str .eql) (.t ay) (.c (.str [99,117,116])),none,[ay]⟩
abbrev y' (d ay:Nat):bq:=⟨some d,.ju (.int .i64) (.t ay),none,[ay]⟩
abbrev y_ (d ay:Nat):bq:=⟨some d,.bin (.int .neq) (.t ay) (.c (.int .i64 4)),none,[ay]⟩
abbrev za (d ay:Nat):bq:=⟨some d,.call 80 [(.t ay)],none,[ay]⟩
abbrev zb (d ay bx:Nat):bq:=⟨some d,.call 108 [(.t ay),(.t bx)],none,[ay,bx]⟩
abbrev zc (d ay bx fC:Nat):bq:=⟨some d,.bin (.int .geq) (.t ay) (.t bx),(some (fC,false)),[ay,bx,fC]⟩
abbrev zd (d ay:Nat):bq:=⟨some d,.cX 11 (.t ay),none,[ay]⟩
abbrev y0 (d ay bx:Nat):bq:=⟨some d,.h9 2 3 [(.int .i64 0),(.int .i64 0),(.str [])] [(0,3,(.t ay)),(3,3,(.t bx))],none,[ay,bx]⟩
abbrev BE (d ay:Nat):bq:=⟨some d,.bin (.int .gtr) (.t ay) (.c (.int .i64 0)),none,[ay]⟩
abbrev BF (d ay bx:Nat):bq:=⟨some d,.un .not (.t ay),(some (bx,false)),[ay,bx]⟩
abbrev BG (d ay:Nat):bq:=⟨some d,.bin (.int .neq) (.t ay) (.c (.int .i64 0)),none,[ay]⟩
abbrev BH (d ay bx:Nat):bq:=⟨some d,.cX 3 (.t ay),(some (bx,false)),[ay,bx]⟩
abbrev BI (d ay bx:Nat):bq:=⟨some d,.cX 5 (.t ay),(some (bx,false)),[ay,bx]⟩
abbrev BJ (d:Nat):bq:=⟨some d,.gu (.c (.int .i64 1)),none,[]⟩
abbrev BK (d ay:Nat):bq:=⟨some d,.bin (.int .eql) (.t ay) (.c (.int .i64 5)),none,[ay]⟩
abbrev BL (d ay bx:Nat):bq:=⟨some d,.cX 0 (.t ay),(some (bx,true)),[ay,bx]⟩
abbrev BM (d ay bx:Nat):bq:=⟨some d,.bin (.int .eql) (.t ay) (.c (.int .i64 2)),(some (bx,true)),[ay,bx]⟩
abbrev BN (d ay bx:Nat):bq:=⟨some d,.look .int (.int .i64 0) false (.t ay) (.t bx),none,[ay,bx]⟩
abbrev BO (d ay bx:Nat):bq:=⟨some d,.bin (.str .eql) (.t ay) (.c (.str [])),(some (bx,true)),[ay,bx]⟩
abbrev BP (d ay bx fC:Nat):bq:=⟨some d,.bin (.int .lss) (.t ay) (.t bx),(some (fC,true)),[ay,bx,fC]⟩
abbrev BQ (d ay bx:Nat):bq:=⟨some d,.call 130 [(.t ay)],(some (bx,true)),[ay,bx]⟩
abbrev BR (d ay:Nat):bq:=⟨some d,.bin (.int .eql) (.t ay) (.c (.int .i64 4)),none,[ay]⟩
abbrev BS (d ay bx:Nat):bq:=⟨some d,.bin (.int .geq) (.t ay) (.c (.int .i64 0)),(some (bx,true)),[ay,bx]⟩
abbrev BT (d ay:Nat):bq:=⟨some d,.bin (.str .eql) (.t ay) (.c (.str [110,101,103])),none,[ay]⟩
abbrev BU (d ay:Nat):bq:=⟨some d,.bin (.str .eql) (.t ay) (.c (.str [103,101,116,99])),none,[ay]⟩
abbrev BV (d ay:Nat):bq:=⟨some d,.bin (.str .eql) (.t ay) (.c (.str [112,117,116,99])),none,[ay]⟩
abbrev BW (d ay:Nat):bq:=⟨some d,.bin (.str .eql) (.t ay) (.c (.str [112,117,116,115])),none,[ay]⟩
abbrev BX (d ay:Nat):bq:=⟨some d,.bin (.str .eql) (.t ay) (.c (.str [115,105,122,101])),none,[ay]⟩
abbrev BY (d ay:Nat):bq:=⟨some d,.bin (.str .eql) (.t ay) (.c (.str [99,104,114])),none,[ay]⟩
abbrev BZ (d:Nat):bq:=⟨some d,.call 102 [(.c (.int .i64 0)),(.c .aw)],none,[]⟩
abbrev B0 (d:Nat):bq:=⟨some d,.new [(.bool false),(.int .i64 0),.cc,.cc],none,[]⟩
abbrev B1 (d ay bx fC:Nat):bq:=⟨some d,.call 152 [(.t ay),(.t bx),(.t fC)],none,[ay,bx,fC]⟩
abbrev B2 (d ay:Nat):bq:=⟨some d,.ju (.int .u8) (.t ay),none,[ay]⟩
abbrev B3 (d ay:Nat):bq:=⟨some d,.h9 1 1 [(.int .u8 0)] [(0,1,(.t ay))],none,[ay]⟩
abbrev B4 (d ay:Nat):bq:=⟨some d,.bin (.int .lss) (.t ay) (.c (.int .i64 0)),none,[ay]⟩
abbrev B5 (d ay bx:Nat):bq:=⟨some d,.len .str (.t ay),(some (bx,false)),[ay,bx]⟩
abbrev B6 (d ay bx:Nat):bq:=⟨some d,.b9 8 (.t ay) (.t bx),none,[ay,bx]⟩
abbrev B7 (d:Nat):bq:=⟨some d,.call 112 [(.c (.int .i64 0)),(.c .aw)],none,[]⟩
abbrev B8 (d ay:Nat):bq:=⟨some d,.h9 1 3 [(.int .i64 0),(.int .i64 0),(.str [])] [(0,3,(.t ay))],none,[ay]⟩
abbrev B9 (d ay bx:Nat):bq:=⟨some d,.h9 2 7 [(.int .i64 0),(.int .i64 0),(.int .i64 0),(.str []),.aw,.aw,.aw] [(0,7,(.t ay)),(7,7,(.t bx))],none,[ay,bx]⟩
abbrev EM (d ay bx:Nat):bq:=⟨some d,.bin (.int .gtr) (.t ay) (.c (.int .i64 0)),(some (bx,false)),[ay,bx]⟩
abbrev EN (d ay bx:Nat):bq:=⟨some d,.g2 7 (.t ay) none (some (.t bx)) none,none,[ay,bx]⟩
abbrev EO (d ay bx:Nat):bq:=⟨some d,.g2 1 (.t ay) (some (.t bx)) none none,none,[ay,bx]⟩
abbrev EP (d ay:Nat):bq:=⟨some d,.bin (.int .eql) (.t ay) (.c (.int .i64 14)),none,[ay]⟩
abbrev ER (d ay:Nat):bq:=⟨some d,.build [(.bool false),(.bool false),(.bool false),(.bool false),(.int .i64 0),(.int .i64 0),(.int .i64 0),(.int .i64 0)] [(4,2,(.t ay))],none,[ay]⟩
abbrev ES (d:Nat):bq:=⟨some d,.build [(.int .i64 0),(.int .i64 0)] [(0,1,(.c (.int .i64 2))),(1,1,(.c (.int .i64 2)))],none,[]⟩
abbrev ET (d ay:Nat):bq:=⟨some d,.build [(.bool false),(.bool false),(.bool false),(.bool false),(.int .i64 0),(.int .i64 0),(.int .i64 0),(.int .i64 0)] [(0,1,(.c (.bool true))),(6,2,(.t ay))],none,[ay]⟩
abbrev EU (d ay bx:Nat):bq:=⟨some d,.bin (.int .leq) (.t ay) (.c (.int .i64 1048575)),(some (bx,true)),[ay,bx]⟩
abbrev EV (d ay:Nat):bq:=⟨some d,.bin (.int .geq) (.t ay) (.c (.int .i64 (-1073741824))),none,[ay]⟩
abbrev EW (d ay bx:Nat):bq:=⟨some d,.bin (.int .leq) (.t ay) (.c (.int .i64 1073741823)),(some (bx,true)),[ay,bx]⟩
abbrev EX (d ay bx:Nat):bq:=⟨some d,.bin (.int .leq) (.t ay) (.c (.int .i64 4096)),(some (bx,true)),[ay,bx]⟩
abbrev EY (d ay:Nat):bq:=⟨some d,.call 69 [(.t ay),(.c (.bool false)),(.c (.bool false)),(.c (.bool false)),(.c (.bool false))],none,[ay]⟩
abbrev EZ (d ay bx fC:Nat):bq:=⟨some d,.call 54 [(.t ay),(.t bx),(.t fC)],none,[ay,bx,fC]⟩
abbrev E0 (d ay bx:Nat):bq:=⟨some d,.bin (.int .eql) (.t ay) (.c (.int .i64 0)),(some (bx,false)),[ay,bx]⟩
abbrev E1 (d ay:Nat):bq:=⟨some d,.bin (.int .eql) (.t ay) (.c (.int .i64 12)),none,[ay]⟩
abbrev E2 (d ay bx:Nat):bq:=⟨some d,.call 131 [(.t ay),(.c (.int .i64 1))],(some (bx,true)),[ay,bx]⟩
abbrev E3 (d ay:Nat):bq:=⟨some d,.bin (.int .eql) (.t ay) (.c (.int .i64 6)),none,[ay]⟩
abbrev E4 (d ay:Nat):bq:=⟨some d,.bin (.int .eql) (.t ay) (.c (.int .i64 9)),none,[ay]⟩
abbrev E5 (d ay:Nat):bq:=⟨some d,.bin (.str .eql) (.t ay) (.c (.str [115,101,116])),none,[ay]⟩
abbrev E6 (d ay bx fC:Nat):bq:=⟨some d,.rA (.t ay) [(.t bx),(.t fC)],none,[ay,bx,fC]⟩
abbrev E7 (d:Nat):bq:=⟨some d,.h9 1 1 [(.int .i64 0)] [(0,1,(.c (.int .i64 1)))],none,[]⟩
abbrev E8 (d:Nat):bq:=⟨some d,.call 102 [(.c (.int .i64 2)),(.c .aw)],none,[]⟩
abbrev E9 (d ay bx:Nat):bq:=⟨some d,.bin (.int .lss) (.t ay) (.c (.int .i64 0)),(some (bx,false)),[ay,bx]⟩
abbrev E' (d ay bx:Nat):bq:=⟨some d,.b9 1 (.t ay) (.c (.int .i64 2)),(some (bx,true)),[ay,bx]⟩
abbrev E_ (d ay:Nat):bq:=⟨some d,.bin (.int .add) (.c (.int .i64 6)) (.t ay),none,[ay]⟩
abbrev JK (d:Nat):bq:=⟨some d,.new [(.bool false),(.bool false),(.bool false),(.bool false),(.int .i64 0),(.int .i64 0),(.int .i64 0),(.int .i64 0)],none,[]⟩
abbrev JL (d ay:Nat):bq:=⟨some d,.build [(.bool false),(.bool false),(.bool false),(.bool false),(.int .i64 0),(.int .i64 0),(.int .i64 0),(.int .i64 0)] [(1,1,(.c (.bool true))),(4,2,(.t ay))],none,[ay]⟩
abbrev JM (d:Nat):bq:=⟨some d,.build [(.int .i64 0),(.int .i64 0)] [(0,1,(.c (.int .i64 1))),(1,1,(.c (.int .i64 1073741824)))],none,[]⟩
abbrev JN (d ay bx:Nat):bq:=⟨some d,.build [(.bool false),(.bool false),(.bool false),(.bool false),(.int .i64 0),(.int .i64 0),(.int .i64 0),(.int .i64 0)] [(3,1,(.c (.bool true))),(4,2,(.t ay)),(6,2,(.t bx))],none,[ay,bx]⟩
abbrev JO (d ay:Nat):bq:=⟨some d,.call 69 [(.t ay),(.c (.bool false)),(.c (.bool true)),(.c (.bool false)),(.c (.bool false))],none,[ay]⟩
abbrev JP (d:Nat):bq:=⟨some d,.h9 2 1 [(.int .i64 0)] [(0,1,(.c (.int .i64 1))),(1,1,(.c (.int .i64 1)))],none,[]⟩
abbrev JQ (d:Nat):bq:=⟨some d,.build [(.int .i64 0),(.int .i64 0),(.int .i64 0),(.int .i64 0),.aw] [(0,1,(.c (.int .i64 5)))],none,[]⟩
abbrev JR (d ay:Nat):bq:=⟨some d,.build [(.int .i64 0),(.int .i64 0),(.str []),(.int .i64 0),(.int .i64 0),(.int .i64 0),(.str []),.aw,.aw,.aw,.cc,.aw,(.bool false)] [(0,1,(.c (.int .i64 2))),(2,1,(.t ay))],none,[ay]⟩
abbrev JS (d:Nat):bq:=⟨some d,.new [(.int .i64 0),(.int .i64 0),(.int .i64 0),(.str []),.aw,.aw,.aw,.cc],none,[]⟩
abbrev JT (d ay:Nat):bq:=⟨some d,.build [(.int .i64 0),(.int .i64 0),(.str [])] [(0,1,(.c (.int .i64 2))),(1,1,(.t ay))],none,[ay]⟩
abbrev JU (d ay:Nat):bq:=⟨some d,.build [(.int .i64 0),(.int .i64 0),(.str [])] [(0,1,(.c (.int .i64 1))),(1,1,(.t ay))],none,[ay]⟩
abbrev JV (d ay:Nat):bq:=⟨some d,.build [(.int .i64 0),(.int .i64 0),(.int .i64 0),(.str []),.aw,.aw,.aw] [(0,1,(.c (.int .i64 3))),(3,1,(.c (.str [112,117,116,99]))),(4,1,(.t ay))],none,[ay]⟩
abbrev JW (d ay bx:Nat):bq:=⟨some d,.build [(.int .i64 0),(.int .i64 0),(.int .i64 0),(.str []),.aw,.aw,.aw] [(0,1,(.c (.int .i64 2))),(1,1,(.t ay)),(6,1,(.t bx))],none,[ay,bx]⟩
def Tryz.OT:Go.Shelf.Ren:=⟨fun | 7=>68 | 10=>129 | n=>n,fun | 23=>88 | 26=>3 | 3=>4 | 28=>91 | 0=>0 | 27=>90 | 33=>136 | 4=>4 | n=>n,fun | n=>n⟩
theorem Tryz.aaJ:Go.Proofs.SlLaysZI.n7 Tryz.prog Tryz.OT where
 mixed:=by kernel_rfl
 f7:=⟨"maps.Keys[map[int]bool,int,bool]",by decide,Tryz.func68.trans (congrArg some (by kernel_rfl))⟩
 f10:=⟨"maps.Keys[map[int]bool,int,bool]$1",by decide,Tryz.func129.trans (congrArg some (by kernel_rfl))⟩
 t0:=Tryz.underlying0
 a0:=Tryz.isAgg0
 z0:=Tryz.sizeOf0
 v0:=Tryz.zeroValue0
 t4:=Tryz.underlying4
 a4:=Tryz.isAgg4
 z4:=Tryz.sizeOf4
 v4:=Tryz.zeroValue4
 t23:=Tryz.underlying88
 a23:=Tryz.isAgg88
 z23:=Tryz.sizeOf88
 v23:=Tryz.zeroValue88
 t26:=Tryz.underlying3
 a26:=Tryz.isAgg3
 z26:=Tryz.sizeOf3
 v26:=Tryz.zeroValue3
 t27:=Tryz.underlying90
 a27:=Tryz.isAgg90
 z27:=Tryz.sizeOf90
 v27:=Tryz.zeroValue90
 t28:=Tryz.underlying91
 a28:=Tryz.isAgg91
 z28:=Tryz.sizeOf91
 v28:=Tryz.zeroValue91
 t33:=Tryz.underlying136
 a33:=Tryz.isAgg136
 z33:=Tryz.sizeOf136
 v33:=Tryz.zeroValue136
def Tryz.QX:Go.Shelf.Ren:=⟨fun | 6=>67 | 8=>128 | 9=>51 | 11=>161 | 13=>73 | 12=>72 | 23=>143 | 24=>144 | 14=>134 | 15=>135 | 16=>136 | 17=>137 | 18=>138 | 19=>139 | 20=>140 | 21=>141 | 22=>142 | 25=>164 | 26=>165 | 27=>166 | 28=>167 | 29=>168 | 30=>169 | 31=>171 | n=>n,fun | 26=>3 | 28=>91 | 24=>23 | 0=>0 | 3=>3 | 37=>96 | 48=>156 | 50=>158 | 4=>4 | 40=>148 | 39=>147 | 45=>153 | 5=>5 | 9=>9 | 51=>178 | 55=>182 | 57=>187 | 58=>188 | 33=>136 | n=>n,fun | n=>n⟩
theorem Tryz.afJ:Go.Proofs.SlLaysZI.n6 Tryz.prog Tryz.QX where
 mixed:=by kernel_rfl
 f6:=⟨"slices.Sorted[int]",by decide,Tryz.func67.trans (congrArg some (by kernel_rfl))⟩
 f8:=⟨"slices.Collect[int]",by decide,Tryz.func128.trans (congrArg some (by kernel_rfl))⟩
 f11:=⟨"slices.AppendSeq[[]int,int]",by decide,Tryz.func161.trans (congrArg some (by kernel_rfl))⟩
 t0:=Tryz.underlying0
 a0:=Tryz.isAgg0
 z0:=Tryz.sizeOf0
 v0:=Tryz.zeroValue0
 t24:=Tryz.underlying23
 a24:=Tryz.isAgg23
 z24:=Tryz.sizeOf23
 v24:=Tryz.zeroValue23
 t26:=Tryz.underlying3
 a26:=Tryz.isAgg3
 z26:=Tryz.sizeOf3
 v26:=Tryz.zeroValue3
 t28:=Tryz.underlying91
 a28:=Tryz.isAgg91
 z28:=Tryz.sizeOf91
 v28:=Tryz.zeroValue91
 i26:=by kernel_rfl
def Tryz.afH:Go.Shelf.Ren:=⟨fun | 5=>51 | 8=>73 | 7=>72 | 19=>143 | 20=>144 | 10=>134 | 11=>135 | 12=>136 | 13=>137 | 14=>138 | 15=>139 | 16=>140 | 17=>141 | 18=>142 | 30=>164 | 31=>165 | 32=>166 | 33=>167 | 34=>168 | 35=>169 | 40=>171 | n=>n,fun | 23=>23 | 25=>3 | 3=>3 | 32=>96 | 22=>23 | 0=>0 | 44=>156 | 46=>158 | 4=>4 | 36=>148 | 35=>147 | 41=>153 | 5=>5 | 9=>9 | 53=>178 | 57=>182 | 63=>187 | 64=>188 | n=>n,fun | n=>n⟩
theorem Tryz.Eb:Go.Proofs.SlLaysM.n5 Tryz.prog Tryz.afH where
 mixed:=by kernel_rfl
 f5:=⟨"slices.Sort[[]int,int]",by decide,Tryz.func51.trans (congrArg some (by kernel_rfl))⟩
 f7:=⟨"slices.pdqsortOrdered[int]",by decide,Tryz.func72.trans (congrArg some (by kernel_rfl))⟩
 f8:=Tryz.func73.trans (congrArg some (by kernel_rfl))
 f10:=⟨"slices.insertionSortOrdered[int]",by decide,Tryz.func134.trans (congrArg some (by kernel_rfl))⟩
 f11:=⟨"slices.heapSortOrdered[int]",by decide,Tryz.func135.trans (congrArg some (by kernel_rfl))⟩
 f12:=⟨"slices.breakPatternsOrdered[int]",by decide,Tryz.func136.trans (congrArg some (by kernel_rfl))⟩
 f13:=⟨"slices.choosePivotOrdered[int]",by decide,Tryz.func137.trans (congrArg some (by kernel_rfl))⟩
 f14:=⟨"slices.reverseRangeOrdered[int]",by decide,Tryz.func138.trans (congrArg some (by kernel_rfl))⟩
 f15:=⟨"slices.partialInsertionSortOrdered[int]",by decide,Tryz.func139.trans (congrArg some (by kernel_rfl))⟩
 f16:=⟨"cmp.Less[int]",by decide,Tryz.func140.trans (congrArg some (by kernel_rfl))⟩
 f17:=⟨"slices.partitionEqualOrdered[int]",by decide,Tryz.func141.trans (congrArg some (by kernel_rfl))⟩
 f18:=⟨"slices.partitionOrdered[int]",by decide,Tryz.func142.trans (congrArg some (by kernel_rfl))⟩
 f19:=Tryz.func143.trans (congrArg some (by kernel_rfl))
 f20:=Tryz.func144.trans (congrArg some (by kernel_rfl))
 f30:=⟨"slices.siftDownOrdered[int]",by decide,Tryz.func164.trans (congrArg some (by kernel_rfl))⟩
 f31:=Tryz.func165.trans (congrArg some (by kernel_rfl))
 f32:=Tryz.func166.trans (congrArg some (by kernel_rfl))
 f33:=⟨"slices.medianAdjacentOrdered[int]",by decide,Tryz.func167.trans (congrArg some (by kernel_rfl))⟩
 f34:=⟨"slices.medianOrdered[int]",by decide,Tryz.func168.trans (congrArg some (by kernel_rfl))⟩
 f35:=⟨"cmp.isNaN[int]",by decide,Tryz.func169.trans (congrArg some (by kernel_rfl))⟩
 f40:=⟨"slices.order2Ordered[int]",by decide,Tryz.func171.trans (congrArg some (by kernel_rfl))⟩
 t0:=Tryz.underlying0
 a0:=Tryz.isAgg0
 z0:=Tryz.sizeOf0
 v0:=Tryz.zeroValue0
 t3:=Tryz.underlying3
 a3:=Tryz.isAgg3
 z3:=Tryz.sizeOf3
 v3:=Tryz.zeroValue3
 t4:=Tryz.underlying4
 a4:=Tryz.isAgg4
 z4:=Tryz.sizeOf4
 v4:=Tryz.zeroValue4
 t5:=Tryz.underlying5
 a5:=Tryz.isAgg5
 z5:=Tryz.sizeOf5
 v5:=Tryz.zeroValue5
 t9:=Tryz.underlying9
 a9:=Tryz.isAgg9
 z9:=Tryz.sizeOf9
 v9:=Tryz.zeroValue9
 t22:=Tryz.underlying23
 a22:=Tryz.isAgg23
 z22:=Tryz.sizeOf23
 v22:=Tryz.zeroValue23
 t23:=Tryz.underlying23
 a23:=Tryz.isAgg23
 z23:=Tryz.sizeOf23
 v23:=Tryz.zeroValue23
 t25:=Tryz.underlying3
 a25:=Tryz.isAgg3
 z25:=Tryz.sizeOf3
 v25:=Tryz.zeroValue3
 t32:=Tryz.underlying96
 a32:=Tryz.isAgg96
 z32:=Tryz.sizeOf96
 v32:=Tryz.zeroValue96
 t35:=Tryz.underlying147
 a35:=Tryz.isAgg147
 z35:=Tryz.sizeOf147
 v35:=Tryz.zeroValue147
 t36:=Tryz.underlying148
 a36:=Tryz.isAgg148
 z36:=Tryz.sizeOf148
 v36:=Tryz.zeroValue148
 t41:=Tryz.underlying153
 a41:=Tryz.isAgg153
 z41:=Tryz.sizeOf153
 v41:=Tryz.zeroValue153
 t44:=Tryz.underlying156
 a44:=Tryz.isAgg156
 z44:=Tryz.sizeOf156
 v44:=Tryz.zeroValue156
 t46:=Tryz.underlying158
 a46:=Tryz.isAgg158
 z46:=Tryz.sizeOf158
 v46:=Tryz.zeroValue158
 t53:=Tryz.underlying178
 a53:=Tryz.isAgg178
 z53:=Tryz.sizeOf178
 v53:=Tryz.zeroValue178
 t57:=Tryz.underlying182
 a57:=Tryz.isAgg182
 z57:=Tryz.sizeOf182
 v57:=Tryz.zeroValue182
 t63:=Tryz.underlying187
 a63:=Tryz.isAgg187
 z63:=Tryz.sizeOf187
 v63:=Tryz.zeroValue187
 t64:=Tryz.underlying188
 a64:=Tryz.isAgg188
 z64:=Tryz.sizeOf188
 v64:=Tryz.zeroValue188
open Go.RowKit Go.Maps Go.Sort
theorem afM (m:Nat):AnyZI.SortsIn Tryz.prog Tryz.QX Fence.wide m:=
 ⟨fun bb off cap gN W rF pL gG=>callsIn_wide.2 (AnyM.slices_Sort_int Tryz.Eb bb off cap gN W rF pL gG),
  fun p cap W=>callsIn_wide.2 (AnyM.slices_Sort_int_none Tryz.Eb p cap W)⟩
theorem QY:bs.J4 Tryz.prog 67 129 3:=by
 intro vb b H4 tH R w W9 oQ hy C9 Xm
 have YF:SeqGives Fence.wide 2 Tryz.prog 129 #[.pointer (some ⟨vb,0,none⟩)] encZ (fun gN=>gN.Perm (intKeys tH)) (Maps.size tH) w:=
  AnyZI.keys_gives (ρ:=Tryz.OT) {Tryz.aaJ with} Fence.wide _ trivial rfl (by omega) vb b H4 tH w W9 oQ hy
 have ML:=AnyZI.sorted_in Tryz.afJ Fence.wide 5 trivial trivial trivial trivial rfl (by omega) (afM _) (enters_of Tryz.func51 (by kernel_rfl) rfl) 129 #[.pointer (some ⟨vb,0,none⟩)] trivial (enters_of Tryz.func129 (by kernel_rfl) rfl) _ _ C9 Xm _ YF
 change CallsIn _ _ Tryz.prog 67 _ _ _ at ML
 exact callsIn_wide.1 (ML.mono fun e aT q=>by
  obtain ⟨v,gN,rfl,fT,Yy,Yd,af⟩:=q
  exact ⟨v,gN,rfl,fT,Yy,Yd,af⟩)
instance lay:bs.Lay:=⟨fun _=>True,fun h _=>h⟩
theorem follows:Tryz.prog.follows .mixedOrders=true:=by kernel_rfl
theorem names:(Tryz.prog.funcs.toList.all fun fn=>!(fn.name == "runtime.NumGoroutine"))=true:=by kernel_rfl
theorem HX:bs.kD Tryz.prog:=by
 intro f fn h
 have:=List.all_eq_true.1 names fn (List.mem_of_getElem? (i:=f) (by simpa using h))
 simpa using this
noncomputable def ctx:bs.Ctx:=⟨Tryz.prog,fun f=>bif Nat.beq f 67 then some (bs.Bh 129) else none⟩
theorem adw:bs.tQ ctx:=by
 intro f p args h v J aQ he
 simp only [ctx] at aQ
 cases ar:Nat.beq f 67 with
 | false=>rw [ar] at aQ;cases aQ
 | true=>
   rw [ar] at aQ
   simp only [cond_true,Option.some.injEq] at aQ
   subst aQ
   obtain rfl:f=67:=Nat.eq_of_beq_eq_true ar
   exact ⟨⟨_,Tryz.func67,by kernel_rfl⟩,fun aR E w xs ax s=>bs.QZ Tryz.underlying3 QY he aR E w xs ax s⟩
def cz (f:FuncId) (n:Nat) (rs:List bs.zf) (c:bs.bK):Prop:=∀{args:List bs.V} {h:bs.ai} {K:bs.V→bs.ai→Prop},Nat.ble args.length n=true→(bs.iY Tryz.prog c (bs.bP.au args) h fun e r J=>e.ends∧∃ah,bs.eZ r J rs=some ah∧K (bs.oneOf ah) J)→bs.bB Tryz.prog f args h K
theorem cA {f:FuncId} {fn:Func} {n:Nat} {rs:List bs.zf} {c:bs.bK} (ad:Tryz.prog.funcs[f]? =some fn) (ak:fn.body=some (fn.body.getD .skip)) (aB:Nat.ble fn.ntmps bs.top=true) (a1:fn.ntmps=n) (bw:bs.m0 Tryz.prog fn.ntmps (fn.body.getD .skip)=c) (ej:bs.q9 Tryz.prog fn.ntmps fn.results.toList=rs):cz f n rs c:=by
 subst a1
 exact fun aL H=>bs.VO follows HX ad ak aB aL bw ej H
end Go.Proofs.YtjbiefneffiogaaGreat
namespace Go.Proofs.YtjbiefneffiogaaGreat
open Go bs
def LB:bK:=
 .seq (.ag [eo 1 0,fg 2])
 (.seq (.block 0 (.seq (.ag [dc 4 1,⟨some 5,.call 44 [(.t 4)],none,[4]⟩,gD 6 5,aa 3 6])
 (.cond (.t 3)
 (.seq (.ag [⟨some 2,.gu (.c (.int .i64 2)),none,[]⟩])
 (.ret))
 (.seq (.draw [dc 8 1,dc 11 1,⟨some 9,.call 45 [(.t 8)],none,[8]⟩,dQ 10 9,⟨some 12,.call 25 [(.t 11)],none,[11]⟩,dQ 13 12,tJ 14 10 13,aa 7 14] [(0,[2]),(1,[2,4])])
 (.cond (.t 7)
 (.seq (.ag [⟨some 2,.gu (.c (.int .i64 7)),none,[]⟩])
 (.ret))
 (.seq (.ag [dc 16 1,⟨some 17,.call 46 [(.t 16)],none,[16]⟩,dQ 18 17,BE 19 18,aa 15 19])
 (.cond (.t 15)
 (.seq (.ag [⟨some 2,.gu (.c (.int .i64 6)),none,[]⟩])
 (.ret))
 (.skip))))))))
 (.seq (.ag [fg 2])
 (.ret)))
theorem Ud:cz 20 20 [.t 2] LB:=cA Tryz.func20 (by kernel_rfl) (by kernel_rfl) rfl (by kernel_rfl) (by kernel_rfl)
def LD:bK:=
 .seq (.ag [eo 1 0,jX 2])
 (.seq (.seq (.ag [dc 4 1,⟨some 5,.call 44 [(.t 4)],none,[4]⟩,gD 6 5])
 (.cond (.t 6)
 (.seq (.ag [jX 2])
 (.ret))
 (.skip)))
 (.seq (.ag [dc 7 1,⟨some 8,.call 45 [(.t 7)],none,[7]⟩,aa 3 8])
 (.seq (.ag [aa 9 3,⟨some 10,.call 51 [(.t 9)],none,[9]⟩])
 (.seq (.ag [aa 11 3,⟨some 12,.call 52 [(.t 11)],none,[11]⟩,aa 2 12])
 (.ret)))))
theorem Uf:cz 25 13 [.t 2] LD:=cA Tryz.func25 (by kernel_rfl) (by kernel_rfl) rfl (by kernel_rfl) (by kernel_rfl)
def LM:bK:=
 .seq (.ag [gn 55 54 53])
 (.seq (.cond (.t 55)
 (.skip)
 (.exit 0))
 (.seq (.block 1 (.seq (.ag [j6 56 52 54,dc 57 56,ou 5,⟨none,.st 7 (.t 5) (.t 57),none,[5,57]⟩])
 (.seq (.ag [eP 58 5,aG 59 58,⟨some 60,.bin (.int .neq) (.t 59) (.c (.int .i64 7)),none,[59]⟩,aa 61 60,⟨some 62,.gT 7 (.t 5),(some (61,false)),[5,61]⟩,⟨some 63,.call 61 [(.t 62),(.c (.bool true))],(some (61,false)),[62,61]⟩,BF 64 63 61,g6 65 61 64,aa 66 65,vf 67 5 66,gK 68 67 66,⟨some 69,.b9 7 (.t 68) (.c (.int .i64 0)),(some (66,false)),[68,66]⟩,⟨some 70,.gT 7 (.t 69),(some (66,false)),[69,66]⟩,⟨some 71,.call 44 [(.t 70)],(some (66,false)),[70,66]⟩,BF 72 71 66,g6 73 66 72])
 (.cond (.t 73)
 (.seq (.ag [e9 2])
 (.ret))
 (.skip)))))
 (.ag [fK 74 54,aa 54 74])))
def LL:bK:=
 .seq (.ag [eo 1 0,e9 2])
 (.seq (.seq (.ag [eP 6 1,aG 7 6,⟨some 8,.bin (.int .neq) (.t 7) (.c (.int .i64 8)),none,[7]⟩])
 (.cond (.t 8)
 (.seq (.seq (.ag [dc 9 1,⟨some 10,.call 61 [(.t 9),(.c (.bool false))],none,[9]⟩,gD 11 10])
 (.cond (.t 11)
 (.seq (.ag [e9 2])
 (.ret))
 (.skip)))
 (.seq (.ag [eQ 12 1,aG 13 12,⟨some 14,.call 62 [(.t 13),(.c (.func 63 []))],none,[13]⟩,gD 15 14,aa 2 15])
 (.ret)))
 (.skip)))
 (.seq (.ag [eQ 16 1,aG 17 16,dQ 18 17,jo 19 18,aa 3 19])
 (.seq (.seq (.ag [cO 20 1,aG 21 20,BG 22 21,aa 23 22,w_ 24 1 23,gK 25 24 23,⟨some 26,.bin (.int .neq) (.t 25) (.c (.int .i64 0)),(some (23,false)),[25,23]⟩,g6 27 23 26,aa 28 27,BH 29 1 28,gK 30 29 28,⟨some 31,.bin (.str .neq) (.t 30) (.c (.str [])),(some (28,false)),[30,28]⟩,g6 32 28 31,aa 33 32,BI 34 1 33,gK 35 34 33,m5 36 35 33,EM 37 36 33,g6 38 33 37,aa 39 38,⟨some 40,.cX 4 (.t 1),(some (39,false)),[1,39]⟩,gK 41 40 39,m5 42 41 39,EM 43 42 39,g6 44 39 43,aa 45 44,hj 46 3 45,⟨some 47,.bin (.int .lss) (.t 46) (.c (.int .i64 1)),(some (45,false)),[46,45]⟩,g6 48 45 47])
 (.cond (.t 48)
 (.seq (.ag [e9 2])
 (.ret))
 (.skip)))
 (.seq (.seq (.ag [eQ 49 1,aG 50 49,aa 51 3,EN 52 50 51,dQ 53 52,fg 54])
 (.block 0 (.loop LM)))
 (.seq (.ag [eQ 75 1,aG 76 75,aa 77 3,j6 78 76 77,dc 79 78,⟨some 80,.call 44 [(.t 79)],none,[79]⟩,aa 2 80])
 (.ret))))))
theorem Uk:cz 44 81 [.t 2] LL:=cA Tryz.func44 (by kernel_rfl) (by kernel_rfl) rfl (by kernel_rfl) (by kernel_rfl)
def LN:bK:=
 .seq (.ag [eo 1 0,jX 2])
 (.seq (.ag [⟨some 3,.new [.aw],none,[]⟩])
 (.seq (.ag [⟨some 4,.new [.kN],none,[]⟩])
 (.seq (.ag [⟨some 5,.fn 64 [(.t 3),(.t 4)],none,[3,4]⟩,⟨none,.st 1 (.t 4) (.t 5),none,[4,5]⟩])
 (.seq (.ag [aG 6 4,dc 7 1,xa 8 6 7])
 (.seq (.ag [aG 9 3,aa 2 9])
 (.ret))))))
theorem Ul:cz 45 10 [.t 2] LN:=cA Tryz.func45 (by kernel_rfl) (by kernel_rfl) rfl (by kernel_rfl) (by kernel_rfl)
def LO:bK:=
 .seq (.ag [eo 1 0,jX 2])
 (.seq (.ag [⟨some 6,.r2 none,none,[]⟩,⟨some 3,.new [.lN],none,[]⟩,⟨none,.st 1 (.t 3) (.t 6),none,[3,6]⟩])
 (.seq (.ag [⟨some 7,.r2 none,none,[]⟩,⟨some 4,.new [.lN],none,[]⟩,⟨none,.st 1 (.t 4) (.t 7),none,[4,7]⟩])
 (.seq (.ag [⟨some 5,.new [.kN],none,[]⟩])
 (.seq (.ag [⟨some 8,.fn 66 [(.t 4),(.t 3),(.t 5)],none,[4,3,5]⟩,⟨none,.st 1 (.t 5) (.t 8),none,[5,8]⟩])
 (.seq (.ag [aG 9 5,dc 10 1,xa 11 9 10])
 (.seq (.ag [aG 12 3,⟨some 13,.call 68 [(.t 12)],none,[12]⟩,⟨some 14,.call 67 [(.t 13)],none,[13]⟩,aa 2 14])
 (.ret)))))))
theorem Um:cz 46 15 [.t 2] LO:=cA Tryz.func46 (by kernel_rfl) (by kernel_rfl) rfl (by kernel_rfl) (by kernel_rfl)
def LV:bK:=
 .seq (.seq (.ag [aa 29 5,aa 30 4,dQ 31 30,gn 32 29 31])
 (.cond (.t 32)
 (.skip)
 (.exit 2)))
 (.seq (.block 3 (.seq (.draw [aa 35 4,aa 36 5,iB 37 35 36,aG 38 37,aa 39 4,aa 40 5,jo 41 40,iB 42 39 41,aG 43 42,tJ 44 38 43] [])
 (.cond (.t 44)
 (.seq (.ag [aa 45 0,aa 46 3,aa 47 4,aa 48 5,iB 49 47 48,aG 50 49,iB 51 45 46,⟨none,.st 1 (.t 51) (.t 50),none,[51,50]⟩])
 (.ag [aa 52 3,fK 53 52,aa 3 53]))
 (.skip))))
 (.ag [aa 33 5,fK 34 33,aa 5 34]))
def LW:bK:=
 .seq (.seq (.ag [aa 10 3,aa 11 0,dQ 12 11,gn 13 10 12])
 (.cond (.t 13)
 (.skip)
 (.exit 0)))
 (.seq (.block 1 (.seq (.draw [aa 16 0,aa 17 3,iB 18 16 17,aG 19 18,aa 20 0,aa 21 3,jo 22 21,iB 23 20 22,aG 24 23,pq 25 19 24] [])
 (.cond (.t 25)
 (.seq (.ag [aa 26 0,aa 27 3,EO 28 26 27,aa 4 28])
 (.seq (.seq (.ag [BJ 5])
 (.block 2 (.loop LV)))
 (.seq (.ag [aa 54 0,aa 55 3,EO 56 54 55,⟨none,.Cq [(.int .i64 0)] (.t 56),none,[56]⟩])
 (.seq (.ag [aa 57 0,aa 58 3,⟨some 59,.g2 1 (.t 57) none (some (.t 58)) none,none,[57,58]⟩,aa 2 59])
 (.ret)))))
 (.skip))))
 (.ag [aa 14 3,fK 15 14,aa 3 15]))
def LU:bK:=
 .seq (.ag [jX 2])
 (.seq (.seq (.ag [aa 6 0,dQ 7 6,⟨some 8,.bin (.int .lss) (.t 7) (.c (.int .i64 2)),none,[7]⟩])
 (.cond (.t 8)
 (.seq (.ag [aa 9 0,aa 2 9])
 (.ret))
 (.skip)))
 (.seq (.seq (.ag [BJ 3])
 (.block 0 (.loop LW)))
 (.seq (.ag [aa 60 0,aa 2 60])
 (.ret))))
theorem Ur:cz 52 61 [.t 2] LU:=cA Tryz.func52 (by kernel_rfl) (by kernel_rfl) rfl (by kernel_rfl) (by kernel_rfl)
def L6:bK:=
 .seq (.ag [eo 2 0,e9 4])
 (.seq (.ag [eP 8 2,aG 9 8,⟨some 10,.call 119 [(.t 9)],none,[9]⟩,aa 7 10,⟨some 11,.ext (.t 7) 0,none,[7]⟩,⟨some 12,.ext (.t 7) 1,none,[7]⟩,JK 5,⟨none,.st 8 (.t 5) (.t 11),none,[5,11]⟩,aa 6 12])
 (.seq (.block 0 (.seq (.seq (.ag [aa 14 6,gD 15 14,aa 13 15])
 (.cond (.t 13)
 (.skip)
 (.seq (.ag [cO 16 2,aG 17 16,⟨some 18,.call 120 [(.t 17)],none,[17]⟩,gD 19 18,aa 13 19])
 (.cond (.t 13)
 (.skip)
 (.seq (.ag [eP 20 5,aG 21 20,gD 22 21,aa 23 22,mB 24 2 23,dg 25 24 23,⟨some 26,.bin (.int .neq) (.t 25) (.c (.int .i64 0)),(some (23,true)),[25,23]⟩,c3 27 23 26,aa 13 27])
 (.cond (.t 13)
 (.skip)
 (.seq (.ag [cO 28 5,aG 29 28,gD 30 29,aa 31 30,ep 32 1 31,vg 33 32 31,c3 34 31 33,aa 35 34,m6 36 2 35,dg 37 36 35,⟨some 38,.bin (.int .neq) (.t 37) (.c (.int .i64 0)),(some (35,true)),[37,35]⟩,c3 39 35 38,aa 13 39])
 (.cond (.t 13)
 (.skip)
 (.seq (.ag [e' 40 5,aG 41 40,gD 42 41,aa 43 42,tK 44 2 43,dg 45 44 43,⟨some 46,.bin (.str .neq) (.t 45) (.c (.str [])),(some (43,true)),[45,43]⟩,c3 47 43 46,aa 13 47])
 (.cond (.t 13)
 (.skip)
 (.ag [ov 48 5,aG 49 48,gD 50 49,aa 51 50,⟨some 52,.cX 5 (.t 2),(some (51,true)),[2,51]⟩,dg 53 52 51,tL 54 53 51,⟨some 55,.bin (.int .gtr) (.t 54) (.c (.int .i64 0)),(some (51,true)),[54,51]⟩,c3 56 51 55,aa 13 56])))))))))))
 (.cond (.t 13)
 (.seq (.ag [e9 4])
 (.ret))
 (.seq (.seq (.ag [kU 58 2,aG 59 58,dQ 60 59,kU 61 5,⟨some 62,.gT 2 (.t 61),none,[61]⟩,⟨some 63,.call 121 [(.t 60),(.t 62)],none,[60,62]⟩,gD 64 63,aa 57 64])
 (.cond (.t 57)
 (.skip)
 (.seq (.ag [eQ 65 2,aG 66 65,dQ 67 66,eQ 68 5,⟨some 69,.gT 2 (.t 68),none,[68]⟩,⟨some 70,.call 121 [(.t 67),(.t 69)],none,[67,69]⟩,gD 71 70,aa 57 71])
 (.cond (.t 57)
 (.skip)
 (.ag [e' 72 2,aG 73 72,⟨some 74,.call 120 [(.t 73)],none,[73]⟩,gD 75 74,aa 57 75])))))
 (.cond (.t 57)
 (.seq (.ag [e9 4])
 (.ret))
 (.seq (.seq (.ag [eP 77 2,aG 78 77,BK 79 78,aa 80 79,m6 81 2 80,dg 82 81 80,⟨some 83,.bin (.int .geq) (.t 82) (.c (.int .i64 1024)),(some (80,true)),[82,80]⟩,c3 84 80 83,aa 76 84])
 (.cond (.t 76)
 (.skip)
 (.seq (.draw [eP 85 2,aG 86 85,xb 87 86,aa 88 87,tK 90 2 88,dg 91 90 88,nE 93 2 88,dg 94 93 88,tL 95 94 88,⟨some 89,.call 122 [],(some (88,true)),[88]⟩,⟨some 92,.look .str (.int .i64 0) false (.t 89) (.t 91),(some (88,true)),[89,91,88]⟩,⟨some 96,.bin (.int .neq) (.t 92) (.t 95),(some (88,true)),[92,95,88]⟩,c3 97 88 96,aa 76 97] [(1,[9]),(5,[9,14]),(10,[14]),(7,[9,14])])
 (.cond (.t 76)
 (.skip)
 (.ag [ov 98 5,aG 99 98,aa 100 99,ow 101 2 100,⟨some 102,.call 123 [(.t 101)],(some (100,true)),[101,100]⟩,vg 103 102 100,c3 104 100 103,aa 76 104])))))
 (.cond (.t 76)
 (.seq (.ag [e9 4])
 (.ret))
 (.skip))))))))
 (.seq (.ag [kU 105 2,aG 106 105,⟨some 107,.call 124 [(.t 106),(.c (.func 125 []))],none,[106]⟩,gD 108 107,aa 4 108])
 (.ret))))
theorem Uw:cz 61 109 [.t 4] L6:=cA Tryz.func61 (by kernel_rfl) (by kernel_rfl) rfl (by kernel_rfl) (by kernel_rfl)
def L7:bK:=
 .seq (.ag [e9 4])
 (.seq (.ag [aa 5 0,aa 6 1,⟨some 7,.call 127 [(.t 5),(.t 6)],none,[5,6]⟩,y1 8 7,aa 4 8])
 (.ret))
theorem Ux:cz 62 9 [.t 4] L7:=cA Tryz.func62 (by kernel_rfl) (by kernel_rfl) rfl (by kernel_rfl) (by kernel_rfl)
def L8:bK:=
 .seq (.ag [eo 1 0,e9 2])
 (.seq (.ag [dc 3 1,⟨some 4,.call 44 [(.t 3)],none,[3]⟩,gD 5 4,aa 2 5])
 (.ret))
theorem Uy:cz 63 6 [.t 2] L8:=cA Tryz.func63 (by kernel_rfl) (by kernel_rfl) rfl (by kernel_rfl) (by kernel_rfl)
def L':bK:=
 .seq (.ag [gn 14 13 12])
 (.seq (.cond (.t 14)
 (.skip)
 (.exit 0))
 (.seq (.block 1 (.seq (.ag [aa 15 13,j6 16 11 13,dc 17 16,ou 5,aa 4 15,⟨none,.st 7 (.t 5) (.t 17),none,[5,17]⟩])
 (.seq (.seq (.ag [aa 18 4,ox 19 18,aa 20 19,BL 21 3 20,dg 22 21 20,BM 23 22 20,ep 24 23 20,⟨some 25,.cX 0 (.t 3),(some (24,false)),[3,24]⟩,gK 26 25 24,⟨some 27,.bin (.int .eql) (.t 26) (.c (.int .i64 11)),(some (24,false)),[26,24]⟩,vh 28 24 27 20,c3 29 20 28])
 (.cond (.t 29)
 (.ag [aG 30 1,cO 31 3,aG 32 31,oy 33 32,iC 34 30 33,⟨none,.st 1 (.t 1) (.t 34),none,[1,34]⟩])
 (.skip)))
 (.ag [aG 35 2,dc 36 5,xa 37 35 36]))))
 (.ag [fK 38 13,aa 13 38])))
def L9:bK:=
 .seq (.ag [eo 3 0])
 (.seq (.draw [aG 6 1,dc 7 3,⟨some 8,.call 65 [(.t 7)],none,[7]⟩,iC 9 6 8,⟨none,.st 1 (.t 1) (.t 9),none,[1,9]⟩] [(0,[2,3]),(1,[2])])
 (.seq (.ag [eQ 10 3,aG 11 10,dQ 12 11,fg 13])
 (.block 0 (.loop L'))))
theorem Uz:cz 64 39 [] L9:=cA Tryz.func64 (by kernel_rfl) (by kernel_rfl) rfl (by kernel_rfl) (by kernel_rfl)
def Ma:bK:=
 .seq (.ag [gn 26 25 24])
 (.seq (.cond (.t 26)
 (.skip)
 (.exit 1))
 (.seq (.block 2 (.seq (.ag [j6 27 23 25,dc 28 27,ou 5,⟨none,.st 7 (.t 5) (.t 28),none,[5,28]⟩])
 (.ag [aa 29 3,e' 30 5,aG 31 30,oy 32 31,iC 33 29 32,aa 3 33])))
 (.ag [fK 34 25,aa 25 34])))
def UB:bK:=
 .seq (.ag [gn 42 41 40])
 (.seq (.cond (.t 42)
 (.skip)
 (.exit 3))
 (.seq (.block 4 (.seq (.ag [aa 43 41,aa 7 43])
 (.ag [aa 44 6,cO 45 1,aG 46 45,aa 47 7,vi 48 46 47,oy 49 48,iC 50 44 49,aa 6 50])))
 (.ag [fK 51 41,aa 41 51])))
def L_:bK:=
 .seq (.ag [eo 1 0,jX 2])
 (.seq (.seq (.ag [eP 8 1,aG 9 8])
 (.block 0 (.seq (.ag [xc 11 9,aa 10 11])
 (.cond (.t 10)
 (.seq (.ag [cO 12 1,aG 13 12,oy 14 13,aa 2 14])
 (.ret))
 (.seq (.ag [xd 16 9,aa 15 16])
 (.cond (.t 15)
 (.seq (.ag [jX 3])
 (.seq (.seq (.ag [eQ 17 1,aG 18 17,eQ 19 1,aG 20 19,dQ 21 20,jo 22 21,EN 23 18 22,dQ 24 23,fg 25])
 (.block 1 (.loop Ma)))
 (.seq (.ag [aa 35 3,aa 2 35])
 (.ret))))
 (.seq (.ag [EP 37 9,aa 36 37])
 (.cond (.t 36)
 (.seq (.ag [jX 6])
 (.seq (.seq (.ag [sq 38 1,aG 39 38,dQ 40 39,fg 41])
 (.block 3 (.loop UB)))
 (.seq (.ag [aa 52 6,aa 2 52])
 (.ret))))
 (.skip)))))))))
 (.seq (.ag [jX 2])
 (.ret)))
theorem UA:cz 65 53 [.t 2] L_:=cA Tryz.func65 (by kernel_rfl) (by kernel_rfl) rfl (by kernel_rfl) (by kernel_rfl)
def Mc:bK:=
 .seq (.ag [gn 19 18 17])
 (.seq (.cond (.t 19)
 (.skip)
 (.exit 0))
 (.seq (.block 1 (.seq (.ag [vj 20 16 18,lx 21 20,xe 6,⟨none,.st 3 (.t 6) (.t 21),none,[6,21]⟩])
 (.seq (.ag [eP 22 6,aG 23 22,ox 24 23,aa 25 24,dg 26 1 25,mB 27 6 25,dg 28 27 25,⟨some 29,.look .int (.int .i64 0) false (.t 26) (.t 28),(some (25,true)),[26,28,25]⟩,tM 30 29 25,c3 31 25 30])
 (.cond (.t 31)
 (.ag [aG 32 2,cO 33 6,aG 34 33,⟨none,.fc .int (.t 32) (.t 34) (.c (.bool true)),none,[32,34]⟩])
 (.skip)))))
 (.ag [fK 35 18,aa 18 35])))
def Md:bK:=
 .seq (.ag [gn 41 40 39])
 (.seq (.cond (.t 41)
 (.skip)
 (.exit 2))
 (.seq (.block 3 (.seq (.ag [iB 42 38 40,aG 43 42,aa 9 43])
 (.ag [aG 44 1,aa 45 9,BN 46 44 45,fK 47 46,⟨none,.fc .int (.t 44) (.t 45) (.t 47),none,[44,45,47]⟩])))
 (.ag [fK 48 40,aa 40 48])))
def Me:bK:=
 .seq (.ag [gn 53 52 51])
 (.seq (.cond (.t 53)
 (.skip)
 (.exit 4))
 (.seq (.block 5 (.seq (.ag [aa 54 52,j6 55 50 52,dc 56 55,ou 11,aa 10 54,⟨none,.st 7 (.t 11) (.t 56),none,[11,56]⟩])
 (.seq (.ag [aa 57 10,ox 58 57,aa 59 58,BL 60 4 59,dg 61 60 59,BM 62 61 59,ep 63 62 59,⟨some 64,.cX 0 (.t 4),(some (63,false)),[4,63]⟩,gK 65 64 63,⟨some 66,.bin (.int .eql) (.t 65) (.c (.int .i64 11)),(some (63,false)),[65,63]⟩,vh 67 63 66 59,c3 68 59 67,aa 12 68])
 (.seq (.seq (.ag [aa 69 12])
 (.cond (.t 69)
 (.ag [aG 70 1,cO 71 4,aG 72 71,BN 73 70 72,fK 74 73,⟨none,.fc .int (.t 70) (.t 72) (.t 74),none,[70,72,74]⟩])
 (.skip)))
 (.seq (.ag [aG 75 3,dc 76 11,xa 77 75 76])
 (.seq (.ag [aa 78 12])
 (.cond (.t 78)
 (.ag [aG 79 1,cO 80 4,aG 81 80,BN 82 79 81,jo 83 82,⟨none,.fc .int (.t 79) (.t 81) (.t 83),none,[79,81,83]⟩])
 (.skip))))))))
 (.ag [fK 84 52,aa 52 84])))
def Mf:bK:=
 .seq (.ag [gn 88 87 86])
 (.seq (.cond (.t 88)
 (.skip)
 (.exit 6))
 (.seq (.block 7 (.seq (.ag [iB 89 85 87,aG 90 89,aa 14 90])
 (.ag [aG 91 1,aa 92 14,BN 93 91 92,jo 94 93,⟨none,.fc .int (.t 91) (.t 92) (.t 94),none,[91,92,94]⟩])))
 (.ag [fK 95 87,aa 87 95])))
def Mb:bK:=
 .seq (.ag [eo 4 0])
 (.seq (.seq (.ag [kU 15 4,aG 16 15,dQ 17 16,fg 18])
 (.block 0 (.loop Mc)))
 (.seq (.ag [dc 36 4,⟨some 37,.call 65 [(.t 36)],none,[36]⟩,aa 7 37])
 (.seq (.seq (.ag [aa 38 7,dQ 39 38,fg 40])
 (.block 2 (.loop Md)))
 (.seq (.seq (.ag [eQ 49 4,aG 50 49,dQ 51 50,fg 52])
 (.block 4 (.loop Me)))
 (.seq (.ag [aa 85 7,dQ 86 85,fg 87])
 (.block 6 (.loop Mf)))))))
theorem UC:cz 66 96 [] Mb:=cA Tryz.func66 (by kernel_rfl) (by kernel_rfl) rfl (by kernel_rfl) (by kernel_rfl)
def na:bK:=
 .seq (.ag [JK 2,e9 3])
 (.seq (.ag [xf 5,ER 6 5,xf 7,ER 8 7,ES 9,ET 10 9,ES 11,ET 12 11,⟨some 13,.build [(.int .i64 0),(.int .i64 0)] [(0,1,(.c (.int .i64 1))),(1,1,(.c (.int .i64 3)))],none,[]⟩,⟨some 14,.build [(.bool false),(.bool false),(.bool false),(.bool false),(.int .i64 0),(.int .i64 0),(.int .i64 0),(.int .i64 0)] [(2,1,(.c (.bool true))),(4,2,(.t 13))],none,[13]⟩,⟨some 15,.build [(.int .i64 0),(.int .i64 0)] [(0,1,(.c (.int .i64 0))),(1,1,(.c (.int .i64 1024)))],none,[]⟩,JL 16 15,xf 17,JL 18 17,ES 19,ER 20 19,xf 21,ET 22 21,xf 23,JM 24,JN 25 23 24,xf 26,JM 27,JN 28 26 27,⟨some 29,.build [(.bool false),(.bool false),(.bool false),(.bool false),(.int .i64 0),(.int .i64 0),(.int .i64 0),(.int .i64 0),(.bool false),(.bool false),(.bool false),(.bool false),(.int .i64 0),(.int .i64 0),(.int .i64 0),(.int .i64 0),(.bool false),(.bool false),(.bool false),(.bool false),(.int .i64 0),(.int .i64 0),(.int .i64 0),(.int .i64 0),(.bool false),(.bool false),(.bool false),(.bool false),(.int .i64 0),(.int .i64 0),(.int .i64 0),(.int .i64 0),(.bool false),(.bool false),(.bool false),(.bool false),(.int .i64 0),(.int .i64 0),(.int .i64 0),(.int .i64 0),(.bool false),(.bool false),(.bool false),(.bool false),(.int .i64 0),(.int .i64 0),(.int .i64 0),(.int .i64 0),(.bool false),(.bool false),(.bool false),(.bool false),(.int .i64 0),(.int .i64 0),(.int .i64 0),(.int .i64 0),(.bool false),(.bool false),(.bool false),(.bool false),(.int .i64 0),(.int .i64 0),(.int .i64 0),(.int .i64 0),(.bool false),(.bool false),(.bool false),(.bool false),(.int .i64 0),(.int .i64 0),(.int .i64 0),(.int .i64 0),(.bool false),(.bool false),(.bool false),(.bool false),(.int .i64 0),(.int .i64 0),(.int .i64 0),(.int .i64 0),(.bool false),(.bool false),(.bool false),(.bool false),(.int .i64 0),(.int .i64 0),(.int .i64 0),(.int .i64 0),(.bool false),(.bool false),(.bool false),(.bool false),(.int .i64 0),(.int .i64 0),(.int .i64 0),(.int .i64 0),(.bool false),(.bool false),(.bool false),(.bool false),(.int .i64 0),(.int .i64 0),(.int .i64 0),(.int .i64 0)] [(8,8,(.t 6)),(96,8,(.t 8)),(16,8,(.t 10)),(88,8,(.t 12)),(24,8,(.t 14)),(32,8,(.t 16)),(40,8,(.t 18)),(48,8,(.t 20)),(56,8,(.t 22)),(72,8,(.t 25)),(80,8,(.t 28))],none,[6,8,10,12,14,16,18,20,22,25,28]⟩,⟨some 4,.new [(.bool false),(.bool false),(.bool false),(.bool false),(.int .i64 0),(.int .i64 0),(.int .i64 0),(.int .i64 0),(.bool false),(.bool false),(.bool false),(.bool false),(.int .i64 0),(.int .i64 0),(.int .i64 0),(.int .i64 0),(.bool false),(.bool false),(.bool false),(.bool false),(.int .i64 0),(.int .i64 0),(.int .i64 0),(.int .i64 0),(.bool false),(.bool false),(.bool false),(.bool false),(.int .i64 0),(.int .i64 0),(.int .i64 0),(.int .i64 0),(.bool false),(.bool false),(.bool false),(.bool false),(.int .i64 0),(.int .i64 0),(.int .i64 0),(.int .i64 0),(.bool false),(.bool false),(.bool false),(.bool false),(.int .i64 0),(.int .i64 0),(.int .i64 0),(.int .i64 0),(.bool false),(.bool false),(.bool false),(.bool false),(.int .i64 0),(.int .i64 0),(.int .i64 0),(.int .i64 0),(.bool false),(.bool false),(.bool false),(.bool false),(.int .i64 0),(.int .i64 0),(.int .i64 0),(.int .i64 0),(.bool false),(.bool false),(.bool false),(.bool false),(.int .i64 0),(.int .i64 0),(.int .i64 0),(.int .i64 0),(.bool false),(.bool false),(.bool false),(.bool false),(.int .i64 0),(.int .i64 0),(.int .i64 0),(.int .i64 0),(.bool false),(.bool false),(.bool false),(.bool false),(.int .i64 0),(.int .i64 0),(.int .i64 0),(.int .i64 0),(.bool false),(.bool false),(.bool false),(.bool false),(.int .i64 0),(.int .i64 0),(.int .i64 0),(.int .i64 0),(.bool false),(.bool false),(.bool false),(.bool false),(.int .i64 0),(.int .i64 0),(.int .i64 0),(.int .i64 0)],none,[]⟩,⟨none,.st 104 (.t 4) (.t 29),none,[4,29]⟩])
 (.seq (.seq (.ag [aa 30 0,⟨some 31,.bin (.int .leq) (.t 30) (.c (.int .i64 0)),none,[30]⟩,aa 32 31,hj 33 0 32,⟨some 34,.bin (.int .geq) (.t 33) (.c (.int .i64 13)),(some (32,false)),[33,32]⟩,g6 35 32 34,aa 36 35,hj 37 0 36,⟨some 38,.bin (.int .eql) (.t 37) (.c (.int .i64 8)),(some (36,false)),[37,36]⟩,g6 39 36 38])
 (.cond (.t 39)
 (.seq (.ag [⟨some 40,.build [(.bool false),(.bool false),(.bool false),(.bool false),(.int .i64 0),(.int .i64 0),(.int .i64 0),(.int .i64 0)] [],none,[]⟩,⟨none,.st 8 (.t 2) (.t 40),none,[2,40]⟩,e9 3])
 (.ret))
 (.skip)))
 (.seq (.ag [aa 41 0,⟨some 42,.s4 13 8 (.t 4) (.t 41),none,[4,41]⟩,⟨some 43,.gT 8 (.t 42),none,[42]⟩,⟨none,.st 8 (.t 2) (.t 43),none,[2,43]⟩,m7 3])
 (.ret))))
theorem nK:cz 119 44 [.k1 2 8,.t 3] na:=cA Tryz.func119 (by kernel_rfl) (by kernel_rfl) rfl (by kernel_rfl) (by kernel_rfl)
def KW:bK:=
 .seq (.ag [e9 2])
 (.seq (.ag [aa 3 0,y1 4 3,aa 5 4,ep 6 0 5,EU 7 6 5,c3 8 5 7,aa 2 8])
 (.ret))
theorem TI:cz 120 9 [.t 2] KW:=cA Tryz.func120 (by kernel_rfl) (by kernel_rfl) rfl (by kernel_rfl) (by kernel_rfl)
def KX:bK:=
 .seq (.ag [eo 3 1,e9 4])
 (.seq (.ag [aa 5 0,⟨some 6,.s4 2 1 (.t 3) (.c (.int .i64 0)),none,[3]⟩,aG 7 6,⟨some 8,.bin (.int .geq) (.t 5) (.t 7),none,[5,7]⟩,aa 9 8,ep 10 0 9,⟨some 11,.s4 2 1 (.t 3) (.c (.int .i64 1)),(some (9,true)),[3,9]⟩,dg 12 11 9,⟨some 13,.bin (.int .leq) (.t 10) (.t 12),(some (9,true)),[10,12,9]⟩,c3 14 9 13,aa 4 14])
 (.ret))
theorem TJ:cz 121 15 [.t 4] KX:=cA Tryz.func121 (by kernel_rfl) (by kernel_rfl) rfl (by kernel_rfl) (by kernel_rfl)
def KY:bK:=
 .seq (.ag [⟨some 0,.gu (.c .lN),none,[]⟩])
 (.seq (.ag [⟨some 1,.r2 none,none,[]⟩,⟨none,.fc .str (.t 1) (.c (.str [97,100,100])) (.c (.int .i64 2)),none,[1]⟩,⟨none,.fc .str (.t 1) (.c (.str [115,117,98])) (.c (.int .i64 2)),none,[1]⟩,⟨none,.fc .str (.t 1) (.c (.str [109,117,108])) (.c (.int .i64 2)),none,[1]⟩,⟨none,.fc .str (.t 1) (.c (.str [100,105,118])) (.c (.int .i64 2)),none,[1]⟩,⟨none,.fc .str (.t 1) (.c (.str [109,111,100])) (.c (.int .i64 2)),none,[1]⟩,⟨none,.fc .str (.t 1) (.c (.str [101,113])) (.c (.int .i64 2)),none,[1]⟩,⟨none,.fc .str (.t 1) (.c (.str [108,116])) (.c (.int .i64 2)),none,[1]⟩,⟨none,.fc .str (.t 1) (.c (.str [108,101])) (.c (.int .i64 2)),none,[1]⟩,⟨none,.fc .str (.t 1) (.c (.str [98,121,116,101])) (.c (.int .i64 2)),none,[1]⟩,⟨none,.fc .str (.t 1) (.c (.str [106,111,105,110])) (.c (.int .i64 2)),none,[1]⟩,⟨none,.fc .str (.t 1) (.c (.str [115,101,116])) (.c (.int .i64 2)),none,[1]⟩,⟨none,.fc .str (.t 1) (.c (.str [110,101,103])) (.c (.int .i64 1)),none,[1]⟩,⟨none,.fc .str (.t 1) (.c (.str [103,101,116,99])) (.c (.int .i64 1)),none,[1]⟩,⟨none,.fc .str (.t 1) (.c (.str [112,117,116,99])) (.c (.int .i64 1)),none,[1]⟩,⟨none,.fc .str (.t 1) (.c (.str [112,117,116,115])) (.c (.int .i64 1)),none,[1]⟩,⟨none,.fc .str (.t 1) (.c (.str [115,105,122,101])) (.c (.int .i64 1)),none,[1]⟩,⟨none,.fc .str (.t 1) (.c (.str [99,104,114])) (.c (.int .i64 1)),none,[1]⟩,⟨none,.fc .str (.t 1) (.c (.str [99,117,116])) (.c (.int .i64 3)),none,[1]⟩,aa 2 1,aa 0 2])
 (.ret))
theorem TK:cz 122 3 [.t 0] KY:=cA Tryz.func122 (by kernel_rfl) (by kernel_rfl) rfl (by kernel_rfl) (by kernel_rfl)
def K0:bK:=
 .seq (.ag [gn 12 11 10])
 (.seq (.cond (.t 12)
 (.skip)
 (.exit 0))
 (.seq (.block 1 (.seq (.ag [iB 13 9 11,aG 14 13,aa 5 14])
 (.seq (.ag [aa 15 5,⟨some 16,.call 120 [(.t 15)],none,[15]⟩,aa 6 16])
 (.seq (.seq (.ag [eP 17 1,aG 18 17,y2 19 18])
 (.cond (.t 19)
 (.ag [aa 20 5,EV 21 20,aa 22 21,ep 23 5 22,EW 24 23 22,c3 25 22 24,aa 6 25])
 (.skip)))
 (.seq (.seq (.ag [aa 26 6,gD 27 26,aa 28 27,hj 29 3 28,hj 30 5 28,⟨some 31,.look .int (.bool false) false (.t 29) (.t 30),(some (28,false)),[29,30,28]⟩,g6 32 28 31])
 (.cond (.t 32)
 (.seq (.ag [e9 2])
 (.ret))
 (.skip)))
 (.ag [aa 33 3,aa 34 5,⟨none,.fc .int (.t 33) (.t 34) (.c (.bool true)),none,[33,34]⟩]))))))
 (.ag [fK 35 11,aa 11 35])))
def KZ:bK:=
 .seq (.ag [eo 1 0,e9 2])
 (.seq (.ag [⟨some 7,.r2 none,none,[]⟩,aa 3 7])
 (.seq (.seq (.ag [sq 8 1,aG 9 8,dQ 10 9,fg 11])
 (.block 0 (.loop K0)))
 (.seq (.ag [eQ 36 1,aG 37 36,dQ 38 37,sq 39 1,aG 40 39,dQ 41 40,pq 42 38 41,aa 43 42,vf 44 1 43,gK 45 44 43,m5 46 45 43,BI 47 1 43,gK 48 47 43,m5 49 48 43,⟨some 50,.bin (.int .add) (.t 49) (.c (.int .i64 1)),(some (43,false)),[49,43]⟩,⟨some 51,.bin (.int .eql) (.t 46) (.t 50),(some (43,false)),[46,50,43]⟩,g6 52 43 51,aa 2 52])
 (.ret))))
theorem TL:cz 123 53 [.t 2] KZ:=cA Tryz.func123 (by kernel_rfl) (by kernel_rfl) rfl (by kernel_rfl) (by kernel_rfl)
def K1:bK:=
 .seq (.ag [e9 4])
 (.seq (.ag [aa 5 0,aa 6 1,⟨some 7,.call 160 [(.t 5),(.t 6)],none,[5,6]⟩,y1 8 7,aa 4 8])
 (.ret))
theorem TM:cz 124 9 [.t 4] K1:=cA Tryz.func124 (by kernel_rfl) (by kernel_rfl) rfl (by kernel_rfl) (by kernel_rfl)
def K2:bK:=
 .seq (.ag [eo 1 0,e9 2])
 (.seq (.ag [lx 3 1,⟨some 4,.call 126 [(.t 3)],none,[3]⟩,gD 5 4,aa 2 5])
 (.ret))
theorem TN:cz 125 6 [.t 2] K2:=cA Tryz.func125 (by kernel_rfl) (by kernel_rfl) rfl (by kernel_rfl) (by kernel_rfl)
def K3:bK:=
 .seq (.ag [eo 1 0,e9 2])
 (.seq (.seq (.ag [eP 3 1,aG 4 3])
 (.block 0 (.seq (.ag [ox 6 4,aa 5 6])
 (.cond (.t 5)
 (.seq (.ag [cO 7 1,aG 8 7,y1 9 8,aa 10 9,mB 11 1 10,dg 12 11 10,EU 13 12 10,c3 14 10 13,aa 15 14,m6 16 1 15,dg 17 16 15,BO 18 17 15,c3 19 15 18,aa 2 19])
 (.ret))
 (.seq (.ag [nF 21 4,aa 20 21])
 (.cond (.t 20)
 (.seq (.ag [cO 22 1,aG 23 22,EV 24 23,aa 25 24,mB 26 1 25,dg 27 26 25,EW 28 27 25,c3 29 25 28,aa 30 29,m6 31 1 30,dg 32 31 30,BO 33 32 30,c3 34 30 33,aa 2 34])
 (.ret))
 (.seq (.ag [xb 36 4,aa 35 36])
 (.cond (.t 35)
 (.seq (.ag [cO 37 1,aG 38 37,y3 39 38,aa 40 39,m6 41 1 40,dg 42 41 40,xg 43 42 40,EX 44 43 40,c3 45 40 44,aa 2 45])
 (.ret))
 (.skip)))))))))
 (.seq (.ag [e9 2])
 (.ret)))
theorem TO:cz 126 46 [.t 2] K3:=cA Tryz.func126 (by kernel_rfl) (by kernel_rfl) rfl (by kernel_rfl) (by kernel_rfl)
def K5:bK:=
 .seq (.ag [gn 9 8 7])
 (.seq (.cond (.t 9)
 (.skip)
 (.exit 0))
 (.seq (.block 1 (.seq (.ag [aa 10 8,aa 5 10])
 (.seq (.ag [aa 11 1,aa 12 0,aa 13 5,j6 14 12 13,dc 15 14,xa 16 11 15])
 (.cond (.t 16)
 (.seq (.ag [aa 17 5,aa 4 17])
 (.ret))
 (.skip)))))
 (.ag [fK 18 8,aa 8 18])))
def K4:bK:=
 .seq (.ag [fg 4])
 (.seq (.seq (.ag [aa 6 0,dQ 7 6,fg 8])
 (.block 0 (.loop K5)))
 (.seq (.ag [⟨some 4,.gu (.c (.int .i64 (-1))),none,[]⟩])
 (.ret)))
theorem TP:cz 127 19 [.t 4] K4:=cA Tryz.func127 (by kernel_rfl) (by kernel_rfl) rfl (by kernel_rfl) (by kernel_rfl)
def Lt:bK:=
 .seq (.ag [gn 9 8 7])
 (.seq (.cond (.t 9)
 (.skip)
 (.exit 0))
 (.seq (.block 1 (.seq (.ag [aa 10 8,aa 5 10])
 (.seq (.ag [aa 11 1,aa 12 0,aa 13 5,vj 14 12 13,lx 15 14,xa 16 11 15])
 (.cond (.t 16)
 (.seq (.ag [aa 17 5,aa 4 17])
 (.ret))
 (.skip)))))
 (.ag [fK 18 8,aa 8 18])))
def Ls:bK:=
 .seq (.ag [fg 4])
 (.seq (.seq (.ag [aa 6 0,dQ 7 6,fg 8])
 (.block 0 (.loop Lt)))
 (.seq (.ag [⟨some 4,.gu (.c (.int .i64 (-1))),none,[]⟩])
 (.ret)))
theorem T8:cz 160 19 [.t 4] Ls:=cA Tryz.func160 (by kernel_rfl) (by kernel_rfl) rfl (by kernel_rfl) (by kernel_rfl)
def xH:bK:=
 .seq (.ag [eo 1 0,e9 2])
 (.seq (.seq (.ag [dc 5 1,⟨some 6,.call 10 [(.t 5),(.c (.int .i64 400))],none,[5]⟩])
 (.cond (.t 6)
 (.seq (.ag [⟨some 7,.call 11 [],none,[]⟩,aa 2 7])
 (.ret))
 (.skip)))
 (.seq (.ag [dc 8 1,⟨some 9,.call 12 [(.t 8)],none,[8]⟩,ou 3,⟨none,.st 7 (.t 3) (.t 9),none,[3,9]⟩])
 (.seq (.draw [dc 10 3,dc 12 1,⟨some 11,.call 20 [(.t 10)],none,[10]⟩,⟨some 13,.call 21 [(.t 12)],none,[12]⟩,pq 14 11 13,aa 15 14,ow 16 3 15,ow 18 1 15,⟨some 17,.call 22 [(.t 16)],(some (15,true)),[16,15]⟩,⟨some 19,.call 23 [(.t 18)],(some (15,true)),[18,15]⟩,xh 20 17 19 15,c3 21 15 20,aa 4 21] [(0,[2]),(1,[2,3]),(6,[8]),(7,[8,9])])
 (.seq (.draw [aa 22 4,aa 23 22,ow 24 3 23,ow 26 1 23,⟨some 25,.call 25 [(.t 24)],(some (23,true)),[24,23]⟩,⟨some 27,.call 26 [(.t 26)],(some (23,true)),[26,23]⟩,⟨some 28,.call 24 [(.t 25),(.t 27)],(some (23,true)),[25,27,23]⟩,c3 29 23 28,aa 30 29,ow 31 3 30,ow 33 1 30,⟨some 32,.call 27 [(.t 31)],(some (30,true)),[31,30]⟩,⟨some 34,.call 28 [(.t 33)],(some (30,true)),[33,30]⟩,⟨some 35,.call 24 [(.t 32),(.t 34)],(some (30,true)),[32,34,30]⟩,c3 36 30 35,aa 4 36] [(2,[4]),(3,[4,5]),(9,[11]),(10,[11,12])])
 (.seq (.ag [aa 37 4,aa 38 37,ow 39 3 38,ow 40 1 38,⟨some 41,.call 16 [(.t 39),(.t 40)],(some (38,true)),[39,40,38]⟩,c3 42 38 41,aa 43 42,⟨some 44,.call 11 [],(some (43,true)),[43]⟩,c3 45 43 44,aa 2 45])
 (.ret))))))
def LC:bK:=
 .seq (.ag [eo 1 0,fg 2])
 (.seq (.seq (.ag [dc 3 1,y4 4 3,gD 5 4])
 (.cond (.t 5)
 (.seq (.ag [⟨some 2,.gu (.c (.int .i64 2)),none,[]⟩])
 (.ret))
 (.skip)))
 (.seq (.seq (.draw [dc 6 1,dc 9 1,⟨some 7,.call 48 [(.t 6),(.c .aw)],none,[6]⟩,dQ 8 7,⟨some 10,.call 26 [(.t 9)],none,[9]⟩,dQ 11 10,tJ 12 8 11] [(0,[2]),(1,[2,4])])
 (.cond (.t 12)
 (.seq (.ag [⟨some 2,.gu (.c (.int .i64 7)),none,[]⟩])
 (.ret))
 (.skip)))
 (.seq (.seq (.ag [dc 13 1,⟨some 14,.call 28 [(.t 13)],none,[13]⟩,dQ 15 14,BE 16 15])
 (.cond (.t 16)
 (.seq (.ag [⟨some 2,.gu (.c (.int .i64 6)),none,[]⟩])
 (.ret))
 (.skip)))
 (.seq (.ag [fg 2])
 (.ret)))))
theorem Ue:cz 21 17 [.t 2] LC:=cA Tryz.func21 (by kernel_rfl) (by kernel_rfl) rfl (by kernel_rfl) (by kernel_rfl)
def LF:bK:=
 .seq (.ag [eo 1 0,jX 2])
 (.seq (.seq (.ag [dc 3 1,y4 4 3,gD 5 4])
 (.cond (.t 5)
 (.seq (.ag [jX 2])
 (.ret))
 (.skip)))
 (.seq (.ag [dc 6 1,⟨some 7,.call 48 [(.t 6),(.c .aw)],none,[6]⟩,⟨some 8,.call 53 [(.t 7)],none,[7]⟩,aa 2 8])
 (.ret)))
theorem Ug:cz 26 9 [.t 2] LF:=cA Tryz.func26 (by kernel_rfl) (by kernel_rfl) rfl (by kernel_rfl) (by kernel_rfl)
def LG:bK:=
 .seq (.ag [eo 1 0,jX 2])
 (.seq (.seq (.ag [dc 3 1,y4 4 3,gD 5 4])
 (.cond (.t 5)
 (.seq (.ag [jX 2])
 (.ret))
 (.skip)))
 (.seq (.ag [dc 6 1,⟨some 7,.call 54 [(.t 6),(.c .aw),(.c .aw)],none,[6]⟩,⟨some 8,.call 53 [(.t 7)],none,[7]⟩,aa 2 8])
 (.ret)))
theorem Uh:cz 28 9 [.t 2] LG:=cA Tryz.func28 (by kernel_rfl) (by kernel_rfl) rfl (by kernel_rfl) (by kernel_rfl)
def LQ:bK:=
 .seq (.seq (.ag [aa 23 3,eQ 24 1,aG 25 24,dQ 26 25,jo 27 26,gn 28 23 27])
 (.cond (.t 28)
 (.skip)
 (.exit 0)))
 (.seq (.block 1 (.seq (.ag [eQ 31 1,aG 32 31,aa 33 3,j6 34 32 33,dc 35 34,⟨some 36,.call 70 [(.t 35),(.c (.bool true))],none,[35]⟩,gD 37 36,aa 38 37,vf 39 1 38,gK 40 39 38,hj 41 3 38,⟨some 42,.b9 7 (.t 40) (.t 41),(some (38,false)),[40,41,38]⟩,vf 43 42 38,gK 44 43 38,⟨some 45,.b9 7 (.t 44) (.c (.int .i64 0)),(some (38,false)),[44,38]⟩,⟨some 46,.gT 7 (.t 45),(some (38,false)),[45,38]⟩,⟨some 47,.call 47 [(.t 46)],(some (38,false)),[46,38]⟩,BF 48 47 38,g6 49 38 48])
 (.cond (.t 49)
 (.seq (.ag [e9 2])
 (.ret))
 (.skip))))
 (.ag [aa 29 3,fK 30 29,aa 3 30]))
def FI:bK:=
 .seq (.seq (.ag [aa 67 4,eQ 68 1,aG 69 68,dQ 70 69,gn 71 67 70])
 (.cond (.t 71)
 (.skip)
 (.exit 2)))
 (.seq (.block 3 (.seq (.ag [eQ 74 1,aG 75 74,aa 76 4,j6 77 75 76,dc 78 77,y4 79 78,gD 80 79])
 (.cond (.t 80)
 (.seq (.ag [e9 2])
 (.ret))
 (.skip))))
 (.ag [aa 72 4,fK 73 72,aa 4 73]))
def LP:bK:=
 .seq (.ag [eo 1 0,e9 2])
 (.seq (.seq (.ag [eP 5 1,aG 6 5,xd 7 6])
 (.cond (.t 7)
 (.seq (.seq (.ag [dc 8 1,EY 9 8,gD 10 9,aa 11 10,⟨some 12,.cX 4 (.t 1),(some (11,false)),[1,11]⟩,gK 13 12 11,m5 14 13 11,EM 15 14 11,g6 16 11 15,aa 17 16,vf 18 1 17,gK 19 18 17,m5 20 19 17,⟨some 21,.bin (.int .lss) (.t 20) (.c (.int .i64 2)),(some (17,false)),[20,17]⟩,g6 22 17 21])
 (.cond (.t 22)
 (.seq (.ag [e9 2])
 (.ret))
 (.skip)))
 (.seq (.seq (.ag [fg 3])
 (.block 0 (.loop LQ)))
 (.seq (.ag [eQ 50 1,aG 51 50,eQ 52 1,aG 53 52,dQ 54 53,jo 55 54,j6 56 51 55,dc 57 56,y4 58 57,aa 2 58])
 (.ret))))
 (.skip)))
 (.seq (.seq (.ag [dc 59 1,⟨some 60,.call 71 [(.t 59)],none,[59]⟩,gD 61 60,aa 62 61,ow 63 1 62,⟨some 64,.call 70 [(.t 63),(.c (.bool false))],(some (62,true)),[63,62]⟩,vg 65 64 62,c3 66 62 65])
 (.cond (.t 66)
 (.seq (.ag [e9 2])
 (.ret))
 (.skip)))
 (.seq (.seq (.ag [fg 4])
 (.block 2 (.loop FI)))
 (.seq (.ag [m7 2])
 (.ret)))))
theorem Un:cz 47 81 [.t 2] LP:=cA Tryz.func47 (by kernel_rfl) (by kernel_rfl) rfl (by kernel_rfl) (by kernel_rfl)
def LS:bK:=
 .seq (.seq (.ag [aa 37 5,eQ 38 2,aG 39 38,dQ 40 39,jo 41 40,gn 42 37 41])
 (.cond (.t 42)
 (.skip)
 (.exit 1)))
 (.seq (.block 2 (.ag [aa 45 1,eQ 46 2,aG 47 46,aa 48 5,j6 49 47 48,e' 50 49,aG 51 50,oy 52 51,iC 53 45 52,aa 1 53]))
 (.ag [aa 43 5,fK 44 43,aa 5 44]))
def FJ:bK:=
 .seq (.seq (.ag [aa 54 6,eQ 55 2,aG 56 55,dQ 57 56,gn 58 54 57])
 (.cond (.t 58)
 (.skip)
 (.exit 3)))
 (.seq (.block 4 (.ag [eQ 61 2,aG 62 61,aa 63 6,j6 64 62 63,dc 65 64,aa 66 1,⟨some 67,.call 48 [(.t 65),(.t 66)],none,[65,66]⟩,aa 1 67]))
 (.ag [aa 59 6,fK 60 59,aa 6 60]))
def LR:bK:=
 .seq (.ag [eo 2 0,jX 4])
 (.seq (.seq (.ag [eP 7 2,aG 8 7])
 (.block 0 (.seq (.seq (.ag [nF 10 8,aa 9 10])
 (.cond (.t 9)
 (.skip)
 (.ag [vk 11 8,aa 9 11])))
 (.cond (.t 9)
 (.seq (.ag [eQ 12 2,aG 13 12,tN 14 13,dc 15 14,aa 16 1,⟨some 17,.call 48 [(.t 15),(.t 16)],none,[15,16]⟩,aa 1 17])
 (.seq (.draw [eQ 18 2,aG 19 18,y5 20 19,dc 21 20,aa 22 1,cO 23 2,aG 24 23,oy 25 24,iC 26 22 25,⟨some 27,.call 48 [(.t 21),(.t 26)],none,[21,26]⟩,aa 4 27] [(1,[8,9]),(3,[8,9]),(6,[8])])
 (.ret)))
 (.seq (.ag [xc 29 8,aa 28 29])
 (.cond (.t 28)
 (.ag [aa 30 1,cO 31 2,aG 32 31,oy 33 32,iC 34 30 33,aa 1 34])
 (.seq (.ag [xd 36 8,aa 35 36])
 (.cond (.t 35)
 (.seq (.ag [fg 5])
 (.block 1 (.loop LS)))
 (.skip)))))))))
 (.seq (.seq (.ag [fg 6])
 (.block 3 (.loop FJ)))
 (.seq (.ag [aa 68 1,aa 4 68])
 (.ret))))
theorem Uo:cz 48 69 [.t 4] LR:=cA Tryz.func48 (by kernel_rfl) (by kernel_rfl) rfl (by kernel_rfl) (by kernel_rfl)
def LY:bK:=
 .seq (.seq (.draw [aa 13 5,aa 14 3,dQ 15 14,gn 16 13 15,aa 17 16,ep 18 3 17,ep 19 5 17,xi 20 18 19 17,dg 21 20 17,ep 22 0 17,ep 23 4 17,xi 24 22 23 17,dg 25 24 17,BP 26 21 25 17,c3 27 17 26] [])
 (.cond (.t 27)
 (.skip)
 (.exit 2)))
 (.block 3 (.ag [aa 28 5,fK 29 28,aa 5 29]))
def LZ:bK:=
 .seq (.seq (.ag [aa 7 4,aa 8 0,dQ 9 8,gn 10 7 9])
 (.cond (.t 10)
 (.skip)
 (.exit 0)))
 (.seq (.block 1 (.seq (.ag [fg 5])
 (.seq (.block 2 (.loop LY))
 (.seq (.seq (.draw [aa 30 5,aa 31 3,dQ 32 31,gn 33 30 32,aa 34 33,ep 35 3 34,ep 36 5 34,xi 37 35 36 34,dg 38 37 34,ep 39 0 34,ep 40 4 34,xi 41 39 40 34,dg 42 41 34,xh 43 38 42 34,c3 44 34 43] [])
 (.cond (.t 44)
 (.exit 1)
 (.skip)))
 (.seq (.ag [⟨some 45,.h9 0 1 [(.int .i64 0)] [],none,[]⟩,aa 46 3,aa 47 5,EO 48 46 47,iC 49 45 48,aa 6 49])
 (.draw [aa 50 3,aa 51 5,aa 52 5,⟨some 53,.g2 1 (.t 50) none (some (.t 51)) (some (.t 52)),none,[50,51,52]⟩,aa 54 0,aa 55 4,iB 56 54 55,aG 57 56,oy 58 57,aa 60 6,iC 59 53 58,iC 61 59 60,aa 3 61] [(7,[10])]))))))
 (.ag [aa 11 4,fK 12 11,aa 4 12]))
def LX:bK:=
 .seq (.ag [jX 2])
 (.seq (.ag [jX 3])
 (.seq (.seq (.ag [fg 4])
 (.block 0 (.loop LZ)))
 (.seq (.ag [aa 62 3,aa 2 62])
 (.ret))))
theorem Us:cz 53 63 [.t 2] LX:=cA Tryz.func53 (by kernel_rfl) (by kernel_rfl) rfl (by kernel_rfl) (by kernel_rfl)
def L1:bK:=
 .seq (.seq (.ag [aa 11 7,kU 12 3,aG 13 12,dQ 14 13,gn 15 11 14])
 (.cond (.t 15)
 (.skip)
 (.exit 0)))
 (.seq (.block 1 (.seq (.ag [kU 18 3,aG 19 18,aa 20 7,vj 21 19 20,eP 22 21,aG 23 22,ox 24 23,aa 25 24,ep 26 1 25,nE 27 3 25,dg 28 27 25,ep 29 7 25,⟨some 30,.b9 3 (.t 28) (.t 29),(some (25,true)),[28,29,25]⟩,mB 31 30 25,dg 32 31 25,⟨some 33,.call 74 [(.t 26),(.t 32)],(some (25,true)),[26,32,25]⟩,vg 34 33 25,c3 35 25 34])
 (.cond (.t 35)
 (.ag [aa 36 2,kU 37 3,aG 38 37,aa 39 7,vj 40 38 39,cO 41 40,aG 42 41,oy 43 42,iC 44 36 43,aa 2 44])
 (.skip))))
 (.ag [aa 16 7,fK 17 16,aa 7 17]))
def L2:bK:=
 .seq (.seq (.ag [aa 80 9,eQ 81 3,aG 82 81,dQ 83 82,jo 84 83,gn 85 80 84])
 (.cond (.t 85)
 (.skip)
 (.exit 3)))
 (.seq (.block 4 (.ag [aa 88 8,eQ 89 3,aG 90 89,aa 91 9,j6 92 90 91,e' 93 92,aG 94 93,oy 95 94,iC 96 88 95,aa 8 96]))
 (.ag [aa 86 9,fK 87 86,aa 9 87]))
def FK:bK:=
 .seq (.seq (.ag [aa 97 10,eQ 98 3,aG 99 98,dQ 100 99,gn 101 97 100])
 (.cond (.t 101)
 (.skip)
 (.exit 5)))
 (.seq (.block 6 (.ag [eQ 104 3,aG 105 104,aa 106 10,j6 107 105 106,dc 108 107,aa 109 8,aa 110 2,EZ 111 108 109 110,aa 2 111]))
 (.ag [aa 102 10,fK 103 102,aa 10 103]))
def L0:bK:=
 .seq (.ag [eo 3 0,jX 6])
 (.seq (.seq (.ag [fg 7])
 (.block 0 (.loop L1)))
 (.seq (.ag [⟨some 45,.h9 0 1 [(.int .i64 0)] [],none,[]⟩,aa 46 1,iC 47 45 46,aa 8 47])
 (.seq (.seq (.ag [eP 48 3,aG 49 48])
 (.block 2 (.seq (.seq (.ag [nF 51 49,aa 50 51])
 (.cond (.t 50)
 (.skip)
 (.ag [vk 52 49,aa 50 52])))
 (.cond (.t 50)
 (.seq (.ag [eQ 53 3,aG 54 53,tN 55 54,dc 56 55,aa 57 1,aa 58 2,EZ 59 56 57 58,aa 2 59])
 (.seq (.draw [eQ 60 3,aG 61 60,y5 62 61,dc 63 62,aa 64 8,cO 65 3,aG 66 65,oy 67 66,aa 69 2,iC 68 64 67,EZ 70 63 68 69,aa 6 70] [(1,[9,10]),(3,[9,10]),(6,[9])])
 (.ret)))
 (.seq (.ag [xc 72 49,aa 71 72])
 (.cond (.t 71)
 (.ag [aa 73 8,cO 74 3,aG 75 74,oy 76 75,iC 77 73 76,aa 8 77])
 (.seq (.ag [xd 79 49,aa 78 79])
 (.cond (.t 78)
 (.seq (.ag [fg 9])
 (.block 3 (.loop L2)))
 (.skip)))))))))
 (.seq (.seq (.ag [fg 10])
 (.block 5 (.loop FK)))
 (.seq (.ag [aa 112 2,aa 6 112])
 (.ret))))))
theorem Ut:cz 54 113 [.t 6] L0:=cA Tryz.func54 (by kernel_rfl) (by kernel_rfl) rfl (by kernel_rfl) (by kernel_rfl)
def Mh:bK:=
 .seq (.ag [eo 5 0,e9 10])
 (.seq (.ag [aa 11 1,aa 12 11,⟨some 13,.cX 1 (.t 5),(some (12,false)),[5,12]⟩,gK 14 13 12,E0 15 14 12,g6 16 12 15,aa 17 16,ep 18 2 17,ep 19 18 17,w_ 20 5 19,gK 21 20 19,E0 22 21 19,vh 23 19 22 17,c3 24 17 23,aa 25 24,ep 26 3 25,ep 27 26 25,BH 28 5 27,gK 29 28 27,⟨some 30,.bin (.str .eql) (.t 29) (.c (.str [])),(some (27,false)),[29,27]⟩,vh 31 27 30 25,c3 32 25 31,aa 33 32,ep 34 4 33,ep 35 34 33,BI 36 5 35,gK 37 36 35,m5 38 37 35,E0 39 38 35,vh 40 35 39 33,c3 41 33 40,aa 10 41])
 (.ret))
theorem UE:cz 69 42 [.t 10] Mh:=cA Tryz.func69 (by kernel_rfl) (by kernel_rfl) rfl (by kernel_rfl) (by kernel_rfl)
def Mi:bK:=
 .seq (.ag [eo 2 0,e9 4])
 (.seq (.ag [eP 5 2,aG 6 5,xc 7 6,aa 8 7,ow 9 2 8,ep 10 1 8,⟨some 11,.call 69 [(.t 9),(.c (.bool true)),(.t 10),(.c (.bool false)),(.c (.bool false))],(some (8,true)),[9,10,8]⟩,c3 12 8 11,aa 13 12,mB 14 2 13,dg 15 14 13,BQ 16 15 13,c3 17 13 16,aa 18 17,ep 19 1 18,vg 20 19 18,ep 21 20 18,w_ 22 2 21,gK 23 22 21,⟨some 24,.call 130 [(.t 23)],(some (21,false)),[23,21]⟩,vh 25 21 24 18,c3 26 18 25,aa 27 26,nE 28 2 27,dg 29 28 27,tL 30 29 27,tM 31 30 27,c3 32 27 31,aa 33 32,⟨some 34,.cX 6 (.t 2),(some (33,true)),[2,33]⟩,dg 35 34 33,tL 36 35 33,y6 37 36 33,c3 38 33 37,aa 4 38])
 (.ret))
theorem UF:cz 70 39 [.t 4] Mi:=cA Tryz.func70 (by kernel_rfl) (by kernel_rfl) rfl (by kernel_rfl) (by kernel_rfl)
def Mj:bK:=
 .seq (.ag [eo 1 0,e9 2])
 (.seq (.ag [eQ 5 1,aG 6 5,dQ 7 6,aa 3 7])
 (.seq (.seq (.ag [eP 8 1,aG 9 8])
 (.block 0 (.seq (.seq (.ag [ox 11 9,aa 10 11])
 (.cond (.t 10)
 (.skip)
 (.ag [E1 12 9,aa 10 12])))
 (.cond (.t 10)
 (.seq (.ag [dc 13 1,EY 14 13,aa 15 14,nE 16 1 15,dg 17 16 15,E2 18 17 15,c3 19 15 18,aa 20 19,ep 21 3 20,tM 22 21 20,c3 23 20 22,aa 2 23])
 (.ret))
 (.seq (.seq (.ag [nF 25 9,aa 24 25])
 (.cond (.t 24)
 (.skip)
 (.ag [vk 26 9,aa 24 26])))
 (.cond (.t 24)
 (.seq (.ag [dc 27 1,⟨some 28,.call 69 [(.t 27),(.c (.bool true)),(.c (.bool false)),(.c (.bool false)),(.c (.bool false))],none,[27]⟩,aa 29 28,mB 30 1 29,dg 31 30 29,BQ 32 31 29,c3 33 29 32,aa 34 33,nE 35 1 34,dg 36 35 34,tL 37 36 34,tM 38 37 34,c3 39 34 38,aa 40 39,ep 41 3 40,BM 42 41 40,c3 43 40 42,aa 2 43])
 (.ret))
 (.seq (.ag [xb 45 9,aa 44 45])
 (.cond (.t 44)
 (.seq (.draw [dc 46 1,⟨some 47,.call 69 [(.t 46),(.c (.bool false)),(.c (.bool false)),(.c (.bool true)),(.c (.bool false))],none,[46]⟩,aa 48 47,tK 49 1 48,dg 50 49 48,⟨some 51,.call 132 [(.t 50)],(some (48,true)),[50,48]⟩,⟨some 52,.bin (.int .gtr) (.t 51) (.c (.int .i64 0)),(some (48,true)),[51,48]⟩,c3 53 48 52,aa 54 53,nE 55 1 54,dg 56 55 54,tK 57 1 54,dg 58 57 54,⟨some 59,.call 132 [(.t 58)],(some (54,true)),[58,54]⟩,⟨some 60,.call 131 [(.t 56),(.t 59)],(some (54,true)),[56,59,54]⟩,c3 61 54 60,aa 62 61,ep 63 3 62,tM 64 63 62,c3 65 62 64,aa 2 65] [(0,[1]),(4,[5]),(10,[13,14]),(12,[13])])
 (.ret))
 (.seq (.ag [BR 67 9,aa 66 67])
 (.cond (.t 66)
 (.seq (.ag [dc 68 1,JO 69 68,aa 70 69,m6 71 1 70,dg 72 71 70,BQ 73 72 70,c3 74 70 73,aa 75 74,nE 76 1 75,dg 77 76 75,tL 78 77 75,⟨some 79,.bin (.int .leq) (.t 78) (.c (.int .i64 1024)),(some (75,true)),[78,75]⟩,c3 80 75 79,aa 81 80,nE 82 1 81,dg 83 82 81,nE 84 1 81,dg 85 84 81,tL 86 85 81,⟨some 87,.call 131 [(.t 83),(.t 86)],(some (81,true)),[83,86,81]⟩,c3 88 81 87,aa 89 88,ep 90 3 89,tM 91 90 89,c3 92 89 91,aa 2 92])
 (.ret))
 (.seq (.ag [BK 94 9,aa 93 94])
 (.cond (.t 93)
 (.seq (.ag [dc 95 1,JO 96 95,aa 97 96,m6 98 1 97,dg 99 98 97,BS 100 99 97,c3 101 97 100,aa 102 101,m6 103 1 102,dg 104 103 102,⟨some 105,.bin (.int .lss) (.t 104) (.c (.int .i64 1024)),(some (102,true)),[104,102]⟩,c3 106 102 105,aa 107 106,nE 108 1 107,dg 109 108 107,E2 110 109 107,c3 111 107 110,aa 112 111,ep 113 3 112,tM 114 113 112,c3 115 112 114,aa 2 115])
 (.ret))
 (.seq (.ag [E3 117 9,aa 116 117])
 (.cond (.t 116)
 (.seq (.ag [dc 118 1,EY 119 118,aa 120 119,nE 121 1 120,dg 122 121 120,⟨some 123,.call 131 [(.t 122),(.c (.int .i64 2))],(some (120,true)),[122,120]⟩,c3 124 120 123,aa 125 124,ep 126 3 125,tM 127 126 125,c3 128 125 127,aa 2 128])
 (.ret))
 (.seq (.seq (.ag [E4 130 9,aa 129 130])
 (.cond (.t 129)
 (.skip)
 (.ag [y2 131 9,aa 129 131])))
 (.cond (.t 129)
 (.seq (.ag [aa 132 3,⟨some 133,.bin (.int .geq) (.t 132) (.c (.int .i64 1)),none,[132]⟩,aa 134 133,ep 135 3 134,⟨some 136,.cX 5 (.t 1),(some (134,true)),[1,134]⟩,dg 137 136 134,tL 138 137 134,xh 139 135 138 134,ep 140 139 134,hj 141 3 140,BI 142 1 140,gK 143 142 140,m5 144 143 140,⟨some 145,.bin (.int .add) (.t 144) (.c (.int .i64 1)),(some (140,false)),[144,140]⟩,⟨some 146,.bin (.int .eql) (.t 141) (.t 145),(some (140,false)),[141,145,140]⟩,vh 147 140 146 134,c3 148 134 147,aa 4 148])
 (.seq (.ag [dc 149 1,⟨some 150,.call 69 [(.t 149),(.c (.bool false)),(.c (.bool false)),(.c (.bool false)),(.c (.bool true))],none,[149]⟩,aa 151 150,nE 152 1 151,dg 153 152 151,E2 154 153 151,c3 155 151 154,aa 156 155,⟨some 157,.cX 5 (.t 1),(some (156,true)),[1,156]⟩,dg 158 157 156,BL 159 1 156,dg 160 159 156,⟨some 161,.bin (.int .eql) (.t 160) (.c (.int .i64 10)),(some (156,true)),[160,156]⟩,⟨some 162,.call 133 [(.t 158),(.t 161)],(some (156,true)),[158,161,156]⟩,c3 163 156 162,aa 164 163,ep 165 4 164,c3 166 164 165,aa 2 166])
 (.ret)))
 (.skip)))))))))))))))))
 (.seq (.ag [e9 2])
 (.ret))))
theorem UG:cz 71 167 [.t 2] Mj:=cA Tryz.func71 (by kernel_rfl) (by kernel_rfl) rfl (by kernel_rfl) (by kernel_rfl)
def Ml:bK:=
 .seq (.seq (.ag [aa 6 5,aa 7 0,dQ 8 7,gn 9 6 8])
 (.cond (.t 9)
 (.skip)
 (.exit 0)))
 (.seq (.block 1 (.seq (.ag [aa 12 0,aa 13 5,iB 14 12 13,aG 15 14,aa 16 1,pq 17 15 16])
 (.cond (.t 17)
 (.seq (.ag [m7 4])
 (.ret))
 (.skip))))
 (.ag [aa 10 5,fK 11 10,aa 5 11]))
def Mk:bK:=
 .seq (.ag [e9 4])
 (.seq (.seq (.ag [fg 5])
 (.block 0 (.loop Ml)))
 (.seq (.ag [e9 4])
 (.ret)))
theorem UH:cz 74 18 [.t 4] Mk:=cA Tryz.func74 (by kernel_rfl) (by kernel_rfl) rfl (by kernel_rfl) (by kernel_rfl)
def Mn:bK:=
 .seq (.seq (.ag [aa 6 5,aa 7 0,dQ 8 7,gn 9 6 8])
 (.cond (.t 9)
 (.skip)
 (.exit 0)))
 (.seq (.block 1 (.seq (.ag [aa 12 0,aa 13 5,iB 14 12 13,aG 15 14,aa 16 1,pq 17 15 16])
 (.cond (.t 17)
 (.seq (.ag [aa 18 5,aa 4 18])
 (.ret))
 (.skip))))
 (.ag [aa 10 5,fK 11 10,aa 5 11]))
def Mm:bK:=
 .seq (.ag [fg 4])
 (.seq (.seq (.ag [fg 5])
 (.block 0 (.loop Mn)))
 (.seq (.ag [⟨some 4,.gu (.c (.int .i64 (-1))),none,[]⟩])
 (.ret)))
theorem UI:cz 76 19 [.t 4] Mm:=cA Tryz.func76 (by kernel_rfl) (by kernel_rfl) rfl (by kernel_rfl) (by kernel_rfl)
def K7:bK:=
 .seq (.ag [e9 2])
 (.seq (.ag [aa 3 0,y1 4 3,aa 5 4,ep 6 0 5,EU 7 6 5,c3 8 5 7,aa 2 8])
 (.ret))
theorem TQ:cz 130 9 [.t 2] K7:=cA Tryz.func130 (by kernel_rfl) (by kernel_rfl) rfl (by kernel_rfl) (by kernel_rfl)
def K9:bK:=
 .seq (.seq (.ag [aa 6 5,aa 7 0,dQ 8 7,gn 9 6 8])
 (.cond (.t 9)
 (.skip)
 (.exit 0)))
 (.seq (.block 1 (.seq (.ag [aa 12 0,aa 13 5,vj 14 12 13,lx 15 14,⟨some 16,.call 162 [(.t 15)],none,[15]⟩,gD 17 16])
 (.cond (.t 17)
 (.seq (.ag [e9 4])
 (.ret))
 (.skip))))
 (.ag [aa 10 5,fK 11 10,aa 5 11]))
def K8:bK:=
 .seq (.ag [e9 4])
 (.seq (.seq (.ag [fg 5])
 (.block 0 (.loop K9)))
 (.seq (.ag [aa 18 0,dQ 19 18,aa 20 1,pq 21 19 20,aa 4 21])
 (.ret)))
theorem TR:cz 131 22 [.t 4] K8:=cA Tryz.func131 (by kernel_rfl) (by kernel_rfl) rfl (by kernel_rfl) (by kernel_rfl)
def K':bK:=
 .seq (.ag [fg 2])
 (.seq (.seq (.ag [aa 3 0])
 (.block 0 (.seq (.seq (.ag [⟨some 5,.bin (.str .eql) (.t 3) (.c (.str [97,100,100])),none,[3]⟩,aa 4 5])
 (.cond (.t 4)
 (.skip)
 (.seq (.ag [⟨some 6,.bin (.str .eql) (.t 3) (.c (.str [115,117,98])),none,[3]⟩,aa 4 6])
 (.cond (.t 4)
 (.skip)
 (.seq (.ag [⟨some 7,.bin (.str .eql) (.t 3) (.c (.str [109,117,108])),none,[3]⟩,aa 4 7])
 (.cond (.t 4)
 (.skip)
 (.seq (.ag [⟨some 8,.bin (.str .eql) (.t 3) (.c (.str [100,105,118])),none,[3]⟩,aa 4 8])
 (.cond (.t 4)
 (.skip)
 (.seq (.ag [⟨some 9,.bin (.str .eql) (.t 3) (.c (.str [109,111,100])),none,[3]⟩,aa 4 9])
 (.cond (.t 4)
 (.skip)
 (.seq (.ag [⟨some 10,.bin (.str .eql) (.t 3) (.c (.str [101,113])),none,[3]⟩,aa 4 10])
 (.cond (.t 4)
 (.skip)
 (.seq (.ag [⟨some 11,.bin (.str .eql) (.t 3) (.c (.str [108,116])),none,[3]⟩,aa 4 11])
 (.cond (.t 4)
 (.skip)
 (.seq (.ag [⟨some 12,.bin (.str .eql) (.t 3) (.c (.str [108,101])),none,[3]⟩,aa 4 12])
 (.cond (.t 4)
 (.skip)
 (.seq (.ag [y7 13 3,aa 4 13])
 (.cond (.t 4)
 (.skip)
 (.seq (.ag [y8 14 3,aa 4 14])
 (.cond (.t 4)
 (.skip)
 (.ag [E5 15 3,aa 4 15])))))))))))))))))))))
 (.cond (.t 4)
 (.seq (.ag [⟨some 2,.gu (.c (.int .i64 2)),none,[]⟩])
 (.ret))
 (.seq (.seq (.ag [BT 17 3,aa 16 17])
 (.cond (.t 16)
 (.skip)
 (.seq (.ag [BU 18 3,aa 16 18])
 (.cond (.t 16)
 (.skip)
 (.seq (.ag [BV 19 3,aa 16 19])
 (.cond (.t 16)
 (.skip)
 (.seq (.ag [BW 20 3,aa 16 20])
 (.cond (.t 16)
 (.skip)
 (.seq (.ag [BX 21 3,aa 16 21])
 (.cond (.t 16)
 (.skip)
 (.ag [BY 22 3,aa 16 22])))))))))))
 (.cond (.t 16)
 (.seq (.ag [BJ 2])
 (.ret))
 (.seq (.ag [y9 24 3,aa 23 24])
 (.cond (.t 23)
 (.seq (.ag [⟨some 2,.gu (.c (.int .i64 3)),none,[]⟩])
 (.ret))
 (.skip)))))))))
 (.seq (.ag [fg 2])
 (.ret)))
theorem TS:cz 132 25 [.t 2] K':=cA Tryz.func132 (by kernel_rfl) (by kernel_rfl) rfl (by kernel_rfl) (by kernel_rfl)
def FF:bK:=
 .seq (.seq (.ag [aa 34 6,aa 35 5,gn 36 34 35])
 (.cond (.t 36)
 (.skip)
 (.exit 2)))
 (.seq (.block 3 (.seq (.draw [aa 39 0,aa 40 6,iB 41 39 40,aG 42 41,aa 43 0,aa 44 5,iB 45 43 44,aG 46 45,pq 47 42 46] [])
 (.cond (.t 47)
 (.seq (.ag [e9 4])
 (.ret))
 (.skip))))
 (.ag [aa 37 6,fK 38 37,aa 6 38]))
def La:bK:=
 .seq (.seq (.ag [aa 7 5,aa 8 0,dQ 9 8,gn 10 7 9])
 (.cond (.t 10)
 (.skip)
 (.exit 0)))
 (.seq (.block 1 (.seq (.seq (.ag [aa 13 1,aa 14 13,ep 15 0 14,ep 16 5 14,xi 17 15 16 14,dg 18 17 14,⟨some 19,.call 163 [(.t 18)],(some (14,true)),[18,14]⟩,vg 20 19 14,c3 21 14 20,aa 22 21,hj 23 1 22,BF 24 23 22,hj 25 24 22,ep 26 0 25,ep 27 5 25,xi 28 26 27 25,dg 29 28 25,BQ 30 29 25,vg 31 30 25,⟨some 32,.pick (.t 25) (.t 31) (.c (.bool false)),(some (22,false)),[25,31,22]⟩,g6 33 22 32])
 (.cond (.t 33)
 (.seq (.ag [e9 4])
 (.ret))
 (.skip)))
 (.seq (.ag [fg 6])
 (.block 2 (.loop FF)))))
 (.ag [aa 11 5,fK 12 11,aa 5 12]))
def K_:bK:=
 .seq (.ag [e9 4])
 (.seq (.seq (.ag [fg 5])
 (.block 0 (.loop La)))
 (.seq (.ag [m7 4])
 (.ret)))
theorem TT:cz 133 48 [.t 4] K_:=cA Tryz.func133 (by kernel_rfl) (by kernel_rfl) rfl (by kernel_rfl) (by kernel_rfl)
def Lu:bK:=
 .seq (.ag [eo 1 0,e9 2])
 (.seq (.seq (.ag [eP 3 1,aG 4 3])
 (.block 0 (.seq (.ag [ox 6 4,aa 5 6])
 (.cond (.t 5)
 (.seq (.ag [cO 7 1,aG 8 7,⟨some 9,.call 130 [(.t 8)],none,[8]⟩,aa 10 9,m6 11 1 10,dg 12 11 10,BO 13 12 10,c3 14 10 13,aa 2 14])
 (.ret))
 (.seq (.ag [nF 16 4,aa 15 16])
 (.cond (.t 15)
 (.seq (.ag [cO 17 1,aG 18 17,⟨some 19,.call 163 [(.t 18)],none,[18]⟩,aa 20 19,m6 21 1 20,dg 22 21 20,BO 23 22 20,c3 24 20 23,aa 2 24])
 (.ret))
 (.seq (.ag [xb 26 4,aa 25 26])
 (.cond (.t 25)
 (.seq (.ag [cO 27 1,aG 28 27,y3 29 28,aa 30 29,m6 31 1 30,dg 32 31 30,xg 33 32 30,EX 34 33 30,c3 35 30 34,aa 2 35])
 (.ret))
 (.skip)))))))))
 (.seq (.ag [e9 2])
 (.ret)))
theorem T9:cz 162 36 [.t 2] Lu:=cA Tryz.func162 (by kernel_rfl) (by kernel_rfl) rfl (by kernel_rfl) (by kernel_rfl)
def Lv:bK:=
 .seq (.ag [e9 2])
 (.seq (.ag [aa 3 0,EV 4 3,aa 5 4,ep 6 0 5,EW 7 6 5,c3 8 5 7,aa 2 8])
 (.ret))
theorem T':cz 163 9 [.t 2] Lv:=cA Tryz.func163 (by kernel_rfl) (by kernel_rfl) rfl (by kernel_rfl) (by kernel_rfl)
end Go.Proofs.YtjbiefneffiogaaGreat
