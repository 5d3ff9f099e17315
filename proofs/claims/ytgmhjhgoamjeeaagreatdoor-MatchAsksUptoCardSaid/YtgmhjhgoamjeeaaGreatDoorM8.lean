/- The chapter's functions, walked by the abstract machine: plain lemmas, no condition. Printed by a program from longer texts: names made short. -/
import Derived.Test.YtgmhjhgoamjeeaaGreatDoorM6
import Derived.Test.YtgmhjhgoamjeeaaGreatDoorM7
set_option linter.unusedSectionVars false
set_option linter.unusedSimpArgs false
set_option linter.unusedVariables false
set_option maxHeartbeats 64000000
noncomputable section
namespace Go.Proofs.YtgmhjhgoamjeeaaGreatDoor
section
open Go aZ
abbrev ad (d a6:Nat):bs:=⟨some d,.cq (.t a6),none,[a6]⟩
abbrev bD (d a6:Nat):bs:=⟨some d,.dS (.t a6),none,[a6]⟩
abbrev dm (d:Nat):bs:=⟨some d,.cq (.c (.bool false)),none,[]⟩
abbrev dw (d:Nat):bs:=⟨some d,.cq (.c (.int .i64 0)),none,[]⟩
abbrev dE (d a6:Nat):bs:=⟨some d,.len .slice (.t a6),none,[a6]⟩
abbrev dO (d a6:Nat):bs:=⟨some d,.s9 (.t a6),none,[a6]⟩
abbrev dU (d a6:Nat):bs:=⟨some d,.er 0 (.t a6),none,[a6]⟩
abbrev ea (d a6 bB:Nat):bs:=⟨some d,.pick (.t a6) (.c (.bool true)) (.t bB),none,[a6,bB]⟩
abbrev ee (d a6 bB:Nat):bs:=⟨some d,.cq (.t a6),(some (bB,false)),[a6,bB]⟩
abbrev ef (d a6:Nat):bs:=⟨some d,.er 1 (.t a6),none,[a6]⟩
abbrev eh (d a6:Nat):bs:=⟨some d,.bin (.int .add) (.t a6) (.c (.int .i64 1)),none,[a6]⟩
abbrev eo (d a6 bB:Nat):bs:=⟨some d,.cq (.t a6),(some (bB,true)),[a6,bB]⟩
abbrev ez (d a6:Nat):bs:=⟨some d,.hJ 5 (.t a6),none,[a6]⟩
abbrev eS (d a6 bB:Nat):bs:=⟨some d,.bin (.int .lss) (.t a6) (.t bB),none,[a6,bB]⟩
abbrev ft (d a6 bB:Nat):bs:=⟨some d,.pick (.t a6) (.t bB) (.c (.bool false)),none,[a6,bB]⟩
abbrev fD (d a6 bB:Nat):bs:=⟨some d,.bW 5 (.t a6) (.t bB),none,[a6,bB]⟩
abbrev fL (d a6 bB:Nat):bs:=⟨some d,.dS (.t a6),(some (bB,false)),[a6,bB]⟩
abbrev gf (d:Nat):bs:=⟨some d,.cq (.c .bu),none,[]⟩
abbrev hd (d a6:Nat):bs:=⟨some d,.box (.t a6),none,[a6]⟩
abbrev i' (d a6:Nat):bs:=⟨some d,.er 4 (.t a6),none,[a6]⟩
abbrev i_ (d a6:Nat):bs:=⟨some d,.er 3 (.t a6),none,[a6]⟩
abbrev j4 (d a6:Nat):bs:=⟨some d,.ext (.t a6) 0,none,[a6]⟩
abbrev j5 (d a6:Nat):bs:=⟨some d,.ext (.t a6) 1,none,[a6]⟩
abbrev kx (d a6:Nat):bs:=⟨some d,.un .not (.t a6),none,[a6]⟩
abbrev ky (d a6 bB:Nat):bs:=⟨some d,.dS (.t a6),(some (bB,true)),[a6,bB]⟩
abbrev k8 (d a6:Nat):bs:=⟨some d,.len .str (.t a6),none,[a6]⟩
abbrev lG (d a6:Nat):bs:=⟨some d,.er 2 (.t a6),none,[a6]⟩
abbrev mL (d:Nat):bs:=⟨some d,.cq (.c (.bool true)),none,[]⟩
abbrev nH (d a6 bB:Nat):bs:=⟨some d,.bW 1 (.t a6) (.t bB),none,[a6,bB]⟩
abbrev oA (d a6 bB:Nat):bs:=⟨some d,.un .not (.t a6),(some (bB,false)),[a6,bB]⟩
abbrev py (d a6 bB:Nat):bs:=⟨some d,.app 1 (.t a6) (.t bB),none,[a6,bB]⟩
abbrev qQ (d a6:Nat):bs:=⟨some d,.gq 1 5 [(.int .i64 0),(.int .i64 0),(.int .i64 0),(.str []),.bu] [(0,5,(.t a6))],none,[a6]⟩
abbrev qR (d a6 bB:Nat):bs:=⟨some d,.er 1 (.t a6),(some (bB,false)),[a6,bB]⟩
abbrev qS (d:Nat):bs:=⟨some d,.cq (.c (.int .i64 2)),none,[]⟩
abbrev qT (d:Nat):bs:=⟨some d,.new [(.int .i64 0),(.int .i64 0),(.int .i64 0),(.str []),.bu],none,[]⟩
abbrev r7 (d a6 bB:Nat):bs:=⟨some d,.bin (.str .eql) (.t a6) (.t bB),none,[a6,bB]⟩
abbrev r8 (d a6:Nat):bs:=⟨some d,.bin (.int .eql) (.t a6) (.c (.int .i64 0)),none,[a6]⟩
abbrev tI (d a6 bB:Nat):bs:=⟨some d,.er 0 (.t a6),(some (bB,false)),[a6,bB]⟩
abbrev tJ (d:Nat):bs:=⟨some d,.new [(.str []),(.str []),(.int .i64 0),(.int .i64 0),.bu],none,[]⟩
abbrev vl (d a6 bB:Nat):bs:=⟨some d,.bW 3 (.t a6) (.t bB),none,[a6,bB]⟩
abbrev vm (d a6 bB:Nat):bs:=⟨some d,.bin (.int .neq) (.t a6) (.t bB),none,[a6,bB]⟩
abbrev vn (d a6 bB:Nat):bs:=⟨some d,.len .slice (.t a6),(some (bB,false)),[a6,bB]⟩
abbrev vo (d a6 bB:Nat):bs:=⟨some d,.hJ 5 (.t a6),(some (bB,false)),[a6,bB]⟩
abbrev vp (d a6 bB eH:Nat):bs:=⟨some d,.bW 5 (.t a6) (.t bB),(some (eH,false)),[a6,bB,eH]⟩
abbrev vq (d a6 bB:Nat):bs:=⟨some d,.er 4 (.t a6),(some (bB,false)),[a6,bB]⟩
abbrev vr (d a6:Nat):bs:=⟨some d,.bin (.int .eql) (.t a6) (.c (.int .i64 1)),none,[a6]⟩
abbrev vs (d a6 bB:Nat):bs:=⟨some d,.bin (.int .sub) (.t a6) (.t bB),none,[a6,bB]⟩
abbrev vt (d a6:Nat):bs:=⟨some d,.bin (.int .eql) (.t a6) (.c (.int .i64 2)),none,[a6]⟩
abbrev xt (d a6 bB:Nat):bs:=⟨some d,.er 2 (.t a6),(some (bB,false)),[a6,bB]⟩
abbrev xu (d a6:Nat):bs:=⟨some d,.gq 1 3 [.bu,(.bool false),(.int .i64 0)] [(0,3,(.t a6))],none,[a6]⟩
abbrev xv (d a6 bB:Nat):bs:=⟨some d,.app 3 (.t a6) (.t bB),none,[a6,bB]⟩
abbrev xw (d:Nat):bs:=⟨some d,.cq (.c .km),none,[]⟩
abbrev xx (d a6:Nat):bs:=⟨some d,.bW 5 (.t a6) (.c (.int .i64 0)),none,[a6]⟩
abbrev xy (d a6 bB:Nat):bs:=⟨some d,.app 5 (.t a6) (.t bB),none,[a6,bB]⟩
abbrev xz (d a6 bB:Nat):bs:=⟨some d,.bin (.int .add) (.t a6) (.t bB),none,[a6,bB]⟩
abbrev xA (d a6 bB:Nat):bs:=⟨some d,.er 1 (.t a6),(some (bB,true)),[a6,bB]⟩
abbrev xB (d a6:Nat):bs:=⟨some d,.bin (.int .eql) (.t a6) (.c (.int .i64 3)),none,[a6]⟩
abbrev xC (d a6 bB:Nat):bs:=⟨some d,.bin (.int .geq) (.t a6) (.t bB),none,[a6,bB]⟩
abbrev xD (d a6 bB:Nat):bs:=⟨some d,.s9 (.t a6),(some (bB,true)),[a6,bB]⟩
abbrev zX (d a6:Nat):bs:=⟨some d,.bin (.int .eql) (.t a6) (.c (.int .i64 16)),none,[a6]⟩
abbrev zY (d a6 bB:Nat):bs:=⟨some d,.er 0 (.t a6),(some (bB,true)),[a6,bB]⟩
abbrev zZ (d a6:Nat):bs:=⟨some d,.hJ 4 (.t a6),none,[a6]⟩
abbrev z1 (d:Nat):bs:=⟨some d,.new [(.int .i64 0),(.int .i64 0),(.int .i64 0),(.str [])],none,[]⟩
abbrev CS (d a6 bB eH:Nat):bs:=⟨some d,.bin (.int .neq) (.t a6) (.t bB),(some (eH,false)),[a6,bB,eH]⟩
abbrev CT (d a6 bB eH:Nat):bs:=⟨some d,.bW 3 (.t a6) (.t bB),(some (eH,false)),[a6,bB,eH]⟩
abbrev CU (d a6 bB:Nat):bs:=⟨some d,.build [.bu,(.bool false),(.int .i64 0)] [(0,1,(.t a6)),(2,1,(.t bB))],none,[a6,bB]⟩
abbrev CV (d a6 bB:Nat):bs:=⟨some d,.mB (.t a6) (.t bB),none,[a6,bB]⟩
abbrev CW (d a6:Nat):bs:=⟨some d,.mB (.t a6) (.c (.int .i64 0)),none,[a6]⟩
abbrev CX (d a6:Nat):bs:=⟨some d,.bin (.int .eql) (.t a6) (.c (.int .i64 5)),none,[a6]⟩
abbrev CY (d a6 bB:Nat):bs:=⟨some d,.bin (.int .eql) (.t a6) (.c (.int .u8 95)),(some (bB,false)),[a6,bB]⟩
abbrev CZ (d a6:Nat):bs:=⟨some d,.bin (.int .eql) (.t a6) (.c (.int .i64 46)),none,[a6]⟩
abbrev C0 (d a6:Nat):bs:=⟨some d,.bin (.int .eql) (.t a6) (.c (.int .i64 47)),none,[a6]⟩
abbrev C1 (d a6:Nat):bs:=⟨some d,.bin (.int .eql) (.t a6) (.c (.int .i64 50)),none,[a6]⟩
abbrev C2 (d a6:Nat):bs:=⟨some d,.bin (.int .geq) (.t a6) (.c (.int .i64 0)),none,[a6]⟩
abbrev C3 (d a6 bB:Nat):bs:=⟨some d,.bW 4 (.t a6) (.c (.int .i64 0)),(some (bB,true)),[a6,bB]⟩
abbrev GQ (d a6:Nat):bs:=⟨some d,.bin (.int .neq) (.t a6) (.c (.int .i64 0)),none,[a6]⟩
abbrev GR (d a6:Nat):bs:=⟨some d,.bin (.int .lss) (.t a6) (.c (.int .i64 10)),none,[a6]⟩
abbrev GS (d a6 bB:Nat):bs:=⟨some d,.bin (.int .gtr) (.t a6) (.c (.int .i64 16)),(some (bB,false)),[a6,bB]⟩
abbrev GU (d a6 bB eH:Nat):bs:=⟨some d,.bW 5 (.t a6) (.t bB),(some (eH,true)),[a6,bB,eH]⟩
abbrev GV (d a6:Nat):bs:=⟨some d,.bin (.int .eql) (.t a6) (.c (.int .i64 12)),none,[a6]⟩
abbrev GW (d a6:Nat):bs:=⟨some d,.bin (.int .eql) (.t a6) (.c (.int .i64 14)),none,[a6]⟩
abbrev GX (d a6:Nat):bs:=⟨some d,.bin (.int .eql) (.t a6) (.c (.int .i64 11)),none,[a6]⟩
abbrev GY (d a6:Nat):bs:=⟨some d,.gq 1 1 [(.int .i64 0)] [(0,1,(.t a6))],none,[a6]⟩
abbrev GZ (d a6:Nat):bs:=⟨some d,.bin (.str .eql) (.t a6) (.c (.str [])),none,[a6]⟩
abbrev G0 (d a6:Nat):bs:=⟨some d,.bin (.int .eql) (.t a6) (.c (.int .i64 4)),none,[a6]⟩
abbrev G1 (d a6:Nat):bs:=⟨some d,.call 88 [(.t a6),(.c (.int .u8 97)),(.c (.int .u8 122))],none,[a6]⟩
abbrev G2 (d a6 bB eH:Nat):bs:=⟨some d,.bin (.int .leq) (.t a6) (.t bB),(some (eH,true)),[a6,bB,eH]⟩
abbrev G3 (d a6:Nat):bs:=⟨some d,.bin (.int .geq) (.t a6) (.c (.int .i64 1)),none,[a6]⟩
abbrev G4 (d a6:Nat):bs:=⟨some d,.bin (.int .eql) (.t a6) (.c (.int .i64 45)),none,[a6]⟩
abbrev G5 (d a6:Nat):bs:=⟨some d,.bin (.int .leq) (.t a6) (.c (.int .i64 1)),none,[a6]⟩
abbrev G6 (d a6:Nat):bs:=⟨some d,.bin (.int .sub) (.t a6) (.c (.int .i64 1)),none,[a6]⟩
abbrev G7 (d a6 bB:Nat):bs:=⟨some d,.looks 111 .bu false (.t a6) (.t bB),none,[a6,bB]⟩
abbrev G8 (d a6 bB:Nat):bs:=⟨some d,.rV (.t a6) (some (.t bB)) none none,none,[a6,bB]⟩
abbrev G9 (d:Nat):bs:=⟨some d,.build [(.int .i64 0),(.int .i64 0),(.int .i64 0),(.str [])] [],none,[]⟩
abbrev MJ (d a6 bB:Nat):bs:=⟨some d,.build [.bu,(.bool false),(.int .i64 0)] [(0,1,(.t a6)),(1,1,(.c (.bool true))),(2,1,(.t bB))],none,[a6,bB]⟩
abbrev MK (d a6 bB:Nat):bs:=⟨some d,.look .str (.agg [(.str []),(.str []),(.int .i64 0),(.int .i64 0),.bu]) false (.t a6) (.t bB),none,[a6,bB]⟩
abbrev ML (d a6 bB:Nat):bs:=⟨some d,.look .str (.agg [(.str []),(.str []),(.int .i64 0),(.int .i64 0),.bu]) true (.t a6) (.t bB),none,[a6,bB]⟩
abbrev MM (d:Nat):bs:=⟨some d,.gq 8 1 [(.str [])] [(0,1,(.c (.str [43]))),(1,1,(.c (.str [45]))),(2,1,(.c (.str [42]))),(3,1,(.c (.str [47]))),(4,1,(.c (.str [109,111,100]))),(5,1,(.c (.str [61]))),(6,1,(.c (.str [60]))),(7,1,(.c (.str [60,61])))],none,[]⟩
abbrev MN (d a6:Nat):bs:=⟨some d,.build [(.int .i64 0),(.int .i64 0),(.int .i64 0),(.str [])] [(0,1,(.c (.int .i64 7))),(3,1,(.t a6))],none,[a6]⟩
structure cH (f n:Nat) (fn:Func) (c:aX) (eG:List tO):Prop where
 aB:Tryz.prog.funcs[f]? =some fn
 oM:(fn.body,fn.ntmps,Nat.ble fn.ntmps top,Nat.beq f dv,eF Tryz.prog fn.ntmps (fn.body.getD .skip),om Tryz.prog fn.ntmps fn.results.toList,c.plain)=(some (fn.body.getD .skip),n,true,false,c,eG,true)
theorem cH.z {f n:Nat} {fn:Func} {c:aX} {eG:List tO} (Z:cH f n fn c eG) {args:List V} {h:ae} {K:V->ae->Prop} (ar:Nat.ble args.length n=true) (H:fm Tryz.prog c (bd.bT args) h fun e r aa=>e.ends/\∃af,lf r aa eG=some af/\K (oneOf af) aa):cv Tryz.prog f args h K:=by have q:=Z.oM;simp only [aqw] at q;obtain ⟨U,ab,aI,bq,cF,gu,gN⟩:=q;exact aaJ follows y2 Z.aB U aI bq (by rw [ab];exact ar) cF gu gN H
theorem cH.d {f n:Nat} {fn:Func} {c:aX} {eG:List tO} (Z:cH f n fn c eG) {args:List V} {h:ae} {v:Bool} (ar:Nat.ble args.length n=true) (H:fT Tryz.prog c (bd.bT args) h fun e r aa=>e.ends/\Ext h aa/\lf r aa eG=some [.bool v]):eZ Tryz.prog f args h (.bool v) h:=by have q:=Z.oM;simp only [aqw] at q;obtain ⟨U,ab,aI,bq,cF,gu,gN⟩:=q;exact aaH follows y2 Z.aB U aI bq (by rw [ab];exact ar) cF gu gN H
def Ot:aX:=
 .seq (.seq (.ak [ad 59 12,ad 60 5,ad 61 11,vl 62 60 61,dU 63 62,bD 64 63,dE 65 64,eS 66 59 65])
 (.cond (.t 66)
 (.skip)
 (.exit 2)))
 (.seq (.block 3 (.ak [ad 69 5,ad 70 11,vl 71 69 70,dU 72 71,bD 73 72,ad 74 12,nH 75 73 74,⟨none,.st 1 (.t 75) (.c (.int .i64 77)),none,[75]⟩]))
 (.ak [ad 67 12,eh 68 67,ad 12 68]))
def Ou:aX:=
 .seq (.seq (.ak [ad 53 11,ad 54 5,dE 55 54,eS 56 53 55])
 (.cond (.t 56)
 (.skip)
 (.exit 0)))
 (.seq (.block 1 (.seq (.seq (.ak [dw 12])
 (.block 2 (.loop Ot)))
 (.seq (.ak [ad 76 5,ad 77 11,vl 78 76 77,dU 79 78,bD 80 79,⟨some 81,.gq 1 1 [(.int .i64 0)] [(0,1,(.c (.int .i64 78)))],none,[]⟩,py 82 80 81,ad 13 82])
 (.seq (.ak [ad 83 13,dE 84 83,ad 85 7,ad 86 11,vl 87 85 86,dU 88 87,bD 89 88,dE 90 89,eh 91 90,vm 92 84 91])
 (.cond (.t 92)
 (.seq (.ak [dm 4])
 (.ret))
 (.skip))))))
 (.ak [ad 57 11,eh 58 57,ad 11 58]))
def c3:aX:=
 .seq (.ak [hd 3 1,dm 4])
 (.seq (.seq (.ak [ad 16 0,ez 17 3,qQ 18 17,⟨some 19,.build [(.int .i64 0),(.int .i64 0),.bu] [],none,[]⟩,⟨some 20,.call 7 [(.t 16),(.t 18),(.t 19)],none,[16,18,19]⟩])
 (.cond (.t 20)
 (.seq (.ak [⟨some 21,.call 8 [],none,[]⟩,ad 4 21])
 (.ret))
 (.skip)))
 (.seq (.ak [ad 23 0,ez 24 3,⟨some 25,.call 9 [(.t 23),(.t 24)],none,[23,24]⟩,ad 22 25,j4 26 22,j5 27 22,ad 5 26,ad 6 27])
 (.seq (.ak [ad 29 0,ez 30 3,⟨some 31,.call 10 [(.t 29),(.t 30)],none,[29,30]⟩,ad 28 31,j4 32 28,j5 33 28,ad 7 32,ad 8 33])
 (.seq (.draw [ez 34 3,ez 36 3,⟨some 35,.call 11 [(.t 34)],none,[34]⟩,⟨some 37,.call 12 [(.t 36)],none,[36]⟩,ad 9 35,ad 10 37] [(0,[2]),(1,[2,3])])
 (.seq (.seq (.ak [ad 38 5,ad 39 7,⟨some 40,.call 13 [(.t 38),(.t 39)],none,[38,39]⟩,kx 41 40,ad 42 41,ee 43 6 42,ee 44 8 42,CS 45 43 44 42,ea 46 42 45,ad 47 46,ee 48 9 47,ee 49 10 47,⟨some 50,.call 14 [(.t 48),(.t 49)],(some (47,false)),[48,49,47]⟩,oA 51 50 47,ea 52 47 51])
 (.cond (.t 52)
 (.seq (.ak [dm 4])
 (.ret))
 (.skip)))
 (.seq (.seq (.ak [dw 11])
 (.block 0 (.loop Ou)))
 (.seq (.ak [ad 94 0,ez 95 3,⟨some 96,.call 9 [(.t 94),(.t 95)],none,[94,95]⟩,ad 93 96,j4 97 93,j5 98 93,ad 14 97,ad 15 98])
 (.seq (.ak [ad 99 14,ad 100 7,⟨some 101,.call 13 [(.t 99),(.t 100)],none,[99,100]⟩,ad 102 101,⟨some 103,.hJ 5 (.t 3),(some (102,true)),[3,102]⟩,⟨some 104,.call 11 [(.t 103)],(some (102,true)),[103,102]⟩,eo 105 10 102,⟨some 106,.call 14 [(.t 104),(.t 105)],(some (102,true)),[104,105,102]⟩,ft 107 102 106,ad 108 107,⟨some 109,.call 8 [],(some (108,true)),[108]⟩,ft 110 108 109,ad 4 110])
 (.ret)))))))))
theorem Zf:cH 3 111 Tryz.f3 c3 [.t 4]:=⟨Tryz.func3,by kernel_rfl⟩
def AB:aX:=
 .seq (.ak [hd 5 2,dm 6])
 (.seq (.ak [ad 7 0,dE 8 7,⟨some 9,.bin (.int .gtr) (.t 8) (.c (.int .i64 12)),none,[8]⟩,ad 10 9,ee 11 1 10,vn 12 11 10,⟨some 13,.bin (.int .gtr) (.t 12) (.c (.int .i64 10)),(some (10,false)),[12,10]⟩,ea 14 10 13,ad 15 14,ee 16 1 15,⟨some 17,.call 32 [(.t 16),(.c (.int .i64 60))],(some (15,false)),[16,15]⟩,ea 18 15 17,ad 19 18,⟨some 20,.hJ 3 (.t 5),(some (19,false)),[5,19]⟩,⟨some 21,.call 33 [(.t 20),(.c (.int .i64 60))],(some (19,false)),[20,19]⟩,ea 22 19 21,ad 6 22])
 (.ret))
theorem ZC:cH 7 23 Tryz.f7 AB [.t 6]:=⟨Tryz.func7,by kernel_rfl⟩
def Pd:aX:=
 .seq (.ak [hd 3 1,gf 4,dw 5])
 (.seq (.seq (.ak [ad 7 0,ez 8 3,qQ 9 8,⟨some 10,.call 20 [(.t 7),(.t 9)],none,[7,9]⟩,ad 6 10])
 (.seq (.ak [ad 11 6,GQ 12 11])
 (.cond (.t 12)
 (.seq (.ak [ad 13 6,gf 4,ad 5 13])
 (.ret))
 (.skip))))
 (.seq (.draw [ad 14 0,ez 16 3,⟨some 15,.call 35 [(.t 14)],none,[14]⟩,⟨some 17,.call 34 [(.t 15),(.t 16)],none,[15,16]⟩,ad 4 17,dw 5] [(1,[2,3])])
 (.ret)))
theorem ZP:cH 9 18 Tryz.f9 Pd [.t 4,.t 5]:=⟨Tryz.func9,by kernel_rfl⟩
def NA:aX:=
 .seq (.ak [hd 3 1,gf 4,dw 5])
 (.seq (.ak [ad 7 0,ez 8 3,qQ 9 8,⟨some 10,.call 21 [(.t 7),(.t 9)],none,[7,9]⟩,ad 6 10])
 (.seq (.seq (.ak [ad 11 6,GQ 12 11])
 (.cond (.t 12)
 (.seq (.ak [ad 13 6,gf 4,ad 5 13])
 (.ret))
 (.skip)))
 (.seq (.ak [ad 14 0,ez 15 3,⟨some 16,.call 36 [(.t 14),(.t 15),(.c .bu),(.c .bu)],none,[14,15]⟩,ad 4 16,dw 5])
 (.ret))))
theorem YJ:cH 10 17 Tryz.f10 NA [.t 4,.t 5]:=⟨Tryz.func10,by kernel_rfl⟩
def oL:aX:=
 .seq (.ak [hd 1 0,gf 2])
 (.seq (.seq (.ak [ez 5 1,⟨some 6,.call 37 [(.t 5)],none,[5]⟩,kx 7 6])
 (.cond (.t 7)
 (.seq (.ak [gf 2])
 (.ret))
 (.skip)))
 (.seq (.ak [⟨some 3,.new [.bu],none,[]⟩])
 (.seq (.ak [⟨some 4,.new [.jB],none,[]⟩])
 (.seq (.ak [⟨some 8,.fn 38 [(.t 3),(.t 4)],none,[3,4]⟩,⟨none,.st 1 (.t 4) (.t 8),none,[4,8]⟩])
 (.seq (.ak [bD 9 4,ez 10 1,⟨some 11,.ma (.t 9) [(.t 10),(.c .bu)],none,[9,10]⟩])
 (.seq (.ak [bD 12 3,ad 2 12])
 (.ret)))))))
theorem YR:cH 11 13 Tryz.f11 oL [.t 2]:=⟨Tryz.func11,by kernel_rfl⟩
def lK:aX:=
 .seq (.ak [hd 1 0,gf 2])
 (.seq (.seq (.ak [dU 3 1,bD 4 3,GR 5 4,ad 6 5,tI 7 1 6,fL 8 7 6,GS 9 8 6,ea 10 6 9,ad 11 10,vo 12 1 11,⟨some 13,.call 40 [(.t 12)],(some (11,false)),[12,11]⟩,oA 14 13 11,ea 15 11 14])
 (.cond (.t 15)
 (.seq (.ak [gf 2])
 (.ret))
 (.skip)))
 (.seq (.ak [ez 16 1,⟨some 17,.call 41 [(.t 16),(.c .bu),(.c .bu)],none,[16]⟩,ad 2 17])
 (.ret)))
theorem Y0:cH 12 18 Tryz.f12 lK [.t 2]:=⟨Tryz.func12,by kernel_rfl⟩
def Oa:aX:=
 .seq (.seq (.ak [ad 11 5,ad 12 0,dE 13 12,eS 14 11 13])
 (.cond (.t 14)
 (.skip)
 (.exit 0)))
 (.seq (.block 1 (.seq (.draw [ad 17 0,ad 18 5,vl 19 17 18,ef 20 19,bD 21 20,ad 22 1,ad 23 5,vl 24 22 23,ef 25 24,bD 26 25,⟨some 27,.bin (.x2 true) (.t 21) (.t 26),none,[21,26]⟩,ad 28 27,ee 29 0 28,ee 30 5 28,CT 31 29 30 28,xt 32 31 28,fL 33 32 28,ee 34 1 28,ee 35 5 28,CT 36 34 35 28,xt 37 36 28,fL 38 37 28,CS 39 33 38 28,ea 40 28 39,ad 41 40,ee 42 0 41,ee 43 5 41,CT 44 42 43 41,tI 45 44 41,fL 46 45 41,ee 47 1 41,ee 48 5 41,CT 49 47 48 41,tI 50 49 41,fL 51 50 41,⟨some 52,.call 42 [(.t 46),(.t 51)],(some (41,false)),[46,51,41]⟩,oA 53 52 41,ea 54 41 53] [(4,[35]),(9,[35]),(16,[35]),(21,[35]),(29,[35]),(34,[35])])
 (.cond (.t 54)
 (.seq (.ak [dm 4])
 (.ret))
 (.skip))))
 (.ak [ad 15 5,eh 16 15,ad 5 16]))
def N7:aX:=
 .seq (.ak [dm 4])
 (.seq (.seq (.ak [ad 6 0,dE 7 6,ad 8 1,dE 9 8,vm 10 7 9])
 (.cond (.t 10)
 (.seq (.ak [dm 4])
 (.ret))
 (.skip)))
 (.seq (.seq (.ak [dw 5])
 (.block 0 (.loop Oa)))
 (.seq (.ak [mL 4])
 (.ret))))
theorem Y4:cH 13 55 Tryz.f13 N7 [.t 4]:=⟨Tryz.func13,by kernel_rfl⟩
def Ob:aX:=
 .seq (.seq (.ak [ad 11 5,ad 12 0,dE 13 12,eS 14 11 13])
 (.cond (.t 14)
 (.skip)
 (.exit 0)))
 (.seq (.block 1 (.seq (.draw [ad 17 0,ad 18 5,⟨some 19,.bW 2 (.t 17) (.t 18),none,[17,18]⟩,dU 20 19,bD 21 20,ad 22 1,ad 23 5,⟨some 24,.bW 2 (.t 22) (.t 23),none,[22,23]⟩,dU 25 24,bD 26 25,⟨some 27,.bin (.str .neq) (.t 21) (.t 26),none,[21,26]⟩,ad 28 27,ee 29 0 28,ee 30 5 28,⟨some 31,.bW 2 (.t 29) (.t 30),(some (28,false)),[29,30,28]⟩,qR 32 31 28,fL 33 32 28,ee 34 1 28,ee 35 5 28,⟨some 36,.bW 2 (.t 34) (.t 35),(some (28,false)),[34,35,28]⟩,qR 37 36 28,fL 38 37 28,⟨some 39,.call 42 [(.t 33),(.t 38)],(some (28,false)),[33,38,28]⟩,oA 40 39 28,ea 41 28 40] [(4,[22]),(9,[22]),(16,[22]),(21,[22])])
 (.cond (.t 41)
 (.seq (.ak [dm 4])
 (.ret))
 (.skip))))
 (.ak [ad 15 5,eh 16 15,ad 5 16]))
def mU:aX:=
 .seq (.ak [dm 4])
 (.seq (.seq (.ak [ad 6 0,dE 7 6,ad 8 1,dE 9 8,vm 10 7 9])
 (.cond (.t 10)
 (.seq (.ak [dm 4])
 (.ret))
 (.skip)))
 (.seq (.seq (.ak [dw 5])
 (.block 0 (.loop Ob)))
 (.seq (.ak [mL 4])
 (.ret))))
theorem Y5:cH 14 42 Tryz.f14 mU [.t 4]:=⟨Tryz.func14,by kernel_rfl⟩
def Oc:aX:=
 .seq (.ak [dw 4])
 (.seq (.ak [ad 8 0,ad 9 1,⟨some 10,.call 46 [(.t 8),(.t 9)],none,[8,9]⟩,ad 7 10,j4 11 7,j5 12 7,ad 5 11,ad 6 12])
 (.seq (.ak [ad 13 6,ad 4 13])
 (.ret)))
theorem Y6:cH 20 14 Tryz.f20 Oc [.t 4]:=⟨Tryz.func20,by kernel_rfl⟩
def Od:aX:=
 .seq (.seq (.ak [ad 30 6,ad 31 5,eS 32 30 31])
 (.cond (.t 32)
 (.skip)
 (.exit 2)))
 (.seq (.block 3 (.seq (.draw [ad 35 0,ad 36 6,fD 37 35 36,dU 38 37,bD 39 38,ad 40 0,ad 41 5,fD 42 40 41,dU 43 42,bD 44 43,r7 45 39 44,ad 46 45,ee 47 0 46,ee 48 6 46,vp 49 47 48 46,qR 50 49 46,fL 51 50 46,ee 52 0 46,ee 53 5 46,vp 54 52 53 46,qR 55 54 46,fL 56 55 46,⟨some 57,.bin (.str .eql) (.t 51) (.t 56),(some (46,false)),[51,56,46]⟩,ee 58 57 46,eo 59 0 58,eo 60 6 58,GU 61 59 60 58,⟨some 62,.er 2 (.t 61),(some (58,true)),[61,58]⟩,ky 63 62 58,eo 64 0 58,eo 65 5 58,GU 66 64 65 58,⟨some 67,.er 2 (.t 66),(some (58,true)),[66,58]⟩,ky 68 67 58,⟨some 69,.bin (.int .eql) (.t 63) (.t 68),(some (58,true)),[63,68,58]⟩,⟨some 70,.pick (.t 58) (.t 69) (.c (.bool false)),(some (46,false)),[58,69,46]⟩,ea 71 46 70] [])
 (.cond (.t 71)
 (.seq (.ak [qS 4])
 (.ret))
 (.skip))))
 (.ak [ad 33 6,eh 34 33,ad 6 34]))
def Oe:aX:=
 .seq (.seq (.ak [ad 8 5,ad 9 0,dE 10 9,eS 11 8 10])
 (.cond (.t 11)
 (.skip)
 (.exit 0)))
 (.seq (.block 1 (.seq (.seq (.ak [ad 14 0,ad 15 5,fD 16 14 15,dU 17 16,bD 18 17,⟨some 19,.call 51 [(.c (.int .i64 4)),(.t 18)],none,[18]⟩,kx 20 19,ad 21 20,ee 22 0 21,ee 23 5 21,vp 24 22 23 21,vq 25 24 21,fL 26 25 21,vn 27 26 21,⟨some 28,.bin (.int .gtr) (.t 27) (.c (.int .i64 1)),(some (21,false)),[27,21]⟩,ea 29 21 28])
 (.cond (.t 29)
 (.seq (.ak [qS 4])
 (.ret))
 (.skip)))
 (.seq (.ak [dw 6])
 (.block 2 (.loop Od)))))
 (.ak [ad 12 5,eh 13 12,ad 5 13]))
def Of:aX:=
 .seq (.seq (.ak [ad 72 7,ad 73 1,dE 74 73,eS 75 72 74])
 (.cond (.t 75)
 (.skip)
 (.exit 4)))
 (.seq (.block 5 (.seq (.ak [ad 78 1,ad 79 7,fD 80 78 79,dU 81 80,bD 82 81,GR 83 82,ad 84 83,ee 85 1 84,ee 86 7 84,vp 87 85 86 84,tI 88 87 84,fL 89 88 84,GS 90 89 84,ea 91 84 90,ad 92 91,ee 93 1 92,ee 94 7 92,vp 95 93 94 92,vo 96 95 92,⟨some 97,.call 40 [(.t 96)],(some (92,false)),[96,92]⟩,oA 98 97 92,ea 99 92 98])
 (.cond (.t 99)
 (.seq (.ak [qS 4])
 (.ret))
 (.skip))))
 (.ak [ad 76 7,eh 77 76,ad 7 77]))
def c21:aX:=
 .seq (.ak [dw 4])
 (.seq (.seq (.ak [dw 5])
 (.block 0 (.loop Oe)))
 (.seq (.seq (.ak [dw 7])
 (.block 4 (.loop Of)))
 (.seq (.seq (.ak [ad 100 0,ad 101 1,⟨some 102,.call 52 [(.t 100),(.t 101)],none,[100,101]⟩,kx 103 102])
 (.cond (.t 103)
 (.seq (.ak [qS 4])
 (.ret))
 (.skip)))
 (.seq (.ak [dw 4])
 (.ret)))))
theorem Y7:cH 21 104 Tryz.f21 c21 [.t 4]:=⟨Tryz.func21,by kernel_rfl⟩
def Og:aX:=
 .seq (.ak [dm 4])
 (.seq (.ak [ad 5 0,ad 6 1,⟨some 7,.call 60 [(.t 5),(.t 6)],none,[5,6]⟩,ad 8 1,⟨some 9,.bin (.int .gtr) (.t 7) (.t 8),none,[7,8]⟩,ad 4 9])
 (.ret))
theorem Y8:cH 32 10 Tryz.f32 Og [.t 4]:=⟨Tryz.func32,by kernel_rfl⟩
def Oh:aX:=
 .seq (.ak [hd 2 0,dm 4])
 (.seq (.ak [⟨some 5,.hJ 3 (.t 2),none,[2]⟩,ad 6 1,⟨some 7,.call 61 [(.t 5),(.t 6)],none,[5,6]⟩,ad 8 1,⟨some 9,.bin (.int .gtr) (.t 7) (.t 8),none,[7,8]⟩,ad 4 9])
 (.ret))
theorem Y9:cH 33 10 Tryz.f33 Oh [.t 4]:=⟨Tryz.func33,by kernel_rfl⟩
def c34:aX:=
 .seq (.ak [hd 2 0,hd 3 1,gf 4])
 (.seq (.ak [⟨some 5,.new [.bu],none,[]⟩])
 (.seq (.ak [⟨some 6,.new [.jB],none,[]⟩])
 (.seq (.ak [⟨some 7,.fn 62 [(.t 5),(.t 2),(.t 6)],none,[5,2,6]⟩,⟨none,.st 1 (.t 6) (.t 7),none,[6,7]⟩])
 (.seq (.ak [bD 8 6,ez 9 3,⟨some 10,.ma (.t 8) [(.t 9),(.c .bu)],none,[8,9]⟩])
 (.seq (.ak [bD 11 5,ad 4 11])
 (.ret))))))
theorem Y':cH 34 12 Tryz.f34 c34 [.t 4]:=⟨Tryz.func34,by kernel_rfl⟩
def Oj:aX:=
 .seq (.ak [eS 10 9 8])
 (.seq (.cond (.t 10)
 (.skip)
 (.exit 0))
 (.seq (.block 1 (.seq (.ak [fD 11 7 9,ez 12 11,tJ 5,⟨none,.st 5 (.t 5) (.t 12),none,[5,12]⟩])
 (.ak [ad 13 3,dU 14 5,bD 15 14,ez 16 5,⟨none,.pt .str (.t 13) (.t 15) (.t 16),none,[13,15,16]⟩])))
 (.ak [eh 17 9,ad 9 17])))
def Oi:aX:=
 .seq (.ak [⟨some 2,.cq (.c .jW),none,[]⟩])
 (.seq (.ak [⟨some 6,.s7 none,none,[]⟩,ad 3 6])
 (.seq (.seq (.ak [ad 7 0,dE 8 7,dw 9])
 (.block 0 (.loop Oj)))
 (.seq (.ak [ad 18 3,ad 2 18])
 (.ret))))
theorem Y_:cH 35 19 Tryz.f35 Oi [.t 2]:=⟨Tryz.func35,by kernel_rfl⟩
def HT:aX:=
 .seq (.seq (.ak [ad 42 9,i' 43 5,bD 44 43,dE 45 44,eS 46 42 45])
 (.cond (.t 46)
 (.skip)
 (.exit 1)))
 (.seq (.block 2 (.draw [ad 49 0,i' 50 5,bD 51 50,ad 52 9,fD 53 51 52,ez 54 53,ad 55 2,ad 56 9,ad 58 3,⟨some 57,.call 64 [(.t 55),(.t 56)],none,[55,56]⟩,⟨some 59,.call 36 [(.t 49),(.t 54),(.t 57),(.t 58)],none,[49,54,57,58]⟩,ad 3 59] [(2,[9,10]),(5,[9,10])]))
 (.ak [ad 47 9,eh 48 47,ad 9 48]))
def Ok:aX:=
 .seq (.ak [hd 5 1,gf 8])
 (.seq (.seq (.ak [dU 10 5,bD 11 10])
 (.block 0 (.seq (.ak [GV 13 11,ad 12 13])
 (.cond (.t 12)
 (.seq (.ak [ad 14 3,ad 15 2,ef 16 5,bD 17 16,MJ 18 15 17,xu 19 18,xv 20 14 19,ad 8 20])
 (.ret))
 (.seq (.ak [GW 22 11,ad 21 22])
 (.cond (.t 21)
 (.seq (.ak [ad 23 3,ad 24 2,ef 25 5,bD 26 25,CU 27 24 26,xu 28 27,xv 29 23 28,ad 8 29])
 (.ret))
 (.seq (.ak [zX 31 11,ad 30 31])
 (.cond (.t 30)
 (.ak [ad 32 3,ad 33 2,ad 34 0,i_ 35 5,bD 36 35,⟨some 37,.call 63 [(.t 34),(.t 36)],none,[34,36]⟩,⟨some 38,.oW 2 (.t 37),none,[37]⟩,CU 39 33 38,xu 40 39,xv 41 32 40,ad 3 41])
 (.skip)))))))))
 (.seq (.seq (.ak [dw 9])
 (.block 1 (.loop HT)))
 (.seq (.ak [ad 60 3,ad 8 60])
 (.ret))))
theorem Za:cH 36 61 Tryz.f36 Ok [.t 8]:=⟨Tryz.func36,by kernel_rfl⟩
def On:aX:=
 .seq (.ak [hd 1 0,dm 2])
 (.seq (.seq (.ak [dU 4 1,bD 5 4,GR 6 5,ad 7 6,tI 8 1 7,fL 9 8 7,GS 10 9 7,ea 11 7 10])
 (.cond (.t 11)
 (.seq (.ak [dm 2])
 (.ret))
 (.skip)))
 (.seq (.ak [ez 12 1,⟨some 13,.build [(.int .i64 0),(.int .i64 0),(.int .i64 0),(.str []),.bu] [(0,1,(.c (.int .i64 22)))],none,[]⟩,⟨some 14,.gq 2 5 [(.int .i64 0),(.int .i64 0),(.int .i64 0),(.str []),.bu] [(0,5,(.t 12)),(5,5,(.t 13))],none,[12,13]⟩,⟨some 15,.build [(.int .i64 0),(.int .i64 0),(.int .i64 0),(.str []),.bu] [(0,1,(.c (.int .i64 52))),(4,1,(.t 14))],none,[14]⟩,qQ 16 15,⟨some 17,.call 65 [(.t 16)],none,[16]⟩,ad 3 17])
 (.seq (.ak [ad 18 3,⟨some 19,.bin (.int .neq) (.t 18) (.c (.int .i64 2)),none,[18]⟩,ad 2 19])
 (.ret))))
theorem Zc:cH 37 20 Tryz.f37 On [.t 2]:=⟨Tryz.func37,by kernel_rfl⟩
def HU:aX:=
 .seq (.ak [eS 23 22 21])
 (.seq (.cond (.t 23)
 (.skip)
 (.exit 0))
 (.seq (.block 1 (.seq (.ak [ad 24 22,fD 25 20 22,ez 26 25,qT 7,ad 6 24,⟨none,.st 5 (.t 7) (.t 26),none,[7,26]⟩])
 (.draw [bD 27 3,ez 28 7,ad 29 1,ad 30 6,⟨some 31,.call 39 [(.t 29),(.t 30)],none,[29,30]⟩,⟨some 32,.ma (.t 27) [(.t 28),(.t 31)],none,[27,28,31]⟩] [(0,[4,5]),(1,[4,5])])))
 (.ak [eh 33 22,ad 22 33])))
def Oo:aX:=
 .seq (.ak [hd 4 0])
 (.seq (.seq (.ak [dU 8 4,bD 9 8,GX 10 9])
 (.cond (.t 10)
 (.draw [bD 11 2,i_ 12 4,bD 13 12,ad 14 1,⟨some 15,.app 1 (.c .bu) (.t 14),none,[14]⟩,⟨some 16,.build [(.str []),.bu] [(0,1,(.t 13)),(1,1,(.t 15))],none,[13,15]⟩,⟨some 17,.gq 1 2 [(.str []),.bu] [(0,2,(.t 16))],none,[16]⟩,⟨some 18,.app 2 (.t 11) (.t 17),none,[11,17]⟩,⟨none,.st 1 (.t 2) (.t 18),none,[2,18]⟩] [(0,[4,7]),(2,[4,7])])
 (.skip)))
 (.seq (.ak [i' 19 4,bD 20 19,dE 21 20,dw 22])
 (.block 0 (.loop HU))))
theorem Zd:cH 38 34 Tryz.f38 Oo []:=⟨Tryz.func38,by kernel_rfl⟩
def Oq:aX:=
 .seq (.ak [gf 4])
 (.seq (.ak [ad 5 0,ad 6 0,dE 7 6,ad 8 0,dE 9 8,⟨some 10,.d' 1 (.t 5) none (some (.t 7)) (some (.t 9)),none,[5,7,9]⟩,ad 11 1,GY 12 11,py 13 10 12,ad 4 13])
 (.ret))
theorem Ze:cH 39 14 Tryz.f39 Oq [.t 4]:=⟨Tryz.func39,by kernel_rfl⟩
def Ow:aX:=
 .seq (.seq (.ak [ad 38 5,i' 39 1,bD 40 39,dE 41 40,eS 42 38 41])
 (.cond (.t 42)
 (.skip)
 (.exit 0)))
 (.seq (.block 1 (.seq (.ak [dm 6])
 (.seq (.seq (.ak [ad 45 3,ad 46 5,nH 47 45 46,bD 48 47,⟨some 49,.bin (.int .eql) (.t 48) (.c (.int .i64 8)),none,[48]⟩])
 (.cond (.t 49)
 (.ak [i' 50 1,bD 51 50,ad 52 5,fD 53 51 52,dU 54 53,bD 55 54,vr 56 55,ad 6 56])
 (.draw [i' 57 1,bD 58 57,ad 59 5,fD 60 58 59,dU 61 60,bD 62 61,ad 64 3,ad 65 5,nH 66 64 65,bD 67 66,⟨some 63,.call 66 [(.t 62)],none,[62]⟩,⟨some 68,.bin (.int .eql) (.t 63) (.t 67),none,[63,67]⟩,ad 6 68] [(1,[10]),(5,[10]),(9,[10,13])])))
 (.seq (.ak [ad 69 6,kx 70 69,ad 71 70,vq 72 1 71,fL 73 72 71,ee 74 5 71,vp 75 73 74 71,vo 76 75 71,⟨some 77,.call 40 [(.t 76)],(some (71,false)),[76,71]⟩,oA 78 77 71,ea 79 71 78])
 (.cond (.t 79)
 (.seq (.ak [dm 2])
 (.ret))
 (.skip))))))
 (.ak [ad 43 5,eh 44 43,ad 5 44]))
def Ov:aX:=
 .seq (.ak [hd 1 0,dm 2])
 (.seq (.seq (.ak [dU 7 1,bD 8 7,⟨some 9,.call 66 [(.t 8)],none,[8]⟩,r8 10 9,ad 11 10,vo 12 1 11,⟨some 13,.call 67 [(.t 12)],(some (11,false)),[12,11]⟩,oA 14 13 11,ea 15 11 14,ad 16 15,vo 17 1 16,⟨some 18,.call 68 [(.t 17)],(some (16,false)),[17,16]⟩,oA 19 18 16,ea 20 16 19,ad 21 20,xt 22 1 21,fL 23 22 21,⟨some 24,.bin (.int .lss) (.t 23) (.c (.int .i64 0)),(some (21,false)),[23,21]⟩,ea 25 21 24,ad 26 25,xt 27 1 26,fL 28 27 26,⟨some 29,.bin (.int .gtr) (.t 28) (.c (.int .i64 65536)),(some (26,false)),[28,26]⟩,ea 30 26 29])
 (.cond (.t 30)
 (.seq (.ak [dm 2])
 (.ret))
 (.skip)))
 (.seq (.ak [ez 32 1,⟨some 33,.call 69 [(.t 32)],none,[32]⟩,ad 31 33,j4 34 31,j5 35 31,ad 3 34,ad 4 35])
 (.seq (.seq (.ak [ad 36 4,kx 37 36])
 (.cond (.t 37)
 (.seq (.ak [dm 2])
 (.ret))
 (.skip)))
 (.seq (.seq (.ak [dw 5])
 (.block 0 (.loop Ow)))
 (.seq (.ak [mL 2])
 (.ret))))))
theorem Zg:cH 40 80 Tryz.f40 Ov [.t 2]:=⟨Tryz.func40,by kernel_rfl⟩
def Oy:aX:=
 .seq (.seq (.ak [ad 18 7,i' 19 3,bD 20 19,dE 21 20,eS 22 18 21])
 (.cond (.t 22)
 (.skip)
 (.exit 0)))
 (.seq (.block 1 (.draw [i' 25 3,bD 26 25,ad 27 7,fD 28 26 27,ez 29 28,ad 30 1,ad 31 7,ad 33 2,⟨some 32,.call 64 [(.t 30),(.t 31)],none,[30,31]⟩,⟨some 34,.call 41 [(.t 29),(.t 32),(.t 33)],none,[29,32,33]⟩,ad 2 34] [(1,[8,9]),(4,[8,9])]))
 (.ak [ad 23 7,eh 24 23,ad 7 24]))
def Ox:aX:=
 .seq (.ak [hd 3 0,gf 6])
 (.seq (.seq (.ak [dU 8 3,bD 9 8,GX 10 9])
 (.cond (.t 10)
 (.seq (.ak [ad 11 2,i_ 12 3,bD 13 12,ad 14 1,⟨some 15,.build [(.str []),.bu] [(0,1,(.t 13)),(1,1,(.t 14))],none,[13,14]⟩,⟨some 16,.gq 1 2 [(.str []),.bu] [(0,2,(.t 15))],none,[15]⟩,⟨some 17,.app 2 (.t 11) (.t 16),none,[11,16]⟩,ad 6 17])
 (.ret))
 (.skip)))
 (.seq (.seq (.ak [dw 7])
 (.block 0 (.loop Oy)))
 (.seq (.ak [ad 35 2,ad 6 35])
 (.ret))))
theorem Zh:cH 41 36 Tryz.f41 Ox [.t 6]:=⟨Tryz.func41,by kernel_rfl⟩
def OA:aX:=
 .seq (.seq (.ak [ad 11 5,ad 12 0,dE 13 12,eS 14 11 13])
 (.cond (.t 14)
 (.skip)
 (.exit 0)))
 (.seq (.block 1 (.seq (.draw [ad 17 0,ad 18 5,nH 19 17 18,bD 20 19,ad 21 1,ad 22 5,nH 23 21 22,bD 24 23,vm 25 20 24] [])
 (.cond (.t 25)
 (.seq (.ak [dm 4])
 (.ret))
 (.skip))))
 (.ak [ad 15 5,eh 16 15,ad 5 16]))
def Oz:aX:=
 .seq (.ak [dm 4])
 (.seq (.seq (.ak [ad 6 0,dE 7 6,ad 8 1,dE 9 8,vm 10 7 9])
 (.cond (.t 10)
 (.seq (.ak [dm 4])
 (.ret))
 (.skip)))
 (.seq (.seq (.ak [dw 5])
 (.block 0 (.loop OA)))
 (.seq (.ak [mL 4])
 (.ret))))
theorem Zi:cH 42 26 Tryz.f42 Oz [.t 4]:=⟨Tryz.func42,by kernel_rfl⟩
def OC:aX:=
 .seq (.ak [eS 20 19 18])
 (.seq (.cond (.t 20)
 (.skip)
 (.exit 0))
 (.seq (.block 1 (.seq (.ak [fD 21 17 19,ez 22 21,qT 9,⟨none,.st 5 (.t 9) (.t 22),none,[9,22]⟩])
 (.seq (.ak [ez 23 9,⟨some 24,.call 37 [(.t 23)],none,[23]⟩,kx 25 24])
 (.cond (.t 25)
 (.seq (.ak [xw 4,qS 5])
 (.ret))
 (.skip)))))
 (.ak [eh 26 19,ad 19 26])))
def OB:aX:=
 .seq (.ak [xw 4,dw 5])
 (.seq (.ak [ad 11 0,⟨some 12,.call 70 [(.t 11)],none,[11]⟩,ad 10 12,j4 13 10,j5 14 10,ad 6 13,ad 7 14])
 (.seq (.seq (.ak [ad 15 7,kx 16 15])
 (.cond (.t 16)
 (.seq (.ak [xw 4,qS 5])
 (.ret))
 (.skip)))
 (.seq (.seq (.ak [ad 17 1,dE 18 17,dw 19])
 (.block 0 (.loop OC)))
 (.seq (.seq (.ak [ad 27 6,ad 28 1,⟨some 29,.call 71 [(.t 27),(.t 28)],none,[27,28]⟩,kx 30 29])
 (.cond (.t 30)
 (.seq (.ak [xw 4,qS 5])
 (.ret))
 (.skip)))
 (.seq (.ak [ad 31 6,ad 4 31,dw 5])
 (.ret))))))
theorem Zj:cH 46 32 Tryz.f46 OB [.t 4,.t 5]:=⟨Tryz.func46,by kernel_rfl⟩
def OD:aX:=
 .seq (.seq (.ak [ad 13 5,ad 14 1,k8 15 14,eS 16 13 15])
 (.cond (.t 16)
 (.skip)
 (.exit 0)))
 (.seq (.block 1 (.seq (.ak [ad 19 1,ad 20 5,CV 21 19 20,⟨some 22,.call 87 [(.t 21)],none,[21]⟩,kx 23 22])
 (.cond (.t 23)
 (.seq (.ak [dm 4])
 (.ret))
 (.skip))))
 (.ak [ad 17 5,eh 18 17,ad 5 18]))
def c51:aX:=
 .seq (.ak [dm 4])
 (.seq (.seq (.ak [ad 6 1,GZ 7 6,ad 8 7,ee 9 1 8,⟨some 10,.len .str (.t 9),(some (8,false)),[9,8]⟩,⟨some 11,.bin (.int .gtr) (.t 10) (.c (.int .i64 64)),(some (8,false)),[10,8]⟩,ea 12 8 11])
 (.cond (.t 12)
 (.seq (.ak [dm 4])
 (.ret))
 (.skip)))
 (.seq (.seq (.ak [dw 5])
 (.block 0 (.loop OD)))
 (.seq (.seq (.ak [ad 24 0])
 (.block 2 (.seq (.ak [G0 26 24,ad 25 26])
 (.cond (.t 25)
 (.seq (.ak [ad 27 1,CW 28 27,⟨some 29,.call 88 [(.t 28),(.c (.int .u8 65)),(.c (.int .u8 90))],none,[28]⟩,ad 4 29])
 (.ret))
 (.seq (.ak [CX 31 24,ad 30 31])
 (.cond (.t 30)
 (.seq (.ak [ad 32 1,CW 33 32,G1 34 33,ad 4 34])
 (.ret))
 (.skip)))))))
 (.seq (.ak [ad 35 1,CW 36 35,G1 37 36,ad 38 37,ee 39 1 38,⟨some 40,.mB (.t 39) (.c (.int .i64 0)),(some (38,false)),[39,38]⟩,CY 41 40 38,ea 42 38 41,ad 43 42,eo 44 1 43,⟨some 45,.bin (.str .neq) (.t 44) (.c (.str [95])),(some (43,true)),[44,43]⟩,ft 46 43 45,ad 47 46,eo 48 1 47,⟨some 49,.call 90 [],(some (47,true)),[47]⟩,⟨some 50,.call 89 [(.t 48),(.t 49)],(some (47,true)),[48,49,47]⟩,⟨some 51,.un .not (.t 50),(some (47,true)),[50,47]⟩,ft 52 47 51,ad 4 52])
 (.ret)))))
theorem Zk:cH 51 53 Tryz.f51 c51 [.t 4]:=⟨Tryz.func51,by kernel_rfl⟩
def OF:aX:=
 .seq (.seq (.ak [ad 25 8,ad 26 1,dE 27 26,eS 28 25 27])
 (.cond (.t 28)
 (.skip)
 (.exit 0)))
 (.seq (.block 1 (.seq (.seq (.ak [ad 31 1,ad 32 8,fD 33 31 32,dU 34 33,bD 35 34,ad 36 5,vm 37 35 36])
 (.cond (.t 37)
 (.seq (.ak [dm 4])
 (.ret))
 (.skip)))
 (.seq (.ak [ad 38 5,⟨some 39,.bin (.int .eql) (.t 38) (.c (.int .i64 15)),none,[38]⟩])
 (.cond (.t 39)
 (.seq (.ak [ad 40 6,ad 41 1,ad 42 8,fD 43 41 42,i' 44 43,bD 45 44,xx 46 45,ez 47 46,qQ 48 47,xy 49 40 48,ad 6 49])
 (.ak [ad 50 7,ad 51 1,ad 52 8,fD 53 51 52,i' 54 53,bD 55 54,⟨some 56,.bW 5 (.t 55) (.c (.int .i64 1)),none,[55]⟩,ez 57 56,qQ 58 57,xy 59 50 58,ad 7 59]))
 (.skip)))))
 (.ak [ad 29 8,eh 30 29,ad 8 30]))
def OG:aX:=
 .seq (.seq (.ak [ad 121 15,ad 122 1,dE 123 122,eS 124 121 123])
 (.cond (.t 124)
 (.skip)
 (.exit 4)))
 (.seq (.block 5 (.seq (.draw [ad 127 1,ad 128 15,fD 129 127 128,i_ 130 129,bD 131 130,ad 132 1,ad 133 11,fD 134 132 133,i_ 135 134,bD 136 135,r7 137 131 136,ad 138 137,eo 139 1 138,eo 140 15 138,GU 141 139 140 138,⟨some 142,.er 4 (.t 141),(some (138,true)),[141,138]⟩,ky 143 142 138,⟨some 144,.len .slice (.t 143),(some (138,true)),[143,138]⟩,⟨some 145,.bin (.int .eql) (.t 144) (.c (.int .i64 1)),(some (138,true)),[144,138]⟩,ft 146 138 145] [])
 (.cond (.t 146)
 (.ak [ad 147 14,ad 148 1,ad 149 15,fD 150 148 149,i' 151 150,bD 152 151,xx 153 152,ez 154 153,qQ 155 154,xy 156 147 155,ad 14 156])
 (.skip))))
 (.ak [ad 125 15,eh 126 125,ad 15 126]))
def OH:aX:=
 .seq (.seq (.ak [ad 75 11,ad 76 1,dE 77 76,eS 78 75 77])
 (.cond (.t 78)
 (.skip)
 (.exit 2)))
 (.seq (.block 3 (.seq (.ak [ad 82 0,ad 83 1,ad 84 11,fD 85 83 84,i_ 86 85,bD 87 86,⟨some 88,.call 93 [(.t 82),(.t 87)],none,[82,87]⟩,ad 81 88,j4 89 81,j5 90 81,tJ 12,⟨none,.st 5 (.t 12) (.t 89),none,[12,89]⟩,ad 13 90])
 (.seq (.seq (.draw [ad 91 13,kx 92 91,ad 93 92,qR 94 12 93,fL 95 94 93,qR 96 9 93,fL 97 96 93,⟨some 98,.bin (.str .neq) (.t 95) (.t 97),(some (93,false)),[95,97,93]⟩,ea 99 93 98,ad 100 99,vq 101 12 100,fL 102 101 100,vn 103 102 100,ee 104 1 100,ee 105 11 100,vp 106 104 105 100,vq 107 106 100,fL 108 107 100,vn 109 108 100,CS 110 103 109 100,ea 111 100 110] [])
 (.cond (.t 111)
 (.seq (.ak [dm 4])
 (.ret))
 (.skip)))
 (.seq (.seq (.draw [ad 112 1,ad 113 11,⟨some 114,.d' 5 (.t 112) none (some (.t 113)) none,none,[112,113]⟩,ad 115 1,ad 116 11,fD 117 115 116,i_ 118 117,bD 119 118,⟨some 120,.call 94 [(.t 114),(.t 119)],none,[114,119]⟩] [(7,[8])])
 (.cond (.t 120)
 (.exit 3)
 (.skip)))
 (.seq (.ak [gf 14])
 (.seq (.seq (.ak [dw 15])
 (.block 4 (.loop OG)))
 (.seq (.ak [ad 157 0,ad 158 14,⟨some 159,.call 52 [(.t 157),(.t 158)],none,[157,158]⟩,kx 160 159])
 (.cond (.t 160)
 (.seq (.ak [dm 4])
 (.ret))
 (.skip)))))))))
 (.ak [ad 79 11,eh 80 79,ad 11 80]))
def HW:aX:=
 .seq (.ak [dm 4])
 (.seq (.ak [ad 16 1,⟨some 17,.call 91 [(.t 16)],none,[16]⟩,ad 1 17])
 (.seq (.seq (.ak [ad 18 1,dE 19 18,r8 20 19])
 (.cond (.t 20)
 (.seq (.ak [mL 4])
 (.ret))
 (.skip)))
 (.seq (.ak [ad 21 1,xx 22 21,dU 23 22,bD 24 23,ad 5 24])
 (.seq (.ak [gf 6,gf 7])
 (.seq (.seq (.ak [dw 8])
 (.block 0 (.loop OF)))
 (.seq (.seq (.ak [ad 60 5,⟨some 61,.bin (.int .neq) (.t 60) (.c (.int .i64 16)),none,[60]⟩])
 (.cond (.t 61)
 (.seq (.ak [ad 62 0,ad 63 6,ad 64 7,⟨some 65,.call 92 [(.t 62),(.t 63),(.t 64)],none,[62,63,64]⟩,ad 4 65])
 (.ret))
 (.skip)))
 (.seq (.ak [ad 67 0,ad 68 1,xx 69 68,i_ 70 69,bD 71 70,⟨some 72,.call 93 [(.t 67),(.t 71)],none,[67,71]⟩,ad 66 72,j4 73 66,j5 74 66,tJ 9,⟨none,.st 5 (.t 9) (.t 73),none,[9,73]⟩,ad 10 74])
 (.seq (.seq (.ak [dw 11])
 (.block 2 (.loop OH)))
 (.seq (.ak [mL 4])
 (.ret))))))))))
theorem OE:cH 52 161 Tryz.f52 HW [.t 4]:=⟨Tryz.func52,by kernel_rfl⟩
def OJ:aX:=
 .seq (.seq (.ak [ad 7 6,ad 8 0,dE 9 8,eS 10 7 9,ad 11 10,eo 12 5 11,eo 13 1 11,G2 14 12 13 11,ft 15 11 14])
 (.cond (.t 15)
 (.skip)
 (.exit 0)))
 (.seq (.block 1 (.seq (.ak [ad 18 5,eh 19 18,ad 20 0,ad 21 6,fD 22 20 21,i_ 23 22,bD 24 23,k8 25 24,⟨some 26,.bin (.int .quo) (.t 25) (.c (.int .i64 100)),none,[25]⟩,xz 27 19 26,ad 5 27])
 (.ak [ad 28 5,ad 29 0,ad 30 6,fD 31 29 30,i' 32 31,bD 33 32,ad 34 1,ad 35 5,vs 36 34 35,⟨some 37,.call 60 [(.t 33),(.t 36)],none,[33,36]⟩,xz 38 28 37,ad 5 38])))
 (.ak [ad 16 6,eh 17 16,ad 6 17]))
def OI:aX:=
 .seq (.ak [dw 4])
 (.seq (.ak [dw 5])
 (.seq (.seq (.ak [dw 6])
 (.block 0 (.loop OJ)))
 (.seq (.ak [ad 39 5,ad 4 39])
 (.ret))))
theorem Zl:cH 60 40 Tryz.f60 OI [.t 4]:=⟨Tryz.func60,by kernel_rfl⟩
def OL:aX:=
 .seq (.seq (.ak [ad 7 6,lG 8 2,bD 9 8,dE 10 9,eS 11 7 10,ad 12 11,eo 13 5 12,eo 14 1 12,G2 15 13 14 12,ft 16 12 15])
 (.cond (.t 16)
 (.skip)
 (.exit 0)))
 (.seq (.block 1 (.ak [ad 19 5,lG 20 2,bD 21 20,ad 22 6,vl 23 21 22,⟨some 24,.hJ 3 (.t 23),none,[23]⟩,ad 25 1,ad 26 5,vs 27 25 26,⟨some 28,.call 61 [(.t 24),(.t 27)],none,[24,27]⟩,xz 29 19 28,ad 5 29]))
 (.ak [ad 17 6,eh 18 17,ad 6 18]))
def OK:aX:=
 .seq (.ak [hd 2 0,dw 4])
 (.seq (.ak [⟨some 5,.cq (.c (.int .i64 1)),none,[]⟩])
 (.seq (.seq (.ak [dw 6])
 (.block 0 (.loop OL)))
 (.seq (.ak [ad 30 5,ad 4 30])
 (.ret))))
theorem Zm:cH 61 31 Tryz.f61 OK [.t 4]:=⟨Tryz.func61,by kernel_rfl⟩
def HX:aX:=
 .seq (.ak [eS 48 47 46])
 (.seq (.cond (.t 48)
 (.skip)
 (.exit 1))
 (.seq (.block 2 (.seq (.ak [ad 49 47,fD 50 45 47,ez 51 50,qT 9,ad 8 49,⟨none,.st 5 (.t 9) (.t 51),none,[9,51]⟩])
 (.draw [bD 52 4,ez 53 9,ad 54 1,ad 55 8,⟨some 56,.call 39 [(.t 54),(.t 55)],none,[54,55]⟩,⟨some 57,.ma (.t 52) [(.t 53),(.t 56)],none,[52,53,56]⟩] [(0,[4,5]),(1,[4,5])])))
 (.ak [eh 58 47,ad 47 58])))
def OM:aX:=
 .seq (.ak [hd 5 0])
 (.seq (.ak [ad 10 1,⟨some 11,.app 1 (.c .bu) (.t 10),none,[10]⟩,ad 7 11])
 (.seq (.seq (.ak [dU 12 5,bD 13 12])
 (.block 0 (.seq (.ak [GV 15 13,ad 14 15])
 (.cond (.t 14)
 (.ak [bD 16 2,ad 17 7,ef 18 5,bD 19 18,MJ 20 17 19,xu 21 20,xv 22 16 21,⟨none,.st 1 (.t 2) (.t 22),none,[2,22]⟩])
 (.seq (.ak [GW 24 13,ad 23 24])
 (.cond (.t 23)
 (.ak [bD 25 2,ad 26 7,ef 27 5,bD 28 27,CU 29 26 28,xu 30 29,xv 31 25 30,⟨none,.st 1 (.t 2) (.t 31),none,[2,31]⟩])
 (.seq (.ak [zX 33 13,ad 32 33])
 (.cond (.t 32)
 (.ak [bD 34 2,ad 35 7,bD 36 3,i_ 37 5,bD 38 37,MK 39 36 38,⟨some 40,.oW 2 (.t 39),none,[39]⟩,CU 41 35 40,xu 42 41,xv 43 34 42,⟨none,.st 1 (.t 2) (.t 43),none,[2,43]⟩])
 (.skip)))))))))
 (.seq (.ak [i' 44 5,bD 45 44,dE 46 45,dw 47])
 (.block 1 (.loop HX)))))
theorem Zn:cH 62 59 Tryz.f62 OM []:=⟨Tryz.func62,by kernel_rfl⟩
def OQ:aX:=
 .seq (.seq (.ak [ad 6 5,ad 7 0,dE 8 7,eS 9 6 8])
 (.cond (.t 9)
 (.skip)
 (.exit 0)))
 (.seq (.block 1 (.seq (.ak [ad 12 0,ad 13 5,fD 14 12 13,dU 15 14,bD 16 15,ad 17 1,r7 18 16 17])
 (.cond (.t 18)
 (.seq (.ak [ad 19 0,ad 20 5,fD 21 19 20,ez 22 21,⟨none,.st 5 (.t 4) (.t 22),none,[4,22]⟩])
 (.ret))
 (.skip))))
 (.ak [ad 10 5,eh 11 10,ad 5 11]))
def OP:aX:=
 .seq (.ak [tJ 4])
 (.seq (.seq (.ak [dw 5])
 (.block 0 (.loop OQ)))
 (.seq (.ak [⟨some 23,.build [(.str []),(.str []),(.int .i64 0),(.int .i64 0),.bu] [],none,[]⟩,⟨none,.st 5 (.t 4) (.t 23),none,[4,23]⟩])
 (.ret)))
theorem Zp:cH 63 24 Tryz.f63 OP [.pK 4 5]:=⟨Tryz.func63,by kernel_rfl⟩
def OR:aX:=
 .seq (.ak [gf 4])
 (.seq (.ak [⟨some 5,.gq 0 1 [(.int .i64 0)] [],none,[]⟩,ad 6 0,py 7 5 6,ad 8 1,GY 9 8,py 10 7 9,ad 4 10])
 (.ret))
theorem Zq:cH 64 11 Tryz.f64 OR [.t 4]:=⟨Tryz.func64,by kernel_rfl⟩
def OT:aX:=
 .seq (.ak [eS 12 11 10])
 (.seq (.cond (.t 12)
 (.skip)
 (.exit 0))
 (.seq (.block 1 (.seq (.ak [fD 13 9 11,ez 14 13,qT 5,⟨none,.st 5 (.t 5) (.t 14),none,[5,14]⟩])
 (.seq (.ak [dU 15 5,bD 16 15,⟨some 17,.call 96 [(.t 16)],none,[16]⟩,⟨some 18,.bin (.int .neq) (.t 17) (.c (.int .i64 7)),none,[17]⟩,ad 19 18,ee 20 3 19,vo 21 5 19,⟨some 22,.call 97 [(.t 20),(.t 21)],(some (19,false)),[20,21,19]⟩,oA 23 22 19,ea 24 19 23])
 (.cond (.t 24)
 (.seq (.ak [qS 2])
 (.ret))
 (.skip)))))
 (.ak [eh 25 11,ad 11 25])))
def OU:aX:=
 .seq (.ak [eS 29 28 27])
 (.seq (.cond (.t 29)
 (.skip)
 (.exit 2))
 (.seq (.block 3 (.seq (.ak [fD 30 26 28,ez 31 30,qT 7,⟨none,.st 5 (.t 7) (.t 31),none,[7,31]⟩])
 (.seq (.ak [ez 32 7,⟨some 33,.call 98 [(.t 32)],none,[32]⟩,⟨some 34,.bin (.int .gtr) (.t 33) (.c (.int .i64 200)),none,[33]⟩])
 (.cond (.t 34)
 (.seq (.ak [⟨some 2,.cq (.c (.int .i64 260)),none,[]⟩])
 (.ret))
 (.skip)))))
 (.ak [eh 35 28,ad 28 35])))
def OS:aX:=
 .seq (.ak [dw 2])
 (.seq (.ak [⟨some 8,.call 95 [],none,[]⟩,ad 3 8])
 (.seq (.seq (.ak [ad 9 0,dE 10 9,dw 11])
 (.block 0 (.loop OT)))
 (.seq (.seq (.ak [ad 26 0,dE 27 26,dw 28])
 (.block 2 (.loop OU)))
 (.seq (.ak [dw 2])
 (.ret)))))
theorem Zr:cH 65 36 Tryz.f65 OS [.t 2]:=⟨Tryz.func65,by kernel_rfl⟩
def OV:aX:=
 .seq (.ak [dw 2])
 (.seq (.block 0 (.seq (.ak [ad 4 0,G3 5 4,ad 6 5,eo 7 0 6,⟨some 8,.bin (.int .leq) (.t 7) (.c (.int .i64 4)),(some (6,true)),[7,6]⟩,ft 9 6 8,ad 3 9])
 (.cond (.t 3)
 (.seq (.ak [⟨some 2,.cq (.c (.int .i64 1)),none,[]⟩])
 (.ret))
 (.seq (.ak [ad 11 0,⟨some 12,.bin (.int .geq) (.t 11) (.c (.int .i64 10)),none,[11]⟩,ad 13 12,eo 14 0 13,⟨some 15,.bin (.int .leq) (.t 14) (.c (.int .i64 16)),(some (13,true)),[14,13]⟩,ft 16 13 15,ad 10 16])
 (.cond (.t 10)
 (.seq (.ak [qS 2])
 (.ret))
 (.seq (.ak [ad 18 0,⟨some 19,.bin (.int .geq) (.t 18) (.c (.int .i64 20)),none,[18]⟩,ad 20 19,eo 21 0 20,⟨some 22,.bin (.int .leq) (.t 21) (.c (.int .i64 39)),(some (20,true)),[21,20]⟩,ft 23 20 22,ad 17 23])
 (.cond (.t 17)
 (.seq (.ak [⟨some 2,.cq (.c (.int .i64 3)),none,[]⟩])
 (.ret))
 (.seq (.ak [ad 25 0,G4 26 25,ad 24 26])
 (.cond (.t 24)
 (.seq (.ak [⟨some 2,.cq (.c (.int .i64 4)),none,[]⟩])
 (.ret))
 (.seq (.ak [ad 28 0,CZ 29 28,ad 27 29])
 (.cond (.t 27)
 (.seq (.ak [⟨some 2,.cq (.c (.int .i64 5)),none,[]⟩])
 (.ret))
 (.seq (.ak [ad 31 0,C0 32 31,ad 30 32])
 (.cond (.t 30)
 (.seq (.ak [⟨some 2,.cq (.c (.int .i64 6)),none,[]⟩])
 (.ret))
 (.seq (.ak [ad 34 0,⟨some 35,.bin (.int .geq) (.t 34) (.c (.int .i64 50)),none,[34]⟩,ad 36 35,eo 37 0 36,⟨some 38,.bin (.int .leq) (.t 37) (.c (.int .i64 53)),(some (36,true)),[37,36]⟩,ft 39 36 38,ad 33 39])
 (.cond (.t 33)
 (.seq (.ak [⟨some 2,.cq (.c (.int .i64 7)),none,[]⟩])
 (.ret))
 (.skip))))))))))))))))
 (.seq (.ak [dw 2])
 (.ret)))
theorem Zs:cH 66 40 Tryz.f66 OV [.t 2]:=⟨Tryz.func66,by kernel_rfl⟩
def OW:aX:=
 .seq (.ak [hd 1 0,dm 2])
 (.seq (.seq (.ak [dU 3 1,bD 4 3])
 (.block 0 (.seq (.ak [vr 6 4,ad 5 6])
 (.cond (.t 5)
 (.seq (.ak [i_ 7 1,bD 8 7,⟨some 9,.call 51 [(.c (.int .i64 5)),(.t 8)],none,[8]⟩,ad 2 9])
 (.ret))
 (.seq (.seq (.ak [vt 11 4,ad 10 11])
 (.cond (.t 10)
 (.skip)
 (.seq (.ak [GX 12 4,ad 10 12])
 (.cond (.t 10)
 (.skip)
 (.seq (.ak [⟨some 13,.bin (.int .eql) (.t 4) (.c (.int .i64 24)),none,[4]⟩,ad 10 13])
 (.cond (.t 10)
 (.skip)
 (.seq (.ak [CZ 14 4,ad 10 14])
 (.cond (.t 10)
 (.skip)
 (.ak [C1 15 4,ad 10 15])))))))))
 (.cond (.t 10)
 (.seq (.ak [i_ 16 1,bD 17 16,⟨some 18,.call 51 [(.c (.int .i64 3)),(.t 17)],none,[17]⟩,ad 2 18])
 (.ret))
 (.seq (.seq (.ak [zX 20 4,ad 19 20])
 (.cond (.t 19)
 (.skip)
 (.seq (.ak [⟨some 21,.bin (.int .eql) (.t 4) (.c (.int .i64 25)),none,[4]⟩,ad 19 21])
 (.cond (.t 19)
 (.skip)
 (.seq (.ak [C0 22 4,ad 19 22])
 (.cond (.t 19)
 (.skip)
 (.ak [⟨some 23,.bin (.int .eql) (.t 4) (.c (.int .i64 51)),none,[4]⟩,ad 19 23])))))))
 (.cond (.t 19)
 (.seq (.ak [i_ 24 1,bD 25 24,⟨some 26,.call 51 [(.c (.int .i64 4)),(.t 25)],none,[25]⟩,ad 2 26])
 (.ret))
 (.seq (.ak [⟨some 28,.bin (.int .eql) (.t 4) (.c (.int .i64 21)),none,[4]⟩,ad 27 28])
 (.cond (.t 27)
 (.seq (.ak [i_ 29 1,bD 30 29,k8 31 30,⟨some 32,.bin (.int .leq) (.t 31) (.c (.int .i64 4096)),none,[31]⟩,ad 2 32])
 (.ret))
 (.seq (.ak [⟨some 34,.bin (.int .eql) (.t 4) (.c (.int .i64 38)),none,[4]⟩,ad 33 34])
 (.cond (.t 33)
 (.seq (.draw [i_ 35 1,bD 36 35,⟨some 37,.call 99 [],none,[]⟩,⟨some 38,.call 89 [(.t 36),(.t 37)],none,[36,37]⟩,ad 2 38] [(1,[2,3])])
 (.ret))
 (.skip)))))))))))))
 (.seq (.ak [i_ 39 1,bD 40 39,GZ 41 40,ad 2 41])
 (.ret)))
theorem Zt:cH 67 42 Tryz.f67 OW [.t 2]:=⟨Tryz.func67,by kernel_rfl⟩
def OX:aX:=
 .seq (.ak [hd 1 0,dm 2])
 (.seq (.seq (.ak [dU 3 1,bD 4 3])
 (.block 0 (.seq (.seq (.ak [GV 6 4,ad 5 6])
 (.cond (.t 5)
 (.skip)
 (.ak [⟨some 7,.bin (.int .eql) (.t 4) (.c (.int .i64 20)),none,[4]⟩,ad 5 7])))
 (.cond (.t 5)
 (.seq (.ak [ef 8 1,bD 9 8,⟨some 10,.bin (.int .geq) (.t 9) (.c (.int .i64 (-1073741824))),none,[9]⟩,ad 11 10,xA 12 1 11,ky 13 12 11,⟨some 14,.bin (.int .leq) (.t 13) (.c (.int .i64 1073741823)),(some (11,true)),[13,11]⟩,ft 15 11 14,ad 2 15])
 (.ret))
 (.seq (.seq (.ak [GW 17 4,ad 16 17])
 (.cond (.t 16)
 (.skip)
 (.ak [⟨some 18,.bin (.int .eql) (.t 4) (.c (.int .i64 23)),none,[4]⟩,ad 16 18])))
 (.cond (.t 16)
 (.seq (.ak [ef 19 1,bD 20 19,r8 21 20,ad 22 21,qR 23 1 22,fL 24 23 22,⟨some 25,.bin (.int .eql) (.t 24) (.c (.int .i64 1)),(some (22,false)),[24,22]⟩,ea 26 22 25,ad 2 26])
 (.ret))
 (.seq (.ak [C1 28 4,ad 27 28])
 (.cond (.t 27)
 (.seq (.ak [ef 29 1,bD 30 29,C2 31 30,ad 32 31,xA 33 1 32,ky 34 33 32,⟨some 35,.bin (.int .leq) (.t 34) (.c (.int .i64 64)),(some (32,true)),[34,32]⟩,ft 36 32 35,ad 37 36,xA 38 1 37,ky 39 38 37,⟨some 40,.er 4 (.t 1),(some (37,true)),[1,37]⟩,ky 41 40 37,⟨some 42,.len .slice (.t 41),(some (37,true)),[41,37]⟩,⟨some 43,.bin (.int .lss) (.t 39) (.t 42),(some (37,true)),[39,42,37]⟩,ft 44 37 43,ad 2 44])
 (.ret))
 (.skip)))))))))
 (.seq (.ak [ef 45 1,bD 46 45,r8 47 46,ad 2 47])
 (.ret)))
theorem Zu:cH 68 48 Tryz.f68 OX [.t 2]:=⟨Tryz.func68,by kernel_rfl⟩
def OY:aX:=
 .seq (.ak [hd 1 0,gf 2,dm 3])
 (.seq (.ak [i' 5 1,bD 6 5,dE 7 6,ad 4 7])
 (.seq (.seq (.ak [dU 8 1,bD 9 8])
 (.block 0 (.seq (.ak [vt 11 9,ad 10 11])
 (.cond (.t 10)
 (.seq (.ak [ad 12 4,⟨some 13,.call 100 [(.c (.int .i64 1)),(.t 12)],none,[12]⟩,ad 14 4,⟨some 15,.bin (.int .leq) (.t 14) (.c (.int .i64 64)),none,[14]⟩,ad 2 13,ad 3 15])
 (.ret))
 (.seq (.seq (.ak [xB 17 9,ad 16 17])
 (.cond (.t 16)
 (.skip)
 (.ak [G0 18 9,ad 16 18])))
 (.cond (.t 16)
 (.seq (.ak [⟨some 19,.call 100 [(.c (.int .i64 1)),(.c (.int .i64 2))],none,[]⟩,ad 20 4,vt 21 20,ad 2 19,ad 3 21])
 (.ret))
 (.seq (.ak [⟨some 23,.bin (.int .eql) (.t 9) (.c (.int .i64 15)),none,[9]⟩,ad 22 23])
 (.cond (.t 22)
 (.seq (.ak [⟨some 24,.call 100 [(.c (.int .i64 2)),(.c (.int .i64 2))],none,[]⟩,ad 25 4,vt 26 25,ad 2 24,ad 3 26])
 (.ret))
 (.seq (.ak [zX 28 9,ad 27 28])
 (.cond (.t 27)
 (.seq (.ak [ad 29 4,⟨some 30,.call 100 [(.c (.int .i64 2)),(.t 29)],none,[29]⟩,ad 31 4,G5 32 31,ad 2 30,ad 3 32])
 (.ret))
 (.seq (.ak [⟨some 34,.bin (.int .eql) (.t 9) (.c (.int .i64 25)),none,[9]⟩,ad 33 34])
 (.cond (.t 33)
 (.seq (.ak [ad 35 4,⟨some 36,.call 100 [(.c (.int .i64 3)),(.t 35)],none,[35]⟩,ad 37 4,G5 38 37,ad 2 36,ad 3 38])
 (.ret))
 (.seq (.seq (.ak [⟨some 40,.bin (.int .eql) (.t 9) (.c (.int .i64 26)),none,[9]⟩,ad 39 40])
 (.cond (.t 39)
 (.skip)
 (.seq (.ak [⟨some 41,.bin (.int .eql) (.t 9) (.c (.int .i64 28)),none,[9]⟩,ad 39 41])
 (.cond (.t 39)
 (.skip)
 (.seq (.ak [⟨some 42,.bin (.int .eql) (.t 9) (.c (.int .i64 35)),none,[9]⟩,ad 39 42])
 (.cond (.t 39)
 (.skip)
 (.seq (.ak [⟨some 43,.bin (.int .eql) (.t 9) (.c (.int .i64 37)),none,[9]⟩,ad 39 43])
 (.cond (.t 39)
 (.skip)
 (.ak [⟨some 44,.bin (.int .eql) (.t 9) (.c (.int .i64 38)),none,[9]⟩,ad 39 44])))))))))
 (.cond (.t 39)
 (.seq (.ak [⟨some 45,.call 100 [(.c (.int .i64 3)),(.c (.int .i64 2))],none,[]⟩,ad 46 4,vt 47 46,ad 2 45,ad 3 47])
 (.ret))
 (.seq (.seq (.ak [⟨some 49,.bin (.int .eql) (.t 9) (.c (.int .i64 34)),none,[9]⟩,ad 48 49])
 (.cond (.t 48)
 (.skip)
 (.seq (.ak [⟨some 50,.bin (.int .eql) (.t 9) (.c (.int .i64 36)),none,[9]⟩,ad 48 50])
 (.cond (.t 48)
 (.skip)
 (.ak [⟨some 51,.bin (.int .eql) (.t 9) (.c (.int .i64 39)),none,[9]⟩,ad 48 51])))))
 (.cond (.t 48)
 (.seq (.ak [⟨some 52,.call 100 [(.c (.int .i64 3)),(.c (.int .i64 1))],none,[]⟩,ad 53 4,vr 54 53,ad 2 52,ad 3 54])
 (.ret))
 (.seq (.ak [⟨some 56,.bin (.int .eql) (.t 9) (.c (.int .i64 31)),none,[9]⟩,ad 55 56])
 (.cond (.t 55)
 (.seq (.ak [⟨some 57,.call 100 [(.c (.int .i64 3)),(.c (.int .i64 3))],none,[]⟩,ad 58 4,xB 59 58,ad 2 57,ad 3 59])
 (.ret))
 (.seq (.seq (.ak [⟨some 61,.bin (.int .eql) (.t 9) (.c (.int .i64 27)),none,[9]⟩,ad 60 61])
 (.cond (.t 60)
 (.skip)
 (.seq (.ak [G4 62 9,ad 60 62])
 (.cond (.t 60)
 (.skip)
 (.ak [⟨some 63,.bin (.int .eql) (.t 9) (.c (.int .i64 52)),none,[9]⟩,ad 60 63])))))
 (.cond (.t 60)
 (.seq (.ak [⟨some 64,.gq 2 1 [(.int .i64 0)] [(0,1,(.c (.int .i64 2))),(1,1,(.c (.int .i64 3)))],none,[]⟩,ad 65 4,vt 66 65,ad 2 64,ad 3 66])
 (.ret))
 (.seq (.ak [⟨some 68,.bin (.int .eql) (.t 9) (.c (.int .i64 29)),none,[9]⟩,ad 67 68])
 (.cond (.t 67)
 (.seq (.ak [⟨some 69,.gq 3 1 [(.int .i64 0)] [(0,1,(.c (.int .i64 2))),(1,1,(.c (.int .i64 3))),(2,1,(.c (.int .i64 3)))],none,[]⟩,ad 70 4,xB 71 70,ad 2 69,ad 3 71])
 (.ret))
 (.seq (.ak [⟨some 73,.bin (.int .eql) (.t 9) (.c (.int .i64 30)),none,[9]⟩,ad 72 73])
 (.cond (.t 72)
 (.seq (.ak [ad 74 4,G6 75 74,⟨some 76,.call 100 [(.c (.int .i64 5)),(.t 75)],none,[75]⟩,⟨some 77,.gq 1 1 [(.int .i64 0)] [(0,1,(.c (.int .i64 3)))],none,[]⟩,py 78 76 77,ad 79 4,⟨some 80,.bin (.int .geq) (.t 79) (.c (.int .i64 2)),none,[79]⟩,ad 2 78,ad 3 80])
 (.ret))
 (.seq (.seq (.ak [⟨some 82,.bin (.int .eql) (.t 9) (.c (.int .i64 32)),none,[9]⟩,ad 81 82])
 (.cond (.t 81)
 (.skip)
 (.ak [⟨some 83,.bin (.int .eql) (.t 9) (.c (.int .i64 33)),none,[9]⟩,ad 81 83])))
 (.cond (.t 81)
 (.seq (.ak [⟨some 84,.gq 1 1 [(.int .i64 0)] [(0,1,(.c (.int .i64 3)))],none,[]⟩,ad 85 4,G6 86 85,⟨some 87,.call 100 [(.c (.int .i64 4)),(.t 86)],none,[86]⟩,py 88 84 87,ad 89 4,⟨some 90,.bin (.int .geq) (.t 89) (.c (.int .i64 2)),none,[89]⟩,ad 2 88,ad 3 90])
 (.ret))
 (.seq (.ak [CZ 92 9,ad 91 92])
 (.cond (.t 91)
 (.seq (.draw [ad 94 4,vr 95 94,⟨some 93,.call 100 [(.c (.int .i64 3)),(.c (.int .i64 1))],none,[]⟩,ad 96 95,⟨some 97,.er 4 (.t 1),(some (96,true)),[1,96]⟩,ky 98 97 96,⟨some 99,.bW 5 (.t 98) (.c (.int .i64 0)),(some (96,true)),[98,96]⟩,zY 100 99 96,ky 101 100 96,⟨some 102,.bin (.int .eql) (.t 101) (.c (.int .i64 27)),(some (96,true)),[101,96]⟩,ft 103 96 102,ad 2 93,ad 3 103] [(5,[13]),(8,[13])])
 (.ret))
 (.seq (.seq (.ak [C0 105 9,ad 104 105])
 (.cond (.t 104)
 (.skip)
 (.ak [⟨some 106,.bin (.int .eql) (.t 9) (.c (.int .i64 51)),none,[9]⟩,ad 104 106])))
 (.cond (.t 104)
 (.seq (.ak [ad 107 4,⟨some 108,.call 100 [(.c (.int .i64 1)),(.t 107)],none,[107]⟩,ad 109 4,G5 110 109,ad 2 108,ad 3 110])
 (.ret))
 (.seq (.ak [C1 112 9,ad 111 112])
 (.cond (.t 111)
 (.seq (.draw [ef 113 1,bD 114 113,ad 116 4,ef 117 1,bD 118 117,vs 119 116 118,⟨some 115,.call 100 [(.c (.int .i64 8)),(.t 114)],none,[114]⟩,⟨some 120,.call 100 [(.c (.int .i64 6)),(.t 119)],none,[119]⟩,py 121 115 120,ad 2 121,mL 3] [(1,[6]),(4,[6,7])])
 (.ret))
 (.seq (.ak [⟨some 123,.bin (.int .eql) (.t 9) (.c (.int .i64 53)),none,[9]⟩,ad 122 123])
 (.cond (.t 122)
 (.seq (.ak [ad 124 4,⟨some 125,.call 100 [(.c (.int .i64 5)),(.t 124)],none,[124]⟩,ad 126 4,G3 127 126,ad 2 125,ad 3 127])
 (.ret))
 (.skip)))))))))))))))))))))))))))))))))))
 (.seq (.ak [ad 128 4,r8 129 128,gf 2,ad 3 129])
 (.ret))))
theorem Zv:cH 69 130 Tryz.f69 OY [.t 2,.t 3]:=⟨Tryz.func69,by kernel_rfl⟩
def O0:aX:=
 .seq (.ak [eS 19 18 17])
 (.seq (.cond (.t 19)
 (.skip)
 (.exit 0))
 (.seq (.block 1 (.seq (.ak [fD 20 16 18,ez 21 20,tJ 7,⟨none,.st 5 (.t 7) (.t 21),none,[7,21]⟩])
 (.seq (.draw [ad 23 4,dO 24 23,dU 25 24,bD 26 25,dU 27 7,bD 28 27,ML 29 26 28,ad 22 29,j4 30 22,j5 31 22,tJ 8,⟨none,.st 5 (.t 8) (.t 30),none,[8,30]⟩,ad 9 31] [(3,[11]),(5,[11]),(6,[11])])
 (.seq (.ak [ef 32 7,bD 33 32,lG 34 7,bD 35 34,⟨some 36,.build [(.str []),(.int .i64 0)] [(0,1,(.t 33)),(1,1,(.t 35))],none,[33,35]⟩,⟨some 10,.new [(.str []),(.int .i64 0)],none,[]⟩,⟨none,.st 2 (.t 10) (.t 36),none,[10,36]⟩])
 (.seq (.seq (.ak [ad 37 9,ad 38 37,ee 39 5 38,⟨some 40,.hJ 2 (.t 10),(some (38,false)),[10,38]⟩,⟨some 41,.looks 152 (.bool false) false (.t 39) (.t 40),(some (38,false)),[39,40,38]⟩,ea 42 38 41,ad 43 42,vq 44 7 43,fL 45 44 43,vn 46 45 43,⟨some 47,.bin (.int .gtr) (.t 46) (.c (.int .i64 1)),(some (43,false)),[46,43]⟩,ea 48 43 47,ad 49 48,tI 50 7 49,fL 51 50 49,⟨some 52,.build [(.int .i64 0),(.int .i64 0),(.int .i64 0),(.str []),.bu] [(0,1,(.c (.int .i64 16))),(3,1,(.t 51))],(some (49,false)),[51,49]⟩,⟨some 53,.call 37 [(.t 52)],(some (49,false)),[52,49]⟩,oA 54 53 49,ea 55 49 54])
 (.cond (.t 55)
 (.seq (.ak [xw 2,dm 3])
 (.ret))
 (.skip)))
 (.seq (.ak [ad 56 5,⟨some 57,.hJ 2 (.t 10),none,[10]⟩,⟨none,.zD 152 (.t 56) (.t 57) (.c (.bool true)),none,[56,57]⟩])
 (.draw [ad 58 4,dO 59 58,dU 60 59,bD 61 60,dU 62 7,bD 63 62,ez 64 7,⟨none,.pt .str (.t 61) (.t 63) (.t 64),none,[61,63,64]⟩] [(3,[7]),(5,[7]),(6,[7])])))))))
 (.ak [eh 65 18,ad 18 65])))
def OZ:aX:=
 .seq (.ak [xw 2,dm 3])
 (.seq (.ak [⟨some 11,.s7 none,none,[]⟩,ad 12 0,⟨some 13,.build [.jW,.bu] [(0,1,(.t 11)),(1,1,(.t 12))],none,[11,12]⟩,hd 14 13,ad 4 14])
 (.seq (.ak [⟨some 15,.s7 none,none,[]⟩,ad 5 15])
 (.seq (.seq (.ak [ad 16 0,dE 17 16,dw 18])
 (.block 0 (.loop O0)))
 (.seq (.ak [ad 66 4,ad 2 66,mL 3])
 (.ret)))))
theorem Zw:cH 70 67 Tryz.f70 OZ [.t 2,.t 3]:=⟨Tryz.func70,by kernel_rfl⟩
def O2:aX:=
 .seq (.ak [eS 25 24 23])
 (.seq (.cond (.t 25)
 (.skip)
 (.exit 0))
 (.seq (.block 1 (.seq (.ak [fD 26 22 24,ez 27 26,qT 7,⟨none,.st 5 (.t 7) (.t 27),none,[7,27]⟩])
 (.seq (.ak [ez 28 7,⟨some 29,.call 72 [(.t 28)],none,[28]⟩,kx 30 29])
 (.cond (.t 30)
 (.ak [ad 31 5,ez 32 7,qQ 33 32,xy 34 31 33,ad 5 34])
 (.skip)))))
 (.ak [eh 35 24,ad 24 35])))
def HY:aX:=
 .seq (.seq (.draw [ad 95 10,zZ 96 15,G7 97 95 96,dE 98 97,i' 99 12,bD 100 99,dE 101 100,eS 102 98 101] [])
 (.cond (.t 102)
 (.skip)
 (.exit 4)))
 (.block 5 (.ak [ad 103 10,zZ 104 15,⟨some 106,.gq 1 1 [.bu] [(0,1,(.c .bu))],none,[]⟩,⟨some 107,.yY 111 .bu (.t 103) (.t 104),none,[103,104]⟩,j4 105 107,py 108 105 106,j5 109 107,⟨none,.x5 (.t 103) (.t 109) (.t 108),none,[103,109,108]⟩]))
def HZ:aX:=
 .seq (.ak [eS 114 113 112])
 (.seq (.cond (.t 114)
 (.skip)
 (.exit 6))
 (.seq (.block 7 (.seq (.ak [ad 115 113,fD 116 111 113,ez 117 116,qT 17,ad 16 115,⟨none,.st 5 (.t 17) (.t 117),none,[17,117]⟩])
 (.draw [ad 118 10,zZ 119 15,G7 120 118 119,ad 121 16,ad 122 10,zZ 123 15,G7 124 122 123,ad 125 16,nH 126 124 125,bD 127 126,ez 128 17,qQ 129 128,xy 130 127 129,nH 131 120 121,⟨none,.st 1 (.t 131) (.t 130),none,[131,130]⟩] [(1,[12,14]),(2,[12,14]),(5,[12]),(6,[12]),(9,[12]),(10,[12])])))
 (.ak [eh 132 113,ad 113 132])))
def O3:aX:=
 .seq (.ak [eS 57 56 55])
 (.seq (.cond (.t 57)
 (.skip)
 (.exit 2))
 (.seq (.block 3 (.seq (.ak [fD 58 54 56,ez 59 58,qT 12,⟨none,.st 5 (.t 12) (.t 59),none,[12,59]⟩])
 (.seq (.seq (.ak [dU 60 12,bD 61 60,ad 62 8,vm 63 61 62])
 (.cond (.t 63)
 (.seq (.ak [dm 4])
 (.ret))
 (.skip)))
 (.seq (.seq (.ak [ad 64 8,zX 65 64])
 (.cond (.t 65)
 (.seq (.draw [ad 67 0,dO 68 67,dU 69 68,bD 70 69,i_ 71 12,bD 72 71,ML 73 70 72,ad 66 73,j4 74 66,j5 75 66,tJ 13,⟨none,.st 5 (.t 13) (.t 74),none,[13,74]⟩,ad 14 75] [(3,[11]),(5,[11]),(6,[11])])
 (.seq (.ak [ad 76 14,kx 77 76,ad 78 77,qR 79 13 78,fL 80 79 78,ee 81 9 78,⟨some 82,.bin (.str .neq) (.t 80) (.t 81),(some (78,false)),[80,81,78]⟩,ea 83 78 82,ad 84 83,vq 85 13 84,fL 86 85 84,vn 87 86 84,vq 88 12 84,fL 89 88 84,vn 90 89 84,CS 91 87 90 84,ea 92 84 91])
 (.cond (.t 92)
 (.seq (.ak [dm 4])
 (.ret))
 (.skip))))
 (.skip)))
 (.seq (.ak [ez 93 12,⟨some 94,.call 73 [(.t 93)],none,[93]⟩,⟨some 15,.new [(.int .i64 0),(.int .i64 0),(.str []),(.int .i64 0)],none,[]⟩,⟨none,.st 4 (.t 15) (.t 94),none,[15,94]⟩])
 (.seq (.block 4 (.loop HY))
 (.seq (.ak [i' 110 12,bD 111 110,dE 112 111,dw 113])
 (.block 6 (.loop HZ)))))))))
 (.ak [eh 133 56,ad 56 133])))
def O4:aX:=
 .seq (.ak [eS 143 142 141])
 (.seq (.cond (.t 143)
 (.skip)
 (.exit 10))
 (.seq (.block 11 (.seq (.ak [nH 144 140 142,bD 145 144,ad 21 145])
 (.seq (.ak [ad 146 0,ad 147 21,⟨some 148,.call 71 [(.t 146),(.t 147)],none,[146,147]⟩,kx 149 148])
 (.cond (.t 149)
 (.seq (.ak [dm 4])
 (.ret))
 (.skip)))))
 (.ak [eh 150 142,ad 142 150])))
def O5:aX:=
 .seq (.ak [⟨some 136,.mG (.t 135),none,[135]⟩,j4 137 136])
 (.seq (.cond (.t 137)
 (.skip)
 (.exit 8))
 (.block 9 (.seq (.ak [⟨some 138,.xZ (.t 135),none,[135]⟩,j5 139 138,ad 19 139])
 (.seq (.ak [ad 140 19,dE 141 140,dw 142])
 (.block 10 (.loop O4))))))
def O1:aX:=
 .seq (.ak [dm 4])
 (.seq (.ak [gf 5])
 (.seq (.seq (.ak [ad 22 1,dE 23 22,dw 24])
 (.block 0 (.loop O2)))
 (.seq (.seq (.ak [ad 36 5,dE 37 36,r8 38 37])
 (.cond (.t 38)
 (.seq (.ak [mL 4])
 (.ret))
 (.skip)))
 (.seq (.draw [ad 39 5,xx 40 39,dU 41 40,bD 42 41,ad 43 0,dO 44 43,dU 45 44,bD 46 45,ad 47 5,xx 48 47,i_ 49 48,bD 50 49,MK 51 46 50,⟨some 52,.oW 1 (.t 51),none,[51]⟩,ad 8 42,ad 9 52] [])
 (.seq (.ak [⟨some 53,.s7 none,none,[]⟩,ad 10 53])
 (.seq (.seq (.ak [ad 54 5,dE 55 54,dw 56])
 (.block 2 (.loop O3)))
 (.seq (.seq (.ak [ad 134 10,⟨some 135,.zm (.t 134),none,[134]⟩])
 (.block 8 (.loop O5)))
 (.seq (.ak [mL 4])
 (.ret)))))))))
theorem Zx:cH 71 151 Tryz.f71 O1 [.t 4]:=⟨Tryz.func71,by kernel_rfl⟩
def O8:aX:=
 .seq (.ak [hd 1 0,dm 2])
 (.seq (.ak [dU 3 1,bD 4 3,⟨some 5,.bin (.int .eql) (.t 4) (.c (.int .i64 10)),none,[4]⟩,ad 6 5,tI 7 1 6,fL 8 7 6,⟨some 9,.bin (.int .eql) (.t 8) (.c (.int .i64 11)),(some (6,false)),[8,6]⟩,ea 10 6 9,ad 2 10])
 (.ret))
theorem Zz:cH 72 11 Tryz.f72 O8 [.t 2]:=⟨Tryz.func72,by kernel_rfl⟩
def O9:aX:=
 .seq (.ak [hd 1 0,⟨some 2,.new [(.int .i64 0),(.int .i64 0),(.str []),(.int .i64 0)],none,[]⟩])
 (.seq (.ak [dU 3 1,bD 4 3,ef 5 1,bD 6 5,i_ 7 1,bD 8 7,i' 9 1,bD 10 9,dE 11 10,⟨some 12,.build [(.int .i64 0),(.int .i64 0),(.str []),(.int .i64 0)] [(0,1,(.t 4)),(1,1,(.t 6)),(2,1,(.t 8)),(3,1,(.t 11))],none,[4,6,8,11]⟩,⟨none,.st 4 (.t 2) (.t 12),none,[2,12]⟩])
 (.ret))
theorem ZA:cH 73 13 Tryz.f73 O9 [.pK 2 4]:=⟨Tryz.func73,by kernel_rfl⟩
def O':aX:=
 .seq (.ak [hd 1 0,dm 2])
 (.seq (.ak [dU 3 1,bD 4 3,⟨some 5,.bin (.int .eql) (.t 4) (.c (.int .i64 10)),none,[4]⟩,ad 6 5,tI 7 1 6,fL 8 7 6,⟨some 9,.bin (.int .eql) (.t 8) (.c (.int .i64 11)),(some (6,false)),[8,6]⟩,ea 10 6 9,ad 2 10])
 (.ret))
theorem ZB:cH 79 11 Tryz.f79 O' [.t 2]:=⟨Tryz.func79,by kernel_rfl⟩
def Pg:aX:=
 .seq (.seq (.ak [ad 5 4,ad 6 0,dE 7 6,eS 8 5 7])
 (.cond (.t 8)
 (.skip)
 (.exit 0)))
 (.seq (.block 1 (.seq (.ak [ad 11 0,ad 12 4,fD 13 11 12,ez 14 13,⟨some 15,.call 79 [(.t 14)],none,[14]⟩,kx 16 15])
 (.cond (.t 16)
 (.ak [ad 17 3,ad 18 0,ad 19 4,fD 20 18 19,ez 21 20,qQ 22 21,xy 23 17 22,ad 3 23])
 (.skip))))
 (.ak [ad 9 4,eh 10 9,ad 4 10]))
def Pf:aX:=
 .seq (.ak [gf 2])
 (.seq (.ak [gf 3])
 (.seq (.seq (.ak [dw 4])
 (.block 0 (.loop Pg)))
 (.seq (.ak [ad 24 3,ad 2 24])
 (.ret))))
theorem ZH:cH 91 25 Tryz.f91 Pf [.t 2]:=⟨Tryz.func91,by kernel_rfl⟩
def Ph:aX:=
 .seq (.ak [dm 6])
 (.seq (.ak [ad 7 0,ad 8 1,⟨some 9,.call 52 [(.t 7),(.t 8)],none,[7,8]⟩,ad 10 9,eo 11 0 10,eo 12 2 10,⟨some 13,.call 52 [(.t 11),(.t 12)],(some (10,true)),[11,12,10]⟩,ft 14 10 13,ad 6 14])
 (.ret))
theorem ZI:cH 92 15 Tryz.f92 Ph [.t 6]:=⟨Tryz.func92,by kernel_rfl⟩
def Pk:aX:=
 .seq (.seq (.ak [ad 7 6,ad 8 0,dE 9 8,eS 10 7 9])
 (.cond (.t 10)
 (.skip)
 (.exit 0)))
 (.seq (.block 1 (.seq (.ak [ad 13 0,ad 14 6,fD 15 13 14,dU 16 15,bD 17 16,ad 18 1,r7 19 17 18])
 (.cond (.t 19)
 (.seq (.ak [ad 20 0,ad 21 6,fD 22 20 21,ez 23 22,⟨none,.st 5 (.t 4) (.t 23),none,[4,23]⟩,mL 5])
 (.ret))
 (.skip))))
 (.ak [ad 11 6,eh 12 11,ad 6 12]))
def Pj:aX:=
 .seq (.ak [tJ 4,dm 5])
 (.seq (.seq (.ak [dw 6])
 (.block 0 (.loop Pk)))
 (.seq (.ak [⟨some 24,.build [(.str []),(.str []),(.int .i64 0),(.int .i64 0),.bu] [],none,[]⟩,⟨none,.st 5 (.t 4) (.t 24),none,[4,24]⟩,dm 5])
 (.ret)))
theorem ZJ:cH 93 25 Tryz.f93 Pj [.pK 4 5,.t 5]:=⟨Tryz.func93,by kernel_rfl⟩
def Pm:aX:=
 .seq (.seq (.ak [ad 6 5,ad 7 0,dE 8 7,eS 9 6 8])
 (.cond (.t 9)
 (.skip)
 (.exit 0)))
 (.seq (.block 1 (.seq (.ak [ad 12 0,ad 13 5,fD 14 12 13,i_ 15 14,bD 16 15,ad 17 1,r7 18 16 17])
 (.cond (.t 18)
 (.seq (.ak [mL 4])
 (.ret))
 (.skip))))
 (.ak [ad 10 5,eh 11 10,ad 5 11]))
def Pl:aX:=
 .seq (.ak [dm 4])
 (.seq (.seq (.ak [dw 5])
 (.block 0 (.loop Pm)))
 (.seq (.ak [dm 4])
 (.ret)))
theorem ZK:cH 94 19 Tryz.f94 Pl [.t 4]:=⟨Tryz.func94,by kernel_rfl⟩
def Pn:aX:=
 .seq (.ak [dw 2])
 (.seq (.block 0 (.seq (.ak [ad 4 0,G3 5 4,ad 6 5,eo 7 0 6,⟨some 8,.bin (.int .leq) (.t 7) (.c (.int .i64 4)),(some (6,true)),[7,6]⟩,ft 9 6 8,ad 3 9])
 (.cond (.t 3)
 (.seq (.ak [⟨some 2,.cq (.c (.int .i64 1)),none,[]⟩])
 (.ret))
 (.seq (.ak [ad 11 0,⟨some 12,.bin (.int .geq) (.t 11) (.c (.int .i64 10)),none,[11]⟩,ad 13 12,eo 14 0 13,⟨some 15,.bin (.int .leq) (.t 14) (.c (.int .i64 16)),(some (13,true)),[14,13]⟩,ft 16 13 15,ad 10 16])
 (.cond (.t 10)
 (.seq (.ak [qS 2])
 (.ret))
 (.seq (.ak [ad 18 0,⟨some 19,.bin (.int .geq) (.t 18) (.c (.int .i64 20)),none,[18]⟩,ad 20 19,eo 21 0 20,⟨some 22,.bin (.int .leq) (.t 21) (.c (.int .i64 39)),(some (20,true)),[21,20]⟩,ft 23 20 22,ad 17 23])
 (.cond (.t 17)
 (.seq (.ak [⟨some 2,.cq (.c (.int .i64 3)),none,[]⟩])
 (.ret))
 (.seq (.ak [ad 25 0,G4 26 25,ad 24 26])
 (.cond (.t 24)
 (.seq (.ak [⟨some 2,.cq (.c (.int .i64 4)),none,[]⟩])
 (.ret))
 (.seq (.ak [ad 28 0,CZ 29 28,ad 27 29])
 (.cond (.t 27)
 (.seq (.ak [⟨some 2,.cq (.c (.int .i64 5)),none,[]⟩])
 (.ret))
 (.seq (.ak [ad 31 0,C0 32 31,ad 30 32])
 (.cond (.t 30)
 (.seq (.ak [⟨some 2,.cq (.c (.int .i64 6)),none,[]⟩])
 (.ret))
 (.seq (.ak [ad 34 0,⟨some 35,.bin (.int .geq) (.t 34) (.c (.int .i64 50)),none,[34]⟩,ad 36 35,eo 37 0 36,⟨some 38,.bin (.int .leq) (.t 37) (.c (.int .i64 53)),(some (36,true)),[37,36]⟩,ft 39 36 38,ad 33 39])
 (.cond (.t 33)
 (.seq (.ak [⟨some 2,.cq (.c (.int .i64 7)),none,[]⟩])
 (.ret))
 (.skip))))))))))))))))
 (.seq (.ak [dw 2])
 (.ret)))
theorem ZL:cH 96 40 Tryz.f96 Pn [.t 2]:=⟨Tryz.func96,by kernel_rfl⟩
def Pp:aX:=
 .seq (.ak [eS 88 87 86])
 (.seq (.cond (.t 88)
 (.skip)
 (.exit 0))
 (.seq (.block 1 (.seq (.ak [ad 89 87,fD 90 85 87,ez 91 90,qT 10,ad 9 89,⟨none,.st 5 (.t 10) (.t 91),none,[10,91]⟩])
 (.seq (.ak [ef 92 5,bD 93 92,ad 11 93])
 (.seq (.block 2 (.seq (.ak [ad 95 9,ad 96 7,dE 97 96,eS 98 95 97,ad 94 98])
 (.cond (.t 94)
 (.ak [ad 99 7,ad 100 9,nH 101 99 100,bD 102 101,ad 11 102])
 (.seq (.ak [ad 104 9,ad 105 7,dE 106 105,ad 107 8,xz 108 106 107,xC 109 104 108,ad 103 109])
 (.cond (.t 103)
 (.ak [i' 110 5,bD 111 110,ad 112 9,ad 113 7,dE 114 113,vs 115 112 114,ad 116 8,vs 117 115 116,nH 118 111 117,bD 119 118,ad 11 119])
 (.skip))))))
 (.seq (.ak [ez 120 10,ad 121 11,⟨some 122,.call 103 [(.t 120),(.t 121)],none,[120,121]⟩,kx 123 122,ad 124 123,ee 125 0 124,vo 126 10 124,⟨some 127,.call 97 [(.t 125),(.t 126)],(some (124,false)),[125,126,124]⟩,oA 128 127 124,ea 129 124 128])
 (.cond (.t 129)
 (.seq (.ak [dm 4])
 (.ret))
 (.skip)))))))
 (.ak [eh 130 87,ad 87 130])))
def Po:aX:=
 .seq (.ak [hd 3 1,dm 4])
 (.seq (.ak [ad 13 0,dU 14 3,bD 15 14,⟨some 16,.look .int (.agg [.bu,(.int .i64 0),(.int .i64 0),(.int .i64 0),.bu,(.int .i64 0),(.int .i64 0),(.int .i64 0)]) true (.t 13) (.t 15),none,[13,15]⟩,ad 12 16,j4 17 12,j5 18 12,⟨some 5,.new [.bu,(.int .i64 0),(.int .i64 0),(.int .i64 0),.bu,(.int .i64 0),(.int .i64 0),(.int .i64 0)],none,[]⟩,⟨none,.st 8 (.t 5) (.t 17),none,[5,17]⟩,ad 6 18])
 (.seq (.seq (.ak [ad 19 6,kx 20 19,ad 21 20,qR 22 3 21,fL 23 22 21,⟨some 24,.er 5 (.t 5),(some (21,false)),[5,21]⟩,⟨some 25,.uA 2 1 (.t 24) (.c (.int .i64 0)),(some (21,false)),[24,21]⟩,fL 26 25 21,⟨some 27,.bin (.int .lss) (.t 23) (.t 26),(some (21,false)),[23,26,21]⟩,ea 28 21 27,ad 29 28,qR 30 3 29,fL 31 30 29,⟨some 32,.er 5 (.t 5),(some (29,false)),[5,29]⟩,⟨some 33,.uA 2 1 (.t 32) (.c (.int .i64 1)),(some (29,false)),[32,29]⟩,fL 34 33 29,⟨some 35,.bin (.int .gtr) (.t 31) (.t 34),(some (29,false)),[31,34,29]⟩,ea 36 29 35,ad 37 36,xt 38 3 37,fL 39 38 37,⟨some 40,.bin (.int .lss) (.t 39) (.c (.int .i64 0)),(some (37,false)),[39,37]⟩,ea 41 37 40,ad 42 41,xt 43 3 42,fL 44 43 42,⟨some 45,.bin (.int .gtr) (.t 44) (.c (.int .i64 65536)),(some (42,false)),[44,42]⟩,ea 46 42 45,ad 47 46,⟨some 48,.er 7 (.t 5),(some (47,false)),[5,47]⟩,fL 49 48 47,⟨some 50,.er 3 (.t 3),(some (47,false)),[3,47]⟩,fL 51 50 47,⟨some 52,.call 101 [(.t 49),(.t 51)],(some (47,false)),[49,51,47]⟩,oA 53 52 47,ea 54 47 53])
 (.cond (.t 54)
 (.seq (.ak [dm 4])
 (.ret))
 (.skip)))
 (.seq (.ak [dU 55 5,bD 56 55,ad 7 56])
 (.seq (.seq (.ak [dU 57 3,bD 58 57,C1 59 58])
 (.cond (.t 59)
 (.ak [⟨some 60,.gq 1 1 [(.int .i64 0)] [(0,1,(.c (.int .i64 8)))],none,[]⟩,ef 61 3,bD 62 61,⟨some 63,.call 102 [(.t 60),(.t 62)],none,[60,62]⟩,ad 7 63])
 (.skip)))
 (.seq (.ak [i' 64 3,bD 65 64,dE 66 65,ad 67 7,dE 68 67,vs 69 66 68,i' 70 5,bD 71 70,dE 72 71,vs 73 69 72,ad 8 73])
 (.seq (.seq (.ak [ad 74 8,lG 75 5,bD 76 75,eS 77 74 76,ad 78 77,ee 79 8 78,⟨some 80,.er 3 (.t 5),(some (78,false)),[5,78]⟩,fL 81 80 78,⟨some 82,.bin (.int .gtr) (.t 79) (.t 81),(some (78,false)),[79,81,78]⟩,ea 83 78 82])
 (.cond (.t 83)
 (.seq (.ak [dm 4])
 (.ret))
 (.skip)))
 (.seq (.seq (.ak [i' 84 3,bD 85 84,dE 86 85,dw 87])
 (.block 0 (.loop Pp)))
 (.seq (.ak [mL 4])
 (.ret)))))))))
theorem ZM:cH 97 131 Tryz.f97 Po [.t 4]:=⟨Tryz.func97,by kernel_rfl⟩
def Pr:aX:=
 .seq (.ak [eS 10 9 8])
 (.seq (.cond (.t 10)
 (.skip)
 (.exit 0))
 (.seq (.block 1 (.seq (.ak [fD 11 7 9,ez 12 11,qT 5,⟨none,.st 5 (.t 5) (.t 12),none,[5,12]⟩])
 (.ak [ad 13 3,ez 14 5,⟨some 15,.call 98 [(.t 14)],none,[14]⟩,⟨some 16,.ev [(.t 13),(.t 15)],none,[13,15]⟩,ad 3 16])))
 (.ak [eh 17 9,ad 9 17])))
def Pq:aX:=
 .seq (.ak [hd 1 0,dw 2])
 (.seq (.ak [dw 3])
 (.seq (.seq (.ak [i' 6 1,bD 7 6,dE 8 7,dw 9])
 (.block 0 (.loop Pr)))
 (.seq (.ak [ad 18 3,eh 19 18,ad 2 19])
 (.ret))))
theorem ZN:cH 98 20 Tryz.f98 Pq [.t 2]:=⟨Tryz.func98,by kernel_rfl⟩
def Ps:aX:=
 .seq (.ak [gf 0])
 (.seq (.ak [MM 1,ad 0 1])
 (.ret))
theorem ZO:cH 99 2 Tryz.f99 Ps [.t 0]:=⟨Tryz.func99,by kernel_rfl⟩
def NC:aX:=
 .seq (.seq (.ak [ad 7 6,ad 8 1,eS 9 7 8])
 (.cond (.t 9)
 (.skip)
 (.exit 0)))
 (.seq (.block 1 (.ak [ad 12 5,ad 13 0,GY 14 13,py 15 12 14,ad 5 15]))
 (.ak [ad 10 6,eh 11 10,ad 6 11]))
def NB:aX:=
 .seq (.ak [gf 4])
 (.seq (.ak [gf 5])
 (.seq (.seq (.ak [dw 6])
 (.block 0 (.loop NC)))
 (.seq (.ak [ad 16 5,ad 4 16])
 (.ret))))
theorem YA:cH 100 17 Tryz.f100 NB [.t 4]:=⟨Tryz.func100,by kernel_rfl⟩
def ND:aX:=
 .seq (.ak [dm 4])
 (.seq (.seq (.ak [ad 5 0])
 (.block 0 (.seq (.ak [vr 7 5,ad 6 7])
 (.cond (.t 6)
 (.seq (.ak [ad 8 1,⟨some 9,.call 104 [(.c (.int .i64 3)),(.t 8)],none,[8]⟩,ad 4 9])
 (.ret))
 (.seq (.ak [vt 11 5,ad 10 11])
 (.cond (.t 10)
 (.seq (.ak [ad 12 1,⟨some 13,.call 104 [(.c (.int .i64 4)),(.t 12)],none,[12]⟩,ad 4 13])
 (.ret))
 (.seq (.ak [xB 15 5,ad 14 15])
 (.cond (.t 14)
 (.seq (.ak [ad 16 1,⟨some 17,.call 104 [(.c (.int .i64 5)),(.t 16)],none,[16]⟩,ad 4 17])
 (.ret))
 (.seq (.ak [G0 19 5,ad 18 19])
 (.cond (.t 18)
 (.seq (.ak [ad 20 1,k8 21 20,⟨some 22,.bin (.int .leq) (.t 21) (.c (.int .i64 4096)),none,[21]⟩,ad 4 22])
 (.ret))
 (.seq (.ak [CX 24 5,ad 23 24])
 (.cond (.t 23)
 (.seq (.ak [MM 25,ad 26 1,⟨some 27,.call 105 [(.t 25),(.t 26)],none,[25,26]⟩,ad 4 27])
 (.ret))
 (.skip)))))))))))))
 (.seq (.ak [ad 28 1,GZ 29 28,ad 4 29])
 (.ret)))
theorem YB:cH 101 30 Tryz.f101 ND [.t 4]:=⟨Tryz.func101,by kernel_rfl⟩
def NG:aX:=
 .seq (.seq (.ak [ad 34 8,ad 35 7,dE 36 35,eS 37 34 36])
 (.cond (.t 37)
 (.skip)
 (.exit 0)))
 (.block 1 (.draw [ad 38 8,ad 39 7,ad 40 8,⟨some 41,.d' 1 (.t 39) (some (.t 40)) none none,none,[39,40]⟩,ad 42 7,ad 43 8,⟨some 44,.d' 1 (.t 42) none (some (.t 43)) none,none,[42,43]⟩,⟨some 45,.copy 1 (.t 41) (.t 44),none,[41,44]⟩,xz 46 38 45,ad 8 46] []))
def NF:aX:=
 .seq (.ak [gf 4])
 (.seq (.seq (.ak [ad 9 1,⟨some 10,.bin (.int .lss) (.t 9) (.c (.int .i64 0)),none,[9]⟩])
 (.cond (.t 10)
 (.ak [⟨some 11,.sU 9 (.c (.str [99,97,110,110,111,116,32,98,101,32,110,101,103,97,116,105,118,101])),none,[]⟩,⟨none,.bad,none,[11]⟩])
 (.skip)))
 (.seq (.ak [ad 13 0,dE 14 13,⟨some 15,.cA (.int .u64) (.t 14),none,[14]⟩,ad 16 1,⟨some 17,.cA (.int .u64) (.t 16),none,[16]⟩,⟨some 18,.call 106 [(.t 15),(.t 17)],none,[15,17]⟩,ad 12 18,j4 19 12,j5 20 12,ad 5 19,ad 6 20])
 (.seq (.seq (.ak [ad 21 5,⟨some 22,.bin (.int .gtr) (.t 21) (.c (.int .u64 0)),none,[21]⟩,ad 23 22,ee 24 6 23,⟨some 25,.bin (.int .gtr) (.t 24) (.c (.int .u64 9223372036854775807)),(some (23,false)),[24,23]⟩,ea 26 23 25])
 (.cond (.t 26)
 (.ak [⟨some 27,.sU 9 (.c (.str [116,104,101,32,114,101,115,117,108,116,32,111,102,32,40,108,101,110,40,120,41,32,42,32,99,111,117,110,116,41,32,111,118,101,114,102,108,111,119,115])),none,[]⟩,⟨none,.bad,none,[27]⟩])
 (.skip)))
 (.seq (.ak [ad 28 6,⟨some 29,.cA (.int .i64) (.t 28),none,[28]⟩,⟨some 30,.yZ 1 [(.int .i64 0)] (.t 29) (.t 29),none,[29,29]⟩,ad 7 30])
 (.seq (.ak [ad 31 7,ad 32 0,⟨some 33,.copy 1 (.t 31) (.t 32),none,[31,32]⟩,ad 8 33])
 (.seq (.block 0 (.loop NG))
 (.seq (.ak [ad 47 7,ad 4 47])
 (.ret))))))))
theorem YC:cH 102 48 Tryz.f102 NF [.t 4]:=⟨Tryz.func102,by kernel_rfl⟩
def NH:aX:=
 .seq (.ak [hd 2 0,dm 4])
 (.seq (.seq (.ak [ad 5 1])
 (.block 0 (.seq (.ak [⟨some 7,.bin (.int .eql) (.t 5) (.c (.int .i64 8)),none,[5]⟩,ad 6 7])
 (.cond (.t 6)
 (.seq (.ak [dU 8 2,bD 9 8,vr 10 9,ad 4 10])
 (.ret))
 (.seq (.ak [⟨some 12,.bin (.int .eql) (.t 5) (.c (.int .i64 9)),none,[5]⟩,ad 11 12])
 (.cond (.t 11)
 (.seq (.ak [dU 13 2,bD 14 13,⟨some 15,.bin (.int .eql) (.t 14) (.c (.int .i64 27)),none,[14]⟩,ad 4 15])
 (.ret))
 (.skip)))))))
 (.seq (.ak [dU 16 2,bD 17 16,⟨some 18,.call 96 [(.t 17)],none,[17]⟩,ad 19 1,⟨some 20,.bin (.int .eql) (.t 18) (.t 19),none,[18,19]⟩,ad 4 20])
 (.ret)))
theorem YD:cH 103 21 Tryz.f103 NH [.t 4]:=⟨Tryz.func103,by kernel_rfl⟩
def NI:aX:=
 .seq (.ak [dm 4])
 (.seq (.seq (.ak [ad 7 1,k8 8 7,⟨some 9,.bin (.int .gtr) (.t 8) (.c (.int .i64 64)),none,[8]⟩,ad 10 9,ee 11 1 10,⟨some 12,.bin (.str .eql) (.t 11) (.c (.str [])),(some (10,false)),[11,10]⟩,ea 13 10 12])
 (.cond (.t 13)
 (.seq (.ak [dm 4])
 (.ret))
 (.skip)))
 (.seq (.seq (.ak [ad 14 0,CX 15 14])
 (.cond (.t 15)
 (.ak [ad 16 1,⟨some 17,.bin (.str .add) (.c (.str [39])) (.t 16),none,[16]⟩,ad 1 17])
 (.skip)))
 (.seq (.ak [ad 19 1,⟨some 20,.call 107 [(.t 19)],none,[19]⟩,ad 18 20,j4 21 18,j5 22 18,⟨some 6,.new [(.int .i64 0),(.int .i64 0)],none,[]⟩,ad 5 21,⟨none,.st 2 (.t 6) (.t 22),none,[6,22]⟩])
 (.seq (.ak [dU 23 6,bD 24 23,r8 25 24,ad 26 25,eo 27 5 26,⟨some 28,.len .slice (.t 27),(some (26,true)),[27,26]⟩,⟨some 29,.bin (.int .eql) (.t 28) (.c (.int .i64 1)),(some (26,true)),[28,26]⟩,ft 30 26 29,ad 31 30,eo 32 5 31,C3 33 32 31,zY 34 33 31,ky 35 34 31,eo 36 0 31,⟨some 37,.bin (.int .eql) (.t 35) (.t 36),(some (31,true)),[35,36,31]⟩,ft 38 31 37,ad 39 38,eo 40 5 39,C3 41 40 39,⟨some 42,.er 2 (.t 41),(some (39,true)),[41,39]⟩,ky 43 42 39,⟨some 44,.bin (.int .eql) (.t 43) (.c (.int .i64 0)),(some (39,true)),[43,39]⟩,ft 45 39 44,ad 46 45,eo 47 5 46,C3 48 47 46,⟨some 49,.er 3 (.t 48),(some (46,true)),[48,46]⟩,ky 50 49 46,⟨some 51,.len .str (.t 50),(some (46,true)),[50,46]⟩,⟨some 52,.bin (.int .gtr) (.t 51) (.c (.int .i64 0)),(some (46,true)),[51,46]⟩,ft 53 46 52,ad 54 53,eo 55 5 54,C3 56 55 54,⟨some 57,.hJ 4 (.t 56),(some (54,true)),[56,54]⟩,eo 58 1 54,⟨some 59,.call 108 [(.t 57),(.t 58)],(some (54,true)),[57,58,54]⟩,ft 60 54 59,ad 4 60])
 (.ret)))))
theorem YE:cH 104 61 Tryz.f104 NI [.t 4]:=⟨Tryz.func104,by kernel_rfl⟩
def NJ:aX:=
 .seq (.ak [dm 4])
 (.seq (.ak [ad 5 0,ad 6 1,⟨some 7,.call 109 [(.t 5),(.t 6)],none,[5,6]⟩,C2 8 7,ad 4 8])
 (.ret))
theorem YF:cH 105 9 Tryz.f105 NJ [.t 4]:=⟨Tryz.func105,by kernel_rfl⟩
def NM:aX:=
 .seq (.ak [hd 2 0,dm 4])
 (.seq (.seq (.ak [dU 5 2,bD 6 5,CX 7 6])
 (.cond (.t 7)
 (.seq (.ak [ad 8 1,i_ 9 2,bD 10 9,⟨some 11,.bin (.str .add) (.c (.str [39])) (.t 10),none,[10]⟩,r7 12 8 11,ad 4 12])
 (.ret))
 (.skip)))
 (.seq (.ak [ad 13 1,i_ 14 2,bD 15 14,r7 16 13 15,ad 4 16])
 (.ret)))
theorem YH:cH 108 17 Tryz.f108 NM [.t 4]:=⟨Tryz.func108,by kernel_rfl⟩
def NO:aX:=
 .seq (.ak [eS 9 8 7])
 (.seq (.cond (.t 9)
 (.skip)
 (.exit 0))
 (.seq (.block 1 (.seq (.ak [ad 10 8,ad 5 10])
 (.seq (.ak [ad 11 1,ad 12 0,ad 13 5,nH 14 12 13,bD 15 14,r7 16 11 15])
 (.cond (.t 16)
 (.seq (.ak [ad 17 5,ad 4 17])
 (.ret))
 (.skip)))))
 (.ak [eh 18 8,ad 8 18])))
def NN:aX:=
 .seq (.ak [dw 4])
 (.seq (.seq (.ak [ad 6 0,dE 7 6,dw 8])
 (.block 0 (.loop NO)))
 (.seq (.ak [⟨some 4,.cq (.c (.int .i64 (-1))),none,[]⟩])
 (.ret)))
theorem YI:cH 109 19 Tryz.f109 NN [.t 4]:=⟨Tryz.func109,by kernel_rfl⟩
def O_:aX:=
 .seq (.ak [dm 2])
 (.seq (.ak [ad 3 0,G1 4 3,ad 5 4,ee 6 0 5,⟨some 7,.call 88 [(.t 6),(.c (.int .u8 65)),(.c (.int .u8 90))],(some (5,false)),[6,5]⟩,ea 8 5 7,ad 9 8,ee 10 0 9,⟨some 11,.call 88 [(.t 10),(.c (.int .u8 48)),(.c (.int .u8 57))],(some (9,false)),[10,9]⟩,ea 12 9 11,ad 13 12,ee 14 0 13,CY 15 14 13,ea 16 13 15,ad 17 16,ee 18 0 17,⟨some 19,.bin (.int .eql) (.t 18) (.c (.int .u8 39)),(some (17,false)),[18,17]⟩,ea 20 17 19,ad 2 20])
 (.ret))
theorem ZD:cH 87 21 Tryz.f87 O_ [.t 2]:=⟨Tryz.func87,by kernel_rfl⟩
def Pa:aX:=
 .seq (.ak [dm 6])
 (.seq (.ak [ad 7 0,ad 8 1,xC 9 7 8,ad 10 9,eo 11 0 10,eo 12 2 10,G2 13 11 12 10,ft 14 10 13,ad 6 14])
 (.ret))
theorem ZE:cH 88 15 Tryz.f88 Pa [.t 6]:=⟨Tryz.func88,by kernel_rfl⟩
def Pc:aX:=
 .seq (.seq (.ak [ad 6 5,ad 7 1,dE 8 7,eS 9 6 8])
 (.cond (.t 9)
 (.skip)
 (.exit 0)))
 (.seq (.block 1 (.seq (.ak [ad 12 1,ad 13 5,nH 14 12 13,bD 15 14,ad 16 0,r7 17 15 16])
 (.cond (.t 17)
 (.seq (.ak [mL 4])
 (.ret))
 (.skip))))
 (.ak [ad 10 5,eh 11 10,ad 5 11]))
def Pb:aX:=
 .seq (.ak [dm 4])
 (.seq (.seq (.ak [dw 5])
 (.block 0 (.loop Pc)))
 (.seq (.ak [dm 4])
 (.ret)))
theorem ZF:cH 89 18 Tryz.f89 Pb [.t 4]:=⟨Tryz.func89,by kernel_rfl⟩
def Pe:aX:=
 .seq (.ak [gf 0])
 (.seq (.ak [⟨some 1,.gq 20 1 [(.str [])] [(0,1,(.c (.str [97,110,100]))),(1,1,(.c (.str [98,101,103,105,110]))),(2,1,(.c (.str [101,108,115,101]))),(3,1,(.c (.str [101,110,100]))),(4,1,(.c (.str [101,120,99,101,112,116,105,111,110]))),(5,1,(.c (.str [102,97,108,115,101]))),(6,1,(.c (.str [102,117,110]))),(7,1,(.c (.str [105,102]))),(8,1,(.c (.str [105,110]))),(9,1,(.c (.str [108,101,116]))),(10,1,(.c (.str [109,97,116,99,104]))),(11,1,(.c (.str [109,111,100]))),(12,1,(.c (.str [111,102]))),(13,1,(.c (.str [114,97,105,115,101]))),(14,1,(.c (.str [114,101,99]))),(15,1,(.c (.str [116,104,101,110]))),(16,1,(.c (.str [116,114,117,101]))),(17,1,(.c (.str [116,114,121]))),(18,1,(.c (.str [116,121,112,101]))),(19,1,(.c (.str [119,105,116,104])))],none,[]⟩,ad 0 1])
 (.ret))
theorem ZG:cH 90 2 Tryz.f90 Pe [.t 0]:=⟨Tryz.func90,by kernel_rfl⟩
def NL:aX:=
 .block 1 (.seq (.ak [ad 24 5,dO 25 24,ef 26 25,bD 27 26,ad 7 27])
 (.seq (.block 2 (.seq (.ak [ad 37 7,ad 38 0,k8 39 38,xC 40 37 39,ad 36 40])
 (.cond (.t 36)
 (.exit 0)
 (.seq (.ak [ad 42 0,ad 43 7,CV 44 42 43,⟨some 45,.call 113 [(.c (.str [9,10,13,32])),(.t 44)],none,[44]⟩,C2 46 45,ad 41 46])
 (.cond (.t 41)
 (.ak [ad 47 5,dO 48 47,ef 49 48,bD 50 49,eh 51 50,dO 52 47,ef 53 52,⟨none,.st 1 (.t 53) (.t 51),none,[53,51]⟩])
 (.seq (.ak [ad 55 5,⟨some 56,.call 114 [(.t 55),(.c (.str [40,42]))],none,[55]⟩,ad 54 56])
 (.cond (.t 54)
 (.ak [ad 57 5,⟨some 58,.call 115 [(.t 57)],none,[57]⟩])
 (.seq (.ak [ad 28 5,⟨some 29,.call 116 [(.t 28)],none,[28]⟩,z1 8,⟨none,.st 4 (.t 8) (.t 29),none,[8,29]⟩])
 (.seq (.ak [ad 30 7,lG 31 8,⟨none,.st 1 (.t 31) (.t 30),none,[31,30]⟩])
 (.ak [ad 32 6,zZ 33 8,⟨some 34,.gq 1 4 [(.int .i64 0),(.int .i64 0),(.int .i64 0),(.str [])] [(0,4,(.t 33))],none,[33]⟩,⟨some 35,.app 4 (.t 32) (.t 34),none,[32,34]⟩,ad 6 35]))))))))))
 (.seq (.ak [ad 59 5,dO 60 59,lG 61 60,bD 62 61,GQ 63 62])
 (.cond (.t 63)
 (.seq (.draw [ad 64 5,dO 65 64,lG 66 65,bD 67 66,ad 68 7,⟨some 69,.build [(.int .i64 0),(.int .i64 0)] [(0,1,(.t 67)),(1,1,(.t 68))],none,[67,68]⟩,gf 2,⟨none,.st 2 (.t 3) (.t 69),none,[3,69]⟩] [(3,[7])])
 (.ret))
 (.skip)))))
def NK:aX:=
 .seq (.ak [gf 2,⟨some 3,.new [(.int .i64 0),(.int .i64 0)],none,[]⟩])
 (.seq (.seq (.ak [ad 9 0,k8 10 9,⟨some 11,.bin (.int .gtr) (.t 10) (.c (.int .i64 65536)),none,[10]⟩])
 (.cond (.t 11)
 (.seq (.ak [⟨some 12,.build [(.int .i64 0),(.int .i64 0)] [(0,1,(.c (.int .i64 3)))],none,[]⟩,gf 2,⟨none,.st 2 (.t 3) (.t 12),none,[3,12]⟩])
 (.ret))
 (.skip)))
 (.seq (.seq (.ak [ad 13 0,⟨some 14,.call 112 [(.t 13)],none,[13]⟩,ad 4 14])
 (.seq (.ak [ad 15 4,ad 16 0,k8 17 16,eS 18 15 17])
 (.cond (.t 18)
 (.seq (.ak [ad 19 4,⟨some 20,.build [(.int .i64 0),(.int .i64 0)] [(0,1,(.c (.int .i64 250))),(1,1,(.t 19))],none,[19]⟩,gf 2,⟨none,.st 2 (.t 3) (.t 20),none,[3,20]⟩])
 (.ret))
 (.skip))))
 (.seq (.ak [ad 21 0,⟨some 22,.build [(.str []),(.int .i64 0),(.int .i64 0)] [(0,1,(.t 21))],none,[21]⟩,hd 23 22,ad 5 23])
 (.seq (.ak [gf 6])
 (.seq (.skip)
 (.seq (.block 0 (.loop NL))
 (.seq (.ak [ad 70 6,⟨some 71,.build [(.int .i64 0),(.int .i64 0)] [],none,[]⟩,ad 2 70,⟨none,.st 2 (.t 3) (.t 71),none,[3,71]⟩])
 (.ret))))))))
theorem YG:cH 107 72 Tryz.f107 NK [.t 2,.pK 3 2]:=⟨Tryz.func107,by kernel_rfl⟩
def NQ:aX:=
 .seq (.ak [⟨some 9,.wY (.t 8),none,[8]⟩,j4 10 9])
 (.seq (.cond (.t 10)
 (.skip)
 (.exit 0))
 (.block 1 (.seq (.ak [j5 11 9,⟨some 12,.ext (.t 9) 2,none,[9]⟩,ad 3 11,ad 4 12])
 (.seq (.ak [ad 13 4,⟨some 14,.bin (.int .eql) (.t 13) (.c (.int .i32 65533)),none,[13]⟩])
 (.cond (.t 14)
 (.seq (.ak [ad 16 0,ad 17 3,G8 18 16 17,⟨some 19,.call 117 [(.t 18)],none,[18]⟩,ad 15 19,j4 20 15,j5 21 15,ad 5 20,ad 6 21])
 (.seq (.ak [ad 22 6,vr 23 22])
 (.cond (.t 23)
 (.seq (.ak [ad 24 3,ad 2 24])
 (.ret))
 (.skip))))
 (.skip))))))
def NP:aX:=
 .seq (.ak [dw 2])
 (.seq (.seq (.ak [ad 7 0,⟨some 8,.zn (.t 7),none,[7]⟩])
 (.block 0 (.loop NQ)))
 (.seq (.ak [ad 25 0,k8 26 25,ad 2 26])
 (.ret)))
theorem YK:cH 112 27 Tryz.f112 NP [.t 2]:=⟨Tryz.func112,by kernel_rfl⟩
def NR:aX:=
 .seq (.ak [dw 4])
 (.seq (.ak [ad 5 0,ad 6 1,⟨some 7,.call 118 [(.t 5),(.t 6)],none,[5,6]⟩,ad 4 7])
 (.ret))
theorem YL:cH 113 8 Tryz.f113 NR [.t 4]:=⟨Tryz.func113,by kernel_rfl⟩
def NS:aX:=
 .seq (.ak [dm 4])
 (.seq (.draw [ad 5 0,dO 6 5,dU 7 6,bD 8 7,ad 9 0,dO 10 9,ef 11 10,bD 12 11,G8 13 8 12,ad 14 1,⟨some 15,.call 119 [(.t 13),(.t 14)],none,[13,14]⟩,ad 4 15] [(3,[10]),(7,[10])])
 (.ret))
theorem YM:cH 114 16 Tryz.f114 NS [.t 4]:=⟨Tryz.func114,by kernel_rfl⟩
def NU:aX:=
 .block 1 (.block 2 (.seq (.draw [ad 11 0,dO 12 11,ef 13 12,bD 14 13,ad 15 0,dO 16 15,dU 17 16,bD 18 17,k8 19 18,xC 20 14 19,ad 10 20] [])
 (.cond (.t 10)
 (.seq (.ak [ad 21 0,dO 22 21,lG 23 22,⟨none,.st 1 (.t 23) (.c (.int .i64 253)),none,[23]⟩])
 (.ret))
 (.seq (.ak [ad 25 0,⟨some 26,.call 114 [(.t 25),(.c (.str [40,42]))],none,[25]⟩,ad 24 26])
 (.cond (.t 24)
 (.seq (.ak [ad 27 2,eh 28 27,ad 2 28])
 (.ak [ad 29 0,dO 30 29,ef 31 30,bD 32 31,⟨some 33,.bin (.int .add) (.t 32) (.c (.int .i64 2)),none,[32]⟩,dO 34 29,ef 35 34,⟨none,.st 1 (.t 35) (.t 33),none,[35,33]⟩]))
 (.seq (.ak [ad 37 0,⟨some 38,.call 114 [(.t 37),(.c (.str [42,41]))],none,[37]⟩,ad 36 38])
 (.cond (.t 36)
 (.seq (.ak [ad 39 2,G6 40 39,ad 2 40])
 (.seq (.ak [ad 41 0,dO 42 41,ef 43 42,bD 44 43,⟨some 45,.bin (.int .add) (.t 44) (.c (.int .i64 2)),none,[44]⟩,dO 46 41,ef 47 46,⟨none,.st 1 (.t 47) (.t 45),none,[47,45]⟩])
 (.seq (.ak [ad 48 2,r8 49 48])
 (.cond (.t 49)
 (.ret)
 (.skip)))))
 (.ak [ad 3 0,dO 4 3,ef 5 4,bD 6 5,eh 7 6,dO 8 3,ef 9 8,⟨none,.st 1 (.t 9) (.t 7),none,[9,7]⟩]))))))))
def NT:aX:=
 .seq (.ak [dw 2])
 (.block 0 (.loop NU))
theorem YN:cH 115 50 Tryz.f115 NT []:=⟨Tryz.func115,by kernel_rfl⟩
def NW:aX:=
 .seq (.ak [eS 80 79 78])
 (.seq (.cond (.t 80)
 (.skip)
 (.exit 1))
 (.seq (.block 2 (.seq (.ak [nH 81 77 79,bD 82 81,ad 5 82])
 (.seq (.ak [ad 83 0,ad 84 5,⟨some 85,.call 114 [(.t 83),(.t 84)],none,[83,84]⟩])
 (.cond (.t 85)
 (.seq (.ak [ad 86 0,dO 87 86,ef 88 87,bD 89 88,ad 90 5,k8 91 90,xz 92 89 91,dO 93 86,ef 94 93,⟨none,.st 1 (.t 94) (.t 92),none,[94,92]⟩])
 (.seq (.ak [ad 95 5,MN 96 95,⟨none,.st 4 (.t 2) (.t 96),none,[2,96]⟩])
 (.ret)))
 (.skip)))))
 (.ak [eh 97 79,ad 79 97])))
def NV:aX:=
 .seq (.ak [z1 2])
 (.seq (.draw [ad 6 0,dO 7 6,dU 8 7,bD 9 8,ad 10 0,dO 11 10,ef 12 11,bD 13 12,CV 14 9 13,ad 3 14] [])
 (.seq (.block 0 (.seq (.ak [ad 16 3,⟨some 17,.call 120 [(.t 16)],none,[16]⟩,ad 15 17])
 (.cond (.t 15)
 (.seq (.ak [ad 18 0,⟨some 19,.call 121 [(.t 18)],none,[18]⟩,⟨none,.st 4 (.t 2) (.t 19),none,[2,19]⟩])
 (.ret))
 (.seq (.ak [ad 21 3,⟨some 22,.bin (.int .eql) (.t 21) (.c (.int .u8 34)),none,[21]⟩,ad 20 22])
 (.cond (.t 20)
 (.seq (.ak [ad 23 0,⟨some 24,.call 122 [(.t 23)],none,[23]⟩,⟨none,.st 4 (.t 2) (.t 24),none,[2,24]⟩])
 (.ret))
 (.seq (.ak [ad 26 3,⟨some 27,.call 123 [(.t 26)],none,[26]⟩,ad 28 27,ee 29 3 28,CY 30 29 28,ea 31 28 30,ad 25 31])
 (.cond (.t 25)
 (.seq (.ak [ad 32 0,⟨some 33,.call 124 [(.t 32),(.c (.int .i64 3))],none,[32]⟩,⟨none,.st 4 (.t 2) (.t 33),none,[2,33]⟩])
 (.ret))
 (.seq (.ak [ad 35 3,⟨some 36,.call 125 [(.t 35)],none,[35]⟩,ad 34 36])
 (.cond (.t 34)
 (.seq (.ak [ad 37 0,⟨some 38,.call 124 [(.t 37),(.c (.int .i64 4))],none,[37]⟩,⟨none,.st 4 (.t 2) (.t 38),none,[2,38]⟩])
 (.ret))
 (.seq (.draw [ad 40 3,⟨some 41,.bin (.int .eql) (.t 40) (.c (.int .u8 39)),none,[40]⟩,ad 42 41,eo 43 0 42,xD 44 43 42,xA 45 44 42,ky 46 45 42,⟨some 47,.bin (.int .add) (.t 46) (.c (.int .i64 1)),(some (42,true)),[46,42]⟩,eo 48 0 42,xD 49 48 42,zY 50 49 42,ky 51 50 42,⟨some 52,.len .str (.t 51),(some (42,true)),[51,42]⟩,⟨some 53,.bin (.int .lss) (.t 47) (.t 52),(some (42,true)),[47,52,42]⟩,ft 54 42 53,ad 55 54,eo 56 0 55,xD 57 56 55,zY 58 57 55,ky 59 58 55,eo 60 0 55,xD 61 60 55,xA 62 61 55,ky 63 62 55,⟨some 64,.bin (.int .add) (.t 63) (.c (.int .i64 1)),(some (55,true)),[63,55]⟩,⟨some 65,.mB (.t 59) (.t 64),(some (55,true)),[59,64,55]⟩,⟨some 66,.call 123 [(.t 65)],(some (55,true)),[65,55]⟩,ft 67 55 66,ad 39 67] [(6,[26]),(11,[26]),(19,[26]),(23,[26])])
 (.cond (.t 39)
 (.seq (.ak [ad 68 0,dO 69 68,ef 70 69,bD 71 70,eh 72 71,dO 73 68,ef 74 73,⟨none,.st 1 (.t 74) (.t 72),none,[74,72]⟩])
 (.seq (.ak [ad 75 0,⟨some 76,.call 124 [(.t 75),(.c (.int .i64 5))],none,[75]⟩,⟨none,.st 4 (.t 2) (.t 76),none,[2,76]⟩])
 (.ret)))
 (.skip))))))))))))
 (.seq (.seq (.ak [⟨some 77,.call 126 [],none,[]⟩,dE 78 77,dw 79])
 (.block 1 (.loop NW)))
 (.seq (.ak [ad 98 0,dO 99 98,lG 100 99,⟨none,.st 1 (.t 100) (.c (.int .i64 251)),none,[100]⟩])
 (.seq (.ak [G9 101,⟨none,.st 4 (.t 2) (.t 101),none,[2,101]⟩])
 (.ret))))))
theorem YO:cH 116 102 Tryz.f116 NV [.pK 2 4]:=⟨Tryz.func116,by kernel_rfl⟩
def NX:aX:=
 .seq (.ak [dw 4])
 (.seq (.ak [ad 5 0,ad 6 1,⟨some 7,.call 128 [(.t 5),(.t 6)],none,[5,6]⟩,ad 4 7])
 (.ret))
theorem YP:cH 118 8 Tryz.f118 NX [.t 4]:=⟨Tryz.func118,by kernel_rfl⟩
def c119:aX:=
 .seq (.ak [dm 4])
 (.seq (.ak [ad 5 0,ad 6 1,⟨some 7,.call 129 [(.t 5),(.t 6)],none,[5,6]⟩,ad 4 7])
 (.ret))
theorem YQ:cH 119 8 Tryz.f119 c119 [.t 4]:=⟨Tryz.func119,by kernel_rfl⟩
def NY:aX:=
 .seq (.ak [dm 2])
 (.seq (.ak [ad 3 0,⟨some 4,.bin (.int .geq) (.t 3) (.c (.int .u8 48)),none,[3]⟩,ad 5 4,eo 6 0 5,⟨some 7,.bin (.int .leq) (.t 6) (.c (.int .u8 57)),(some (5,true)),[6,5]⟩,ft 8 5 7,ad 2 8])
 (.ret))
theorem YS:cH 120 9 Tryz.f120 NY [.t 2]:=⟨Tryz.func120,by kernel_rfl⟩
def NZ:aX:=
 .seq (.ak [z1 2])
 (.seq (.ak [ad 7 0,⟨some 8,.call 131 [(.t 7),(.c (.func 120 []))],none,[7]⟩,⟨some 9,.call 130 [(.t 8),(.c (.int .i64 10)),(.c (.int .i64 64))],none,[8]⟩,ad 6 9,j4 10 6,j5 11 6,ad 3 10,ad 4 11])
 (.seq (.seq (.ak [ad 12 4,⟨some 13,.bin (.lb true 5) (.t 12) (.c .nilIface),none,[12]⟩,ad 14 13,ee 15 3 14,⟨some 16,.bin (.int .gtr) (.t 15) (.c (.int .u64 2147483647)),(some (14,false)),[15,14]⟩,ea 17 14 16])
 (.cond (.t 17)
 (.seq (.ak [ad 18 0,dO 19 18,lG 20 19,⟨none,.st 1 (.t 20) (.c (.int .i64 254)),none,[20]⟩])
 (.seq (.ak [G9 21,⟨none,.st 4 (.t 2) (.t 21),none,[2,21]⟩])
 (.ret)))
 (.skip)))
 (.seq (.ak [ad 22 3,⟨some 23,.cA (.int .i64) (.t 22),none,[22]⟩,ad 5 23])
 (.seq (.seq (.ak [ad 24 5,⟨some 25,.bin (.int .gtr) (.t 24) (.c (.int .i64 1073741823)),none,[24]⟩])
 (.cond (.t 25)
 (.ak [ad 26 5,⟨some 27,.bin (.int .sub) (.t 26) (.c (.int .i64 2147483648)),none,[26]⟩,ad 5 27])
 (.skip)))
 (.seq (.ak [ad 28 5,⟨some 29,.build [(.int .i64 0),(.int .i64 0),(.int .i64 0),(.str [])] [(0,1,(.c (.int .i64 1))),(1,1,(.t 28))],none,[28]⟩,⟨none,.st 4 (.t 2) (.t 29),none,[2,29]⟩])
 (.ret))))))
theorem YT:cH 121 30 Tryz.f121 NZ [.pK 2 4]:=⟨Tryz.func121,by kernel_rfl⟩
def N1:aX:=
 .seq (.seq (.ak [ad 12 0,dO 13 12,lG 14 13,bD 15 14,r8 16 15])
 (.cond (.t 16)
 (.skip)
 (.exit 0)))
 (.block 1 (.seq (.seq (.draw [ad 17 0,dO 18 17,ef 19 18,bD 20 19,ad 21 0,dO 22 21,dU 23 22,bD 24 23,k8 25 24,xC 26 20 25] [])
 (.cond (.t 26)
 (.seq (.ak [ad 27 0,dO 28 27,lG 29 28,⟨none,.st 1 (.t 29) (.c (.int .i64 252)),none,[29]⟩])
 (.exit 0))
 (.skip)))
 (.seq (.draw [ad 30 0,dO 31 30,dU 32 31,bD 33 32,ad 34 0,dO 35 34,ef 36 35,bD 37 36,CV 38 33 37,ad 4 38] [])
 (.block 2 (.seq (.ak [ad 51 4,⟨some 52,.bin (.int .eql) (.t 51) (.c (.int .u8 34)),none,[51]⟩,ad 50 52])
 (.cond (.t 50)
 (.seq (.ak [ad 53 0,dO 54 53,ef 55 54,bD 56 55,eh 57 56,dO 58 53,ef 59 58,⟨none,.st 1 (.t 59) (.t 57),none,[59,57]⟩])
 (.seq (.seq (.ak [ad 60 3,dE 61 60,⟨some 62,.bin (.int .gtr) (.t 61) (.c (.int .i64 4096)),none,[61]⟩])
 (.cond (.t 62)
 (.ak [ad 63 0,dO 64 63,lG 65 64,⟨none,.st 1 (.t 65) (.c (.int .i64 255)),none,[65]⟩])
 (.skip)))
 (.seq (.ak [ad 66 3,⟨some 67,.cA .str (.t 66),none,[66]⟩,⟨some 68,.build [(.int .i64 0),(.int .i64 0),(.int .i64 0),(.str [])] [(0,1,(.c (.int .i64 2))),(3,1,(.t 67))],none,[67]⟩,⟨none,.st 4 (.t 2) (.t 68),none,[2,68]⟩])
 (.ret))))
 (.seq (.ak [ad 70 4,⟨some 71,.bin (.int .eql) (.t 70) (.c (.int .u8 92)),none,[70]⟩,ad 69 71])
 (.cond (.t 69)
 (.ak [ad 72 3,ad 73 0,⟨some 74,.call 132 [(.t 73)],none,[73]⟩,⟨some 75,.gq 1 1 [(.int .u8 0)] [(0,1,(.t 74))],none,[74]⟩,py 76 72 75,ad 3 76])
 (.seq (.ak [ad 78 4,⟨some 79,.bin (.int .lss) (.t 78) (.c (.int .u8 32)),none,[78]⟩,ad 80 79,ee 81 4 80,⟨some 82,.bin (.int .eql) (.t 81) (.c (.int .u8 127)),(some (80,false)),[81,80]⟩,ea 83 80 82,ad 77 83])
 (.cond (.t 77)
 (.ak [ad 84 0,dO 85 84,lG 86 85,⟨none,.st 1 (.t 86) (.c (.int .i64 252)),none,[86]⟩])
 (.seq (.ak [ad 39 0,dO 40 39,ef 41 40,bD 42 41,eh 43 42,dO 44 39,ef 45 44,⟨none,.st 1 (.t 45) (.t 43),none,[45,43]⟩])
 (.ak [ad 46 3,ad 47 4,⟨some 48,.gq 1 1 [(.int .u8 0)] [(0,1,(.t 47))],none,[47]⟩,py 49 46 48,ad 3 49]))))))))))))
def N0:aX:=
 .seq (.ak [z1 2])
 (.seq (.ak [ad 5 0,dO 6 5,ef 7 6,bD 8 7,eh 9 8,dO 10 5,ef 11 10,⟨none,.st 1 (.t 11) (.t 9),none,[11,9]⟩])
 (.seq (.ak [gf 3])
 (.seq (.block 0 (.loop N1))
 (.seq (.ak [G9 87,⟨none,.st 4 (.t 2) (.t 87),none,[2,87]⟩])
 (.ret)))))
theorem YU:cH 122 88 Tryz.f122 N0 [.pK 2 4]:=⟨Tryz.func122,by kernel_rfl⟩
def N2:aX:=
 .seq (.ak [dm 2])
 (.seq (.ak [ad 3 0,⟨some 4,.bin (.int .geq) (.t 3) (.c (.int .u8 97)),none,[3]⟩,ad 5 4,eo 6 0 5,⟨some 7,.bin (.int .leq) (.t 6) (.c (.int .u8 122)),(some (5,true)),[6,5]⟩,ft 8 5 7,ad 2 8])
 (.ret))
theorem YV:cH 123 9 Tryz.f123 N2 [.t 2]:=⟨Tryz.func123,by kernel_rfl⟩
def N3:aX:=
 .seq (.ak [z1 4])
 (.seq (.ak [ad 6 0,⟨some 7,.call 131 [(.t 6),(.c (.func 133 []))],none,[6]⟩,ad 5 7])
 (.seq (.block 0 (.seq (.ak [ad 9 1,xB 10 9,ad 11 10,eo 12 5 11,⟨some 13,.bin (.str .eql) (.t 12) (.c (.str [95])),(some (11,true)),[12,11]⟩,ft 14 11 13,ad 8 14])
 (.cond (.t 8)
 (.seq (.ak [ad 15 5,MN 16 15,⟨none,.st 4 (.t 4) (.t 16),none,[4,16]⟩])
 (.ret))
 (.seq (.ak [ad 18 1,xB 19 18,ad 20 19,eo 21 5 20,⟨some 22,.bin (.str .add) (.c (.str [32])) (.t 21),(some (20,true)),[21,20]⟩,⟨some 23,.bin (.str .add) (.t 22) (.c (.str [32])),(some (20,true)),[22,20]⟩,⟨some 24,.call 134 [(.c (.str [32,97,110,100,32,98,101,103,105,110,32,101,108,115,101,32,101,110,100,32,101,120,99,101,112,116,105,111,110,32,102,97,108,115,101,32,102,117,110,32,105,102,32,105,110,32,108,101,116,32,109,97,116,99,104,32,109,111,100,32,111,102,32,114,97,105,115,101,32,114,101,99,32,116,104,101,110,32,116,114,117,101,32,116,114,121,32,116,121,112,101,32,119,105,116,104,32])),(.t 23)],(some (20,true)),[23,20]⟩,ft 25 20 24,ad 17 25])
 (.cond (.t 17)
 (.seq (.ak [ad 26 5,⟨some 27,.build [(.int .i64 0),(.int .i64 0),(.int .i64 0),(.str [])] [(0,1,(.c (.int .i64 6))),(3,1,(.t 26))],none,[26]⟩,⟨none,.st 4 (.t 4) (.t 27),none,[4,27]⟩])
 (.ret))
 (.seq (.ak [ad 29 5,k8 30 29,⟨some 31,.bin (.int .gtr) (.t 30) (.c (.int .i64 64)),none,[30]⟩,ad 28 31])
 (.cond (.t 28)
 (.ak [ad 32 0,dO 33 32,lG 34 33,⟨none,.st 1 (.t 34) (.c (.int .i64 255)),none,[34]⟩])
 (.skip))))))))
 (.seq (.ak [ad 35 1,ad 36 5,⟨some 37,.build [(.int .i64 0),(.int .i64 0),(.int .i64 0),(.str [])] [(0,1,(.t 35)),(3,1,(.t 36))],none,[35,36]⟩,⟨none,.st 4 (.t 4) (.t 37),none,[4,37]⟩])
 (.ret))))
theorem YW:cH 124 38 Tryz.f124 N3 [.pK 4 4]:=⟨Tryz.func124,by kernel_rfl⟩
def N4:aX:=
 .seq (.ak [dm 2])
 (.seq (.ak [ad 3 0,⟨some 4,.bin (.int .geq) (.t 3) (.c (.int .u8 65)),none,[3]⟩,ad 5 4,eo 6 0 5,⟨some 7,.bin (.int .leq) (.t 6) (.c (.int .u8 90)),(some (5,true)),[6,5]⟩,ft 8 5 7,ad 2 8])
 (.ret))
theorem YX:cH 125 9 Tryz.f125 N4 [.t 2]:=⟨Tryz.func125,by kernel_rfl⟩
def N5:aX:=
 .seq (.ak [gf 0])
 (.seq (.ak [⟨some 1,.gq 17 1 [(.str [])] [(0,1,(.c (.str [59,59]))),(1,1,(.c (.str [58,61]))),(2,1,(.c (.str [45,62]))),(3,1,(.c (.str [60,61]))),(4,1,(.c (.str [59]))),(5,1,(.c (.str [40]))),(6,1,(.c (.str [41]))),(7,1,(.c (.str [44]))),(8,1,(.c (.str [61]))),(9,1,(.c (.str [60]))),(10,1,(.c (.str [43]))),(11,1,(.c (.str [45]))),(12,1,(.c (.str [42]))),(13,1,(.c (.str [47]))),(14,1,(.c (.str [124]))),(15,1,(.c (.str [33]))),(16,1,(.c (.str [95])))],none,[]⟩,ad 0 1])
 (.ret))
theorem YY:cH 126 2 Tryz.f126 N5 [.t 0]:=⟨Tryz.func126,by kernel_rfl⟩
def N6:aX:=
 .seq (.ak [dm 4])
 (.seq (.ak [ad 5 0,k8 6 5,ad 7 1,k8 8 7,xC 9 6 8,ad 10 9,eo 11 0 10,eo 12 1 10,⟨some 13,.len .str (.t 12),(some (10,true)),[12,10]⟩,⟨some 14,.rV (.t 11) none (some (.t 13)) none,(some (10,true)),[11,13,10]⟩,eo 15 1 10,⟨some 16,.bin (.str .eql) (.t 14) (.t 15),(some (10,true)),[14,15,10]⟩,ft 17 10 16,ad 4 17])
 (.ret))
theorem YZ:cH 129 18 Tryz.f129 N6 [.t 4]:=⟨Tryz.func129,by kernel_rfl⟩
def N9:aX:=
 .seq (.seq (.draw [ad 10 0,dO 11 10,ef 12 11,bD 13 12,ad 14 0,dO 15 14,dU 16 15,bD 17 16,k8 18 17,eS 19 13 18,ad 20 19,eo 21 1 20,eo 22 0 20,xD 23 22 20,zY 24 23 20,ky 25 24 20,eo 26 0 20,xD 27 26 20,xA 28 27 20,ky 29 28 20,⟨some 30,.mB (.t 25) (.t 29),(some (20,true)),[25,29,20]⟩,⟨some 31,.ma (.t 21) [(.t 30)],(some (20,true)),[21,30,20]⟩,ft 32 20 31] [(3,[21]),(7,[21]),(15,[21]),(19,[21])])
 (.cond (.t 32)
 (.skip)
 (.exit 0)))
 (.block 1 (.ak [ad 33 0,dO 34 33,ef 35 34,bD 36 35,eh 37 36,dO 38 33,ef 39 38,⟨none,.st 1 (.t 39) (.t 37),none,[39,37]⟩]))
def N8:aX:=
 .seq (.ak [⟨some 4,.cq (.c (.str [])),none,[]⟩])
 (.seq (.ak [ad 6 0,dO 7 6,ef 8 7,bD 9 8,ad 5 9])
 (.seq (.block 0 (.loop N9))
 (.seq (.draw [ad 40 0,dO 41 40,dU 42 41,bD 43 42,ad 44 5,ad 45 0,dO 46 45,ef 47 46,bD 48 47,⟨some 49,.rV (.t 43) (some (.t 44)) (some (.t 48)) none,none,[43,44,48]⟩,ad 4 49] [])
 (.ret))))
theorem Y1:cH 131 50 Tryz.f131 N8 [.t 4]:=⟨Tryz.func131,by kernel_rfl⟩
def N':aX:=
 .seq (.ak [⟨some 2,.cq (.c (.int .u8 0)),none,[]⟩])
 (.seq (.ak [ad 7 0,dO 8 7,ef 9 8,bD 10 9,eh 11 10,dO 12 7,ef 13 12,⟨none,.st 1 (.t 13) (.t 11),none,[13,11]⟩])
 (.seq (.draw [ad 14 0,dO 15 14,dU 16 15,bD 17 16,ad 18 0,dO 19 18,ef 20 19,bD 21 20,G8 22 17 21,ad 3 22] [])
 (.seq (.seq (.ak [ad 23 3,⟨some 24,.bin (.str .neq) (.t 23) (.c (.str [])),none,[23]⟩])
 (.cond (.t 24)
 (.seq (.ak [ad 25 3,CW 26 25,⟨some 27,.call 113 [(.c (.str [110,116,34,92])),(.t 26)],none,[26]⟩,ad 4 27])
 (.seq (.ak [ad 28 4,C2 29 28])
 (.cond (.t 29)
 (.seq (.ak [ad 30 0,dO 31 30,ef 32 31,bD 33 32,eh 34 33,dO 35 30,ef 36 35,⟨none,.st 1 (.t 36) (.t 34),none,[36,34]⟩])
 (.seq (.ak [ad 37 4,⟨some 38,.mB (.c (.str [10,9,34,92])) (.t 37),none,[37]⟩,ad 2 38])
 (.ret)))
 (.skip))))
 (.skip)))
 (.seq (.seq (.ak [ad 39 3,k8 40 39,⟨some 41,.bin (.int .geq) (.t 40) (.c (.int .i64 3)),none,[40]⟩,ad 42 41,eo 43 3 42,⟨some 44,.mB (.t 43) (.c (.int .i64 0)),(some (42,true)),[43,42]⟩,⟨some 45,.call 120 [(.t 44)],(some (42,true)),[44,42]⟩,ft 46 42 45,ad 47 46,eo 48 3 47,⟨some 49,.mB (.t 48) (.c (.int .i64 1)),(some (47,true)),[48,47]⟩,⟨some 50,.call 120 [(.t 49)],(some (47,true)),[49,47]⟩,ft 51 47 50,ad 52 51,eo 53 3 52,⟨some 54,.mB (.t 53) (.c (.int .i64 2)),(some (52,true)),[53,52]⟩,⟨some 55,.call 120 [(.t 54)],(some (52,true)),[54,52]⟩,ft 56 52 55])
 (.cond (.t 56)
 (.seq (.ak [ad 58 3,⟨some 59,.rV (.t 58) none (some (.c (.int .i64 3))) none,none,[58]⟩,⟨some 60,.call 137 [(.t 59)],none,[59]⟩,ad 57 60,j4 61 57,j5 62 57,ad 5 61,ad 6 62])
 (.seq (.ak [ad 63 5,⟨some 64,.bin (.int .lss) (.t 63) (.c (.int .i64 256)),none,[63]⟩])
 (.cond (.t 64)
 (.seq (.ak [ad 65 0,dO 66 65,ef 67 66,bD 68 67,⟨some 69,.bin (.int .add) (.t 68) (.c (.int .i64 3)),none,[68]⟩,dO 70 65,ef 71 70,⟨none,.st 1 (.t 71) (.t 69),none,[71,69]⟩])
 (.seq (.ak [ad 72 5,⟨some 73,.cA (.int .u8) (.t 72),none,[72]⟩,ad 2 73])
 (.ret)))
 (.skip))))
 (.skip)))
 (.seq (.ak [ad 74 0,dO 75 74,lG 76 75,⟨none,.st 1 (.t 76) (.c (.int .i64 252)),none,[76]⟩])
 (.seq (.ak [⟨some 2,.cq (.c (.int .u8 0)),none,[]⟩])
 (.ret)))))))
theorem Y2:cH 132 77 Tryz.f132 N' [.t 2]:=⟨Tryz.func132,by kernel_rfl⟩
def N_:aX:=
 .seq (.ak [dm 2])
 (.seq (.ak [ad 3 0,⟨some 4,.call 120 [(.t 3)],none,[3]⟩,ad 5 4,ee 6 0 5,⟨some 7,.call 123 [(.t 6)],(some (5,false)),[6,5]⟩,ea 8 5 7,ad 9 8,ee 10 0 9,⟨some 11,.call 125 [(.t 10)],(some (9,false)),[10,9]⟩,ea 12 9 11,ad 13 12,ee 14 0 13,CY 15 14 13,ea 16 13 15,ad 17 16,ee 18 0 17,⟨some 19,.bin (.int .eql) (.t 18) (.c (.int .u8 39)),(some (17,false)),[18,17]⟩,ea 20 17 19,ad 2 20])
 (.ret))
theorem Y3:cH 133 21 Tryz.f133 N_ [.t 2]:=⟨Tryz.func133,by kernel_rfl⟩
theorem oj {f:FuncId} {args:List V} {h:ae} {v:V} (c:cv Tryz.prog f args h fun x aa=>x=v/\aa=h):eZ Tryz.prog f args h v h:=by obtain ⟨x,aa,q,rfl,rfl⟩:=c;exact q
def mW (c:Int):Bool:=decide (48<=c)&&decide (c<=57)
def ha (c:Int):Bool:=decide (97<=c)&&decide (c<=122)
def m_ (c:Int):Bool:=decide (65<=c)&&decide (c<=90)
def uK (c:Int):Bool:=mW c||ha c||m_ c||decide (c=95)||decide (c=39)
def nB (c a b:Int):Bool:=decide (a<=c)&&decide (c<=b)
theorem xT (c:Int) (h:ae):eZ Tryz.prog 120 [.int .u8 c] h (.bool (mW c)) h:=by refine oj (YS.z rfl (cr ?_));unfold NY;simp +contextual only [↓ag,al,simprocAttr];rfl
theorem Gm (c:Int) (h:ae):eZ Tryz.prog 123 [.int .u8 c] h (.bool (ha c)) h:=by refine oj (YV.z rfl (cr ?_));unfold N2;simp +contextual only [↓ag,al,simprocAttr];rfl
theorem QZ (c:Int) (h:ae):eZ Tryz.prog 125 [.int .u8 c] h (.bool (m_ c)) h:=by refine oj (YX.z rfl (cr ?_));unfold N4;simp +contextual only [↓ag,al,simprocAttr];rfl
theorem zF (c a b:Int) (h:ae):eZ Tryz.prog 88 [.int .u8 c,.int .u8 a,.int .u8 b] h (.bool (nB c a b)) h:=by refine oj (ZE.z rfl (cr ?_));unfold Pa;simp +contextual only [↓ag,al,simprocAttr];rfl
theorem ac9 (s p:List UInt8) (h:ae):eZ Tryz.prog 129 [.str s,.str p] h (.bool (p.isPrefixOf s)) h:=by
 refine oj (YZ.z rfl (cr ?_));unfold N6;have aY:(0<=(p.length:Int))=True:=apD (by omega);by_cases ar:p.length<=s.length
 . have U:((p.length:Int)<=(s.length:Int))=True:=apD (by omega);simp +contextual only [aY,U,apy,↓ag,al,simprocAttr];rw [aqg,apE,arb,List.prefix_iff_eq_take];exact ⟨fun e=>e.symm,fun e=>e.symm⟩
 . have U:((p.length:Int)<=(s.length:Int))=False:=apx (by omega);simp +contextual only [aY,U,apy,↓ag,al,simprocAttr];rw [eq_comm,<-ap1,arb];exact fun e=>ar e.length_le
theorem ac8 (s p:List UInt8) (h:ae):eZ Tryz.prog 119 [.str s,.str p] h (.bool (p.isPrefixOf s)) h:=by refine oj (YQ.z rfl (cr ?_));unfold c119;simp +contextual only [↓ag,al,simprocAttr];refine fZ (ac9 s p h) ?_;simp +contextual only [↓ag,al,simprocAttr]
theorem aiu (c:Int) (h:ae):eZ Tryz.prog 133 [.int .u8 c] h (.bool (uK c)) h:=by refine oj (Y3.z rfl (cr ?_));unfold N_;simp +contextual only [↓ag,al,simprocAttr];refine fZ (xT c h) ?_;simp +contextual only [↓ag,al,simprocAttr];refine Ef (.bool (ha c)) (fun au=>by simp only [au,↓ag,al,simprocAttr];exact Gm _ _) ?_;simp +contextual only [↓ag,al,simprocAttr];refine Ef (.bool (m_ c)) (fun au=>by simp only [au,↓ag,al,simprocAttr];exact QZ _ _) ?_;simp +contextual only [↓ag,al,simprocAttr];rfl
theorem WR (c:Int) (h:ae):eZ Tryz.prog 87 [.int .u8 c] h (.bool (nB c 97 122||nB c 65 90||nB c 48 57||decide (c=95)||decide (c=39))) h:=by refine oj (ZD.z rfl (cr ?_));unfold O_;simp +contextual only [↓ag,al,simprocAttr];refine fZ (zF c _ _ h) ?_;simp +contextual only [↓ag,al,simprocAttr];refine Ef (.bool (nB c 65 90)) (fun au=>by simp only [au,↓ag,al,simprocAttr];exact zF _ _ _ _) ?_;simp +contextual only [↓ag,al,simprocAttr];refine Ef (.bool (nB c 48 57)) (fun au=>by simp only [au,↓ag,al,simprocAttr];exact zF _ _ _ _) ?_;simp +contextual only [↓ag,al,simprocAttr]
theorem I0 (s p:List UInt8) (at':Int) (rest:List V) (b:aO) (ct:Nat) (st:Bool) (h:ae) (ah:h.get b=.bT (.str s::.int .i64 at'::rest) ct st) (aY:0<=at') (U:at'<=s.length):
 eZ Tryz.prog 114 [.ptr b 0,.str p] h (.bool (p.isPrefixOf (s.drop at'.toNat))) h:=by
 refine oj (YM.z rfl (cr ?_));unfold NS;have f0:(0<=at')=True:=apD aY;have f1:(at'<=(s.length:Int))=True:=apD U;simp +contextual only [ah,f0,f1,↓ag,al,simprocAttr];refine fZ (ac8 _ p h) ?_;simp +contextual only [ah,f0,f1,↓ag,al,simprocAttr]
def iF:List UInt8->Int->Option Nat
 | [],_=>none
 | [_],_=>none
 | x::y::r,d=>if x=40/\y=42 then (iF r (d+1)).map (· +2) else if x=42/\y=41 then (if d-1=0 then some 2 else (iF r (d-1)).map (· +2)) else (iF (y::r) d).map (· +1)
theorem ajn (r:List UInt8) (d:Int) (h:r≠[]):iF r d=if ([40,42]:List UInt8).isPrefixOf r=true then (iF (r.drop 2) (d+1)).map (· +2) else
 if ([42,41]:List UInt8).isPrefixOf r=true then (if d-1=0 then some 2 else (iF (r.drop 2) (d-1)).map (· +2)) else (iF (r.drop 1) d).map (· +1):=by
 match r,h with
 | [x],_=>simp [iF,List.isPrefixOf]
 | x::y::r,_=>
   have av:(([40,42]:List UInt8).isPrefixOf (x::y::r)=true)=(x=40/\y=42):=by simp only [List.isPrefixOf,aqn,apn,aq0];exact propext ⟨fun q=>⟨q.1.symm,q.2.symm⟩,fun q=>⟨q.1.symm,q.2.symm⟩⟩
   have aK:(([42,41]:List UInt8).isPrefixOf (x::y::r)=true)=(x=42/\y=41):=by simp only [List.isPrefixOf,aqn,apn,aq0];exact propext ⟨fun q=>⟨q.1.symm,q.2.symm⟩,fun q=>⟨q.1.symm,q.2.symm⟩⟩
   rw [iF];simp only [av,aK,aqU,aqu]
theorem Uw {a b:UInt8} {r:List UInt8} (h:([a,b]:List UInt8).isPrefixOf r=true):2<=r.length:=by rw [arb] at h;simpa using h.length_le
def fl (s:List UInt8) (at' e:Int):b':=.bT [.str s,.int .i64 at',.int .i64 e] 0 false
theorem ajo (s:List UInt8) (a0:Nat) (c4:Int) (b:aO) (h:ae) (ah:h.get b=fl s a0 c4) (aY:a0<=s.length) (aW:s.length<=100000) (gP:Old h b):
 cv Tryz.prog 115 [.ptr b 0] h fun x aa=>x=.tuple []/\Mod (fun x=>x=b) h aa/\(match iF (s.drop a0) 0 with
  | some n=>aa.get b=fl s ((a0+n:Nat):Int) c4/\a0+n<=s.length
  | none=>aa.get b=fl s (s.length:Int) 253):=by
 refine YN.z rfl (cr ?_);unfold NT;unfold fl at ah ⊢;simp +contextual only [ah,↓ag,al,simprocAttr]
 refine eO (fun r aa=>∃(a:Nat) (d:Int),a0<=a/\a<=s.length/\r 0=.ptr b 0/\r 2=.int .i64 d/\aa.get b=.bT [.str s,.int .i64 a,.int .i64 c4] 0 false/\Mod (fun x=>x=b) h aa/\-(a:Int)<=d/\d<=a/\
  iF (s.drop a0) 0=(iF (s.drop a) d).map (· + (a-a0))) (fun r aa=>s.length - ((fy (aa.get b) 1).getD .bad).toN) ?_ ?_
 . refine ⟨a0,0,aps _,aY,?_⟩;simp only [↓ag,al,simprocAttr];refine ⟨ah,Mod.refl _ _,by omega,by omega,?_⟩;rw [aq5];cases iF (s.drop a0) 0<;>rfl
 . rintro r aa ⟨a,d,nj,cm,a1,cG,aG,hm,d0,d1,bt⟩;unfold NU;by_cases gg:(s.length:Int)<=(a:Int)
   . have bw:a=s.length:=by omega
     have aV:iF (s.drop a) d=none:=by rw [bw,arw];rfl
     rw [aV] at bt;simp +contextual only [a1,cG,aG,gg,↓ag,al,simprocAttr];rw [bt];refine ⟨hm.set (fun _=>rfl) _,?_⟩;simp only [bw,Option.map_none,dV,ap0]
   . have cT:s.drop a≠[]:=by
      intro q;rw [List.drop_eq_nil_iff] at q;omega
     have Bm:∀p,eZ Tryz.prog 114 [.ptr b 0,.str p] aa (.bool (p.isPrefixOf (s.drop a))) aa:=fun p=>by have:=I0 s p (a:Int) [.int .i64 c4] b 0 false aa aG (by omega) (by omega);simpa using this
     have hY:=ajn (s.drop a) d cT;simp +contextual only [a1,cG,aG,gg,↓ag,al,simprocAttr];refine fZ (Bm _) ?_;cases kM:([40,42]:List UInt8).isPrefixOf (s.drop a) with
     | true=>
       have ab:=Uw kM;rw [apY] at ab;rw [kM,apB rfl] at hY;have bP:IntKind.i64.wrap (d+1)=d+1:=wrap_i64 (by omega) (by omega);have bH:IntKind.i64.wrap ((a:Int)+2)=((a+2:Nat):Int):=by rw [wrap_i64 (by omega) (by omega)];rfl
       simp +contextual only [a1,cG,aG,bP,bH,↓ag,al,simprocAttr];refine ⟨⟨a+2,d+1,by omega,by omega,rfl,rfl,hm.set (fun _=>rfl) _,by omega,by omega,?_⟩,by omega⟩;rw [bt,hY,aqE,arK];congr 1;funext q;simp only [Function.comp];omega
     | false=>
       rw [kM,apu (by decide)] at hY;simp +contextual only [a1,cG,aG,↓ag,al,simprocAttr];refine fZ (Bm _) ?_;cases ih:([42,41]:List UInt8).isPrefixOf (s.drop a) with
       | true=>
         have ab:=Uw ih;rw [apY] at ab;rw [ih,apB rfl] at hY;have bP:IntKind.i64.wrap (d-1)=d-1:=wrap_i64 (by omega) (by omega);have bH:IntKind.i64.wrap ((a:Int)+2)=((a+2:Nat):Int):=by rw [wrap_i64 (by omega) (by omega)];rfl
         by_cases aH:d-1=0
         . rw [apB aH] at hY;obtain rfl:d=1:=by omega
           have az:IntKind.i64.wrap 0=0:=rfl;simp +contextual only [a1,cG,aG,az,bH,↓ag,al,simprocAttr];rw [bt,hY];refine ⟨hm.set (fun _=>rfl) _,?_⟩;simp only [aqO,dV,ap0];refine ⟨?_,by omega⟩;rw [show a0 + (2 + (a-a0))=a+2 from by omega]
         . rw [apu aH] at hY;simp +contextual only [a1,cG,aG,bP,bH,aH,↓ag,al,simprocAttr];refine ⟨⟨a+2,d-1,by omega,by omega,rfl,rfl,hm.set (fun _=>rfl) _,by omega,by omega,?_⟩,by omega⟩;rw [bt,hY,aqE,arK];congr 1;funext q;simp only [Function.comp];omega
       | false=>
         rw [ih,apu (by decide)] at hY;have bH:IntKind.i64.wrap ((a:Int)+1)=((a+1:Nat):Int):=by rw [wrap_i64 (by omega) (by omega)];rfl
         simp +contextual only [a1,cG,aG,bH,↓ag,al,simprocAttr];refine ⟨⟨a+1,d,by omega,by omega,rfl,rfl,hm.set (fun _=>rfl) _,by omega,by omega,?_⟩,by omega⟩;rw [bt,hY,aqE,arK];congr 1;funext q;simp only [Function.comp];omega
theorem drop_cons {s:List UInt8} {a:Nat} (h:a<s.length):s.drop a=s[a]::s.drop (a+1):=apW h
theorem VS (p:UInt8->Bool):∀l:List UInt8,(l.takeWhile p).length<=l.length
 | []=>by simp
 | x::l=>by
   simp only [aqV]
   split
   . simpa using VS p l
   . simp
theorem Vf (s:List UInt8) (a0:Nat) (c4:Int) (b:aO) (g:FuncId) (p:Int->Bool) (h:ae) (ah:h.get b=fl s a0 c4) (aY:a0<=s.length) (aW:s.length<=100000) (a8:(g=4294967296)=False)
 (ai:∀c h,eZ Tryz.prog g [.int .u8 c] h (.bool (p c)) h):
 cv Tryz.prog 131 [.ptr b 0,.func g []] h fun x aa=>x=.str ((s.drop a0).takeWhile fun c=>p c.toNat)/\Mod (fun x=>x=b) h aa/\aa.get b=fl s ((a0 + ((s.drop a0).takeWhile fun c=>p c.toNat).length:Nat):Int) c4:=by
 refine Y1.z rfl (cr ?_);unfold N8;unfold fl at ah ⊢;simp +contextual only [ah,↓ag,al,simprocAttr]
 refine eO (fun r aa=>∃(a:Nat),a0<=a/\a<=s.length/\r 0=.ptr b 0/\r 1=.func g []/\r 5=.int .i64 a0/\aa.get b=.bT [.str s,.int .i64 a,.int .i64 c4] 0 false/\Mod (fun x=>x=b) h aa/\
  ((s.drop a0).takeWhile fun c=>p c.toNat)=(s.drop a0).take (a-a0)++((s.drop a).takeWhile fun c=>p c.toNat)) (fun r aa=>s.length - ((fy (aa.get b) 1).getD .bad).toN) ?_ ?_
 . refine ⟨a0,aps _,aY,?_⟩;simp only [↓ag,al,simprocAttr];refine ⟨ah,Mod.refl _ _,?_⟩;rw [aq5];rfl
 . rintro r aa ⟨a,nj,cm,a1,a',bL,aG,hm,bt⟩;unfold N9;have fin:((s.drop a).takeWhile fun c=>p c.toNat)=[]->V.str (((s.drop a0).take (a-a0)))=V.str ((s.drop a0).takeWhile fun c=>p c.toNat)/\Mod (fun x=>x=b) h aa/\b'.bT [V.str s,V.int .i64 a,V.int .i64 c4] 0 false=b'.bT [V.str s,V.int .i64 ((a0 + ((s.drop a0).takeWhile fun c=>p c.toNat).length:Nat):Int),V.int .i64 c4] 0 false:=by
    intro q;rw [q,aqB] at bt;rw [bt,apU,apY];refine ⟨rfl,hm,?_⟩;rw [show a0+min (a-a0) (s.length-a0)=a from by omega]
   have f0:(0<=(a0:Int))=True:=apD (by omega);have f1:((a0:Int)<=(a:Int))=True:=apD (by omega);have f2:((a:Int)<=(s.length:Int))=True:=apD (by omega);have f3:(0<=(a:Int))=True:=apD (by omega);by_cases gg:(a:Int) < (s.length:Int)
   . have aL:a<s.length:=by omega
     rw [drop_cons aL,aqV] at bt fin;simp +contextual only [a8,ap2,a1,a',bL,aG,gg,f0,f1,f2,f3,apo aL,apy,↓ag,al,simprocAttr];refine fZ (ai _ _) ?_;cases mr:p ((s[a]).toNat:Int) with
     | true=>
       rw [mr] at bt;have bH:IntKind.i64.wrap ((a:Int)+1)=((a+1:Nat):Int):=by rw [wrap_i64 (by omega) (by omega)];rfl
       simp +contextual only [mr,a1,a',bL,aG,gg,f0,f1,f2,f3,bH,apo aL,apy,↓ag,al,simprocAttr];refine ⟨⟨a+1,by omega,by omega,rfl,hm.set (fun _=>rfl) _,?_⟩,by omega⟩;rw [bt,apB rfl];have JC:a-a0 < (s.drop a0).length:=by rw [apY];omega
       rw [show a+1-a0=a-a0+1 from by omega,<-List.take_append_getElem JC,ap8];congr 1;rw [List.getElem_drop];simp only [show a0 + (a-a0)=a from by omega];rfl
     | false=>
       rw [mr] at fin;simp +contextual only [mr,a1,a',bL,aG,gg,f0,f1,f2,f3,apo aL,apy,↓ag,al,simprocAttr];exact fin rfl
   . have bw:a=s.length:=by omega
     simp +contextual only [a8,ap2,a1,a',bL,aG,gg,f0,f1,f2,f3,apy,↓ag,al,simprocAttr];refine fin ?_;rw [bw,arw];rfl
end
end Go.Proofs.YtgmhjhgoamjeeaaGreatDoor
