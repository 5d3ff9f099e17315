/- The chapter's functions, walked by the abstract machine: plain lemmas, no condition. Printed by a program from longer texts: names made short. -/
import Derived.Test.YtgmhjhgoamjeeaaGreatDoorM6
import Derived.Test.YtgmhjhgoamjeeaaGreatDoorM7
set_option linter.unusedSectionVars false
set_option linter.unusedSimpArgs false
set_option linter.unusedVariables false
set_option maxHeartbeats 64000000
noncomputable section
namespace Go.Proofs.YtgmhjhgoamjeeaaGreatDoor
section
open Go aX
abbrev ai (d bm:Nat):bw:=⟨some d,.cM (.t bm),none,[bm]⟩
abbrev bO (d bm:Nat):bw:=⟨some d,.dJ (.t bm),none,[bm]⟩
abbrev dB (d:Nat):bw:=⟨some d,.cM (.c (.int .i64 0)),none,[]⟩
abbrev dG (d bm:Nat):bw:=⟨some d,.sY (.t bm),none,[bm]⟩
abbrev dR (d bm:Nat):bw:=⟨some d,.dH 1 (.t bm),none,[bm]⟩
abbrev eo (d bm bF:Nat):bw:=⟨some d,.pick (.t bm) (.t bF) (.c (.bool false)),none,[bm,bF]⟩
abbrev eu (d bm bF:Nat):bw:=⟨some d,.cM (.t bm),(some (bF,true)),[bm,bF]⟩
abbrev ez (d:Nat):bw:=⟨some d,.cM (.c (.bool false)),none,[]⟩
abbrev e2 (d bm:Nat):bw:=⟨some d,.len .slice (.t bm),none,[bm]⟩
abbrev e3 (d bm:Nat):bw:=⟨some d,.dH 0 (.t bm),none,[bm]⟩
abbrev fp (d bm:Nat):bw:=⟨some d,.bin (.int .add) (.t bm) (.c (.int .i64 1)),none,[bm]⟩
abbrev fB (d bm:Nat):bw:=⟨some d,.fh 5 (.t bm),none,[bm]⟩
abbrev gu (d bm bF:Nat):bw:=⟨some d,.pick (.t bm) (.c (.bool true)) (.t bF),none,[bm,bF]⟩
abbrev gK (d bm bF:Nat):bw:=⟨some d,.bin (.int .lss) (.t bm) (.t bF),none,[bm,bF]⟩
abbrev hR (d bm bF:Nat):bw:=⟨some d,.dJ (.t bm),(some (bF,true)),[bm,bF]⟩
abbrev ir (d bm:Nat):bw:=⟨some d,.ext (.t bm) 0,none,[bm]⟩
abbrev iu (d bm:Nat):bw:=⟨some d,.ext (.t bm) 1,none,[bm]⟩
abbrev iv (d bm:Nat):bw:=⟨some d,.dH 2 (.t bm),none,[bm]⟩
abbrev iH (d bm:Nat):bw:=⟨some d,.box (.t bm),none,[bm]⟩
abbrev i_ (d bm bF:Nat):bw:=⟨some d,.dJ (.t bm),(some (bF,false)),[bm,bF]⟩
abbrev jX (d bm bF:Nat):bw:=⟨some d,.cM (.t bm),(some (bF,false)),[bm,bF]⟩
abbrev lA (d:Nat):bw:=⟨some d,.new [(.int .i64 0),(.int .i64 0),(.int .i64 0),(.str []),.bg],none,[]⟩
abbrev lZ (d bm bF:Nat):bw:=⟨some d,.cr 5 (.t bm) (.t bF),none,[bm,bF]⟩
abbrev l0 (d bm:Nat):bw:=⟨some d,.un .not (.t bm),none,[bm]⟩
abbrev l1 (d:Nat):bw:=⟨some d,.cM (.c .bg),none,[]⟩
abbrev mB (d bm:Nat):bw:=⟨some d,.len .str (.t bm),none,[bm]⟩
abbrev nt (d bm:Nat):bw:=⟨some d,.fh 3 (.t bm),none,[bm]⟩
abbrev nu (d bm bF:Nat):bw:=⟨some d,.bin (.int .eql) (.t bm) (.c (.int .i64 0)),(some (bF,true)),[bm,bF]⟩
abbrev pe (d:Nat):bw:=⟨some d,.cM (.c (.int .i64 2)),none,[]⟩
abbrev pf (d bm:Nat):bw:=⟨some d,.dH 4 (.t bm),none,[bm]⟩
abbrev rR (d bm bF:Nat):bw:=⟨some d,.cr 1 (.t bm) (.t bF),none,[bm,bF]⟩
abbrev rS (d bm bF:Nat):bw:=⟨some d,.dH 2 (.t bm),(some (bF,true)),[bm,bF]⟩
abbrev rT (d bm bF:Nat):bw:=⟨some d,.len .slice (.t bm),(some (bF,true)),[bm,bF]⟩
abbrev tx (d:Nat):bw:=⟨some d,.cM (.c (.bool true)),none,[]⟩
abbrev tz (d bm:Nat):bw:=⟨some d,.dH 3 (.t bm),none,[bm]⟩
abbrev vb (d bm:Nat):bw:=⟨some d,.hz 1 5 [(.int .i64 0),(.int .i64 0),(.int .i64 0),(.str []),.bg] [(0,5,(.t bm))],none,[bm]⟩
abbrev vc (d bm:Nat):bw:=⟨some d,.bin (.int .eql) (.t bm) (.c (.int .i64 1)),none,[bm]⟩
abbrev xp (d bm:Nat):bw:=⟨some d,.bin (.int .eql) (.t bm) (.c (.int .i64 2)),none,[bm]⟩
abbrev xq (d bm:Nat):bw:=⟨some d,.bin (.int .eql) (.t bm) (.c (.int .i64 3)),none,[bm]⟩
abbrev xr (d:Nat):bw:=⟨some d,.new [(.str []),(.str []),(.int .i64 0),(.int .i64 0),.bg],none,[]⟩
abbrev xt (d:Nat):bw:=⟨some d,.cM (.c .kb),none,[]⟩
abbrev xu (d bm bF:Nat):bw:=⟨some d,.len .slice (.t bm),(some (bF,false)),[bm,bF]⟩
abbrev xv (d bm bF:Nat):bw:=⟨some d,.dH 1 (.t bm),(some (bF,true)),[bm,bF]⟩
abbrev xw (d bm bF:Nat):bw:=⟨some d,.sY (.t bm),(some (bF,true)),[bm,bF]⟩
abbrev zY (d bm bF:Nat):bw:=⟨some d,.app 1 (.t bm) (.t bF),none,[bm,bF]⟩
abbrev zZ (d:Nat):bw:=⟨some d,.new [(.int .i64 0),(.int .i64 0),.bg],none,[]⟩
abbrev z1 (d bm bF:Nat):bw:=⟨some d,.un .not (.t bm),(some (bF,false)),[bm,bF]⟩
abbrev z6 (d bm:Nat):bw:=⟨some d,.bin (.int .eql) (.t bm) (.c (.int .i64 0)),none,[bm]⟩
abbrev z7 (d bm:Nat):bw:=⟨some d,.fh 4 (.t bm),none,[bm]⟩
abbrev z8 (d bm bF:Nat):bw:=⟨some d,.bin (.int .geq) (.t bm) (.t bF),none,[bm,bF]⟩
abbrev z' (d bm bF:Nat):bw:=⟨some d,.dH 0 (.t bm),(some (bF,true)),[bm,bF]⟩
abbrev z_ (d:Nat):bw:=⟨some d,.new [(.int .i64 0),(.int .i64 0),(.int .i64 0),(.str [])],none,[]⟩
abbrev CR (d bm:Nat):bw:=⟨some d,.bin (.int .neq) (.t bm) (.c (.int .i64 0)),none,[bm]⟩
abbrev CS (d bm bF:Nat):bw:=⟨some d,.cr 3 (.t bm) (.t bF),none,[bm,bF]⟩
abbrev CT (d bm bF:Nat):bw:=⟨some d,.cr 7 (.t bm) (.t bF),none,[bm,bF]⟩
abbrev CU (d bm bF:Nat):bw:=⟨some d,.dH 0 (.t bm),(some (bF,false)),[bm,bF]⟩
abbrev CV (d bm bF:Nat):bw:=⟨some d,.bin (.int .eql) (.t bm) (.t bF),none,[bm,bF]⟩
abbrev CW (d bm:Nat):bw:=⟨some d,.bin (.int .eql) (.t bm) (.c (.int .i64 16)),none,[bm]⟩
abbrev CX (d bm bF:Nat):bw:=⟨some d,.look .str (.agg [(.str []),(.str []),(.int .i64 0),(.int .i64 0),.bg]) false (.t bm) (.t bF),none,[bm,bF]⟩
abbrev CY (d bm:Nat):bw:=⟨some d,.bin (.int .geq) (.t bm) (.c (.int .i64 0)),none,[bm]⟩
abbrev CZ (d bm bF:Nat):bw:=⟨some d,.bin (.str .eql) (.t bm) (.t bF),none,[bm,bF]⟩
abbrev C0 (d bm bF:Nat):bw:=⟨some d,.dH 4 (.t bm),(some (bF,true)),[bm,bF]⟩
abbrev C1 (d bm bF:Nat):bw:=⟨some d,.bin (.int .sub) (.t bm) (.t bF),none,[bm,bF]⟩
abbrev C2 (d bm bF:Nat):bw:=⟨some d,.cr 4 (.t bm) (.c (.int .i64 0)),(some (bF,true)),[bm,bF]⟩
abbrev GZ (d bm:Nat):bw:=⟨some d,.bin (.int .lss) (.t bm) (.c (.int .i64 0)),none,[bm]⟩
abbrev G0 (d bm:Nat):bw:=⟨some d,.bin (.int .eql) (.t bm) (.c (.int .i64 12)),none,[bm]⟩
abbrev G1 (d bm:Nat):bw:=⟨some d,.bin (.int .eql) (.t bm) (.c (.int .i64 14)),none,[bm]⟩
abbrev G2 (d bm bF hy:Nat):bw:=⟨some d,.bin (.int .geq) (.t bm) (.t bF),(some (hy,false)),[bm,bF,hy]⟩
abbrev G3 (d bm bF:Nat):bw:=⟨some d,.bin (.int .eql) (.t bm) (.c (.int .i64 1)),(some (bF,true)),[bm,bF]⟩
abbrev G4 (d bm:Nat):bw:=⟨some d,.hz 1 3 [.bg,(.bool false),(.int .i64 0)] [(0,3,(.t bm))],none,[bm]⟩
abbrev G5 (d bm bF:Nat):bw:=⟨some d,.looks 111 .bg false (.t bm) (.t bF),none,[bm,bF]⟩
abbrev G6 (d bm:Nat):bw:=⟨some d,.bin (.int .eql) (.t bm) (.c (.int .i64 5)),none,[bm]⟩
abbrev G7 (d bm bF:Nat):bw:=⟨some d,.rG (.t bm) (some (.t bF)) none none,none,[bm,bF]⟩
abbrev G8 (d:Nat):bw:=⟨some d,.build [(.int .i64 0),(.int .i64 0),(.int .i64 0),(.str [])] [],none,[]⟩
abbrev G9 (d:Nat):bw:=⟨some d,.call 27 [(.c (.int .i64 0)),(.c .bg)],none,[]⟩
abbrev MG (d:Nat):bw:=⟨some d,.new [(.int .i64 0),(.int .i64 0),.bg,(.bool false),(.int .i64 0),(.int .i64 0),(.int .i64 0)],none,[]⟩
abbrev MH (d bm bF:Nat):bw:=⟨some d,.hz 2 5 [(.int .i64 0),(.int .i64 0),(.int .i64 0),(.str []),.bg] [(0,5,(.t bm)),(5,5,(.t bF))],none,[bm,bF]⟩
abbrev MI (d bm bF:Nat):bw:=⟨some d,.build [.bg,(.bool false),(.int .i64 0)] [(0,1,(.t bm)),(2,1,(.t bF))],none,[bm,bF]⟩
abbrev MJ (d bm bF:Nat):bw:=⟨some d,.look .str (.agg [(.str []),(.str []),(.int .i64 0),(.int .i64 0),.bg]) true (.t bm) (.t bF),none,[bm,bF]⟩
abbrev MK (d bm:Nat):bw:=⟨some d,.build [(.int .i64 0),(.int .i64 0),(.int .i64 0),(.str [])] [(0,1,(.c (.int .i64 7))),(3,1,(.t bm))],none,[bm]⟩
structure dA (f n:Nat) (fn:Func) (c:a1) (et:List tF):Prop where
 av:Tryz.prog.funcs[f]? =some fn
 Ph:(fn.body,fn.ntmps,Nat.ble fn.ntmps top,Nat.beq f dr,er Tryz.prog fn.ntmps (fn.body.getD .skip),n' Tryz.prog fn.ntmps fn.results.toList,c.plain)=(some (fn.body.getD .skip),n,true,false,c,et,true)
theorem dA.z {f n:Nat} {fn:Func} {c:a1} {et:List tF} (Z:dA f n fn c et) {args:List V} {h:ae} {K:V->ae->Prop} (aA:Nat.ble args.length n=true) (H:e7 Tryz.prog c (bc.bQ args) h fun e r ab=>e.ends/\∃ag,k4 r ab et=some ag/\K (oneOf ag) ab):c9 Tryz.prog f args h K:=by have q:=Z.Ph;simp only [aqD] at q;obtain ⟨aa,ad,aJ,bu,cV,fX,hX⟩:=q;exact aan follows yW Z.av aa aJ bu (by rw [ad];exact aA) cV fX hX H
theorem dA.d {f n:Nat} {fn:Func} {c:a1} {et:List tF} (Z:dA f n fn c et) {args:List V} {h:ae} {v:Bool} (aA:Nat.ble args.length n=true) (H:fa Tryz.prog c (bc.bQ args) h fun e r ab=>e.ends/\Ext h ab/\k4 r ab et=some [.bool v]):eV Tryz.prog f args h (.bool v) h:=by have q:=Z.Ph;simp only [aqD] at q;obtain ⟨aa,ad,aJ,bu,cV,fX,hX⟩:=q;exact aal follows yW Z.av aa aJ bu (by rw [ad];exact aA) cV fX hX H
def Od:a1:=
 .seq (.au [dB 4])
 (.seq (.au [ai 8 0,ai 9 1,⟨some 10,.call 46 [(.t 8),(.t 9)],none,[8,9]⟩,ai 7 10,ir 11 7,iu 12 7,ai 5 11,ai 6 12])
 (.seq (.au [ai 13 6,ai 4 13])
 (.ret)))
theorem YY:dA 20 14 Tryz.f20 Od [.t 4]:=⟨Tryz.func20,by kernel_rfl⟩
def Og:a1:=
 .seq (.au [gK 32 31 30])
 (.seq (.cond (.t 32)
 (.skip)
 (.exit 1))
 (.seq (.block 2 (.seq (.au [ai 33 31,lZ 34 29 31,fB 35 34,lA 12,ai 11 33,⟨none,.st 5 (.t 12) (.t 35),none,[12,35]⟩])
 (.seq (.au [ai 36 10,fB 37 12,nt 38 5,⟨some 39,.call 54 [(.t 36),(.t 37),(.t 38)],none,[36,37,38]⟩])
 (.cond (.t 39)
 (.seq (.au [ai 40 11,ai 6 40,dB 7])
 (.ret))
 (.skip)))))
 (.au [fp 41 31,ai 31 41])))
def Of:a1:=
 .seq (.au [iH 5 2,dB 6,dB 7])
 (.seq (.au [ai 14 0,ai 15 1,nt 16 5,⟨some 17,.call 31 [(.t 14),(.t 15),(.t 16)],none,[14,15,16]⟩,ai 13 17,ir 18 13,iu 19 13,ai 8 18,ai 9 19])
 (.seq (.block 0 (.seq (.au [ai 21 9,CR 22 21,ai 20 22])
 (.cond (.t 20)
 (.seq (.au [ai 23 9,dB 6,ai 7 23])
 (.ret))
 (.seq (.au [ai 25 8,l0 26 25,ai 24 26])
 (.cond (.t 24)
 (.seq (.au [dB 6,pe 7])
 (.ret))
 (.skip))))))
 (.seq (.au [ai 27 0,⟨some 28,.call 35 [(.t 27)],none,[27]⟩,ai 10 28])
 (.seq (.seq (.au [ai 29 1,e2 30 29,dB 31])
 (.block 1 (.loop Og)))
 (.seq (.au [⟨some 6,.cM (.c (.int .i64 (-1))),none,[]⟩,dB 7])
 (.ret))))))
theorem Y0:dA 24 42 Tryz.f24 Of [.t 6,.t 7]:=⟨Tryz.func24,by kernel_rfl⟩
def Om:a1:=
 .seq (.au [gK 40 39 38])
 (.seq (.cond (.t 40)
 (.skip)
 (.exit 2))
 (.seq (.block 3 (.seq (.au [CS 41 37 39,nt 42 41,⟨some 14,.new [.bg,(.bool false),(.int .i64 0)],none,[]⟩,⟨none,.st 3 (.t 14) (.t 42),none,[14,42]⟩])
 (.seq (.au [ai 43 9,nt 44 14,⟨some 45,.build [(.int .i64 0),(.int .i64 0),.bg,(.bool false),(.int .i64 0),(.int .i64 0),(.int .i64 0)] [(0,1,(.c (.int .i64 1))),(2,3,(.t 44))],none,[44]⟩,⟨some 46,.lD (.t 43) [(.t 45)],none,[43,45]⟩,ai 15 46])
 (.seq (.au [bO 47 8,ai 48 15,ai 49 15,fp 50 49,CT 51 47 48,⟨some 52,.dH 5 (.t 51),none,[51]⟩,⟨none,.st 1 (.t 52) (.t 50),none,[52,50]⟩])
 (.au [ai 53 12,ai 54 15,⟨some 55,.hz 1 1 [(.int .i64 0)] [(0,1,(.t 54))],none,[54]⟩,zY 56 53 55,ai 12 56])))))
 (.au [fp 57 39,ai 39 57])))
def On:a1:=
 .seq (.au [gK 66 65 64])
 (.seq (.cond (.t 66)
 (.skip)
 (.exit 4))
 (.seq (.block 5 (.seq (.au [rR 67 63 65,bO 68 67,ai 18 68])
 (.au [bO 69 8,ai 70 18,ai 71 16,CT 72 69 70,⟨some 73,.dH 6 (.t 72),none,[72]⟩,⟨none,.st 1 (.t 73) (.t 71),none,[73,71]⟩])))
 (.au [fp 74 65,ai 65 74])))
def Oo:a1:=
 .seq (.au [gK 31 30 29])
 (.seq (.cond (.t 31)
 (.skip)
 (.exit 0))
 (.seq (.block 1 (.seq (.au [ai 32 30,lZ 33 28 30,fB 34 33,lA 11,ai 10 32,⟨none,.st 5 (.t 11) (.t 34),none,[11,34]⟩])
 (.seq (.au [l1 12])
 (.seq (.seq (.au [ai 35 7,fB 36 11,⟨some 37,.call 34 [(.t 35),(.t 36)],none,[35,36]⟩,e2 38 37,dB 39])
 (.block 2 (.loop Om)))
 (.seq (.au [ai 58 9,ai 59 10,⟨some 60,.build [(.int .i64 0),(.int .i64 0),.bg,(.bool false),(.int .i64 0),(.int .i64 0),(.int .i64 0)] [(0,1,(.c (.int .i64 2))),(1,1,(.t 59))],none,[59]⟩,⟨some 61,.lD (.t 58) [(.t 60)],none,[58,60]⟩,fp 62 61,ai 16 62])
 (.seq (.au [ai 63 12,e2 64 63,dB 65])
 (.block 4 (.loop On))))))))
 (.au [fp 75 30,ai 30 75])))
def Ol:a1:=
 .seq (.au [l1 4,dB 5])
 (.seq (.seq (.au [ai 19 0,ai 20 1,⟨some 21,.call 20 [(.t 19),(.t 20)],none,[19,20]⟩,ai 6 21])
 (.seq (.au [ai 22 6,CR 23 22])
 (.cond (.t 23)
 (.seq (.au [ai 24 6,l1 4,ai 5 24])
 (.ret))
 (.skip))))
 (.seq (.au [ai 25 0,⟨some 26,.call 35 [(.t 25)],none,[25]⟩,ai 7 26])
 (.seq (.au [⟨some 8,.new [.bg],none,[]⟩])
 (.seq (.au [⟨some 27,.fn 55 [(.t 8)],none,[8]⟩,ai 9 27])
 (.seq (.seq (.au [ai 28 1,e2 29 28,dB 30])
 (.block 0 (.loop Oo)))
 (.seq (.au [ai 76 9,⟨some 77,.build [(.int .i64 0),(.int .i64 0),.bg,(.bool false),(.int .i64 0),(.int .i64 0),(.int .i64 0)] [(0,1,(.c (.int .i64 3)))],none,[]⟩,⟨some 78,.lD (.t 76) [(.t 77)],none,[76,77]⟩])
 (.seq (.au [bO 79 8,ai 4 79,dB 5])
 (.ret))))))))
theorem Y5:dA 29 80 Tryz.f29 Ol [.t 4,.t 5]:=⟨Tryz.func29,by kernel_rfl⟩
def Ot:a1:=
 .block 1 (.seq (.seq (.au [e3 24 8,bO 25 24])
 (.block 2 (.seq (.au [xp 27 25,ai 26 27])
 (.cond (.t 26)
 (.seq (.seq (.au [dR 28 8,bO 29 28,GZ 30 29])
 (.cond (.t 30)
 (.seq (.au [dB 4,dB 5,pe 6])
 (.ret))
 (.skip)))
 (.seq (.au [dR 31 8,bO 32 31,ai 33 7,ai 4 32,ai 5 33,dB 6])
 (.ret)))
 (.seq (.au [xq 35 25,ai 34 35])
 (.cond (.t 34)
 (.exit 0)
 (.skip)))))))
 (.seq (.au [pe 9])
 (.seq (.seq (.au [iv 36 8,dR 37 36,bO 38 37])
 (.cond (.t 38)
 (.au [⟨some 9,.cM (.c (.int .i64 1)),none,[]⟩])
 (.skip)))
 (.seq (.au [nt 40 3,iv 41 8,e3 42 41,bO 43 42,⟨some 44,.call 58 [(.t 40),(.t 43)],none,[40,43]⟩,ai 39 44,ir 45 39,iu 46 39,zZ 10,⟨none,.st 3 (.t 10) (.t 45),none,[10,45]⟩,ai 11 46])
 (.seq (.seq (.au [ai 47 11,l0 48 47,ai 49 48,CU 50 10 49,i_ 51 50 49,jX 52 9 49,⟨some 53,.bin (.int .neq) (.t 51) (.t 52),(some (49,false)),[51,52,49]⟩,gu 54 49 53])
 (.cond (.t 54)
 (.seq (.au [dB 4,dB 5,pe 6])
 (.ret))
 (.skip)))
 (.seq (.au [ai 55 7,fp 56 55,ai 7 56])
 (.seq (.au [⟨some 57,.dH 6 (.t 8),none,[8]⟩,bO 58 57,ai 12 58])
 (.seq (.seq (.au [dR 59 10,bO 60 59,iv 61 8,iv 62 61,bO 63 62,CV 64 60 63])
 (.cond (.t 64)
 (.au [⟨some 65,.dH 5 (.t 8),none,[8]⟩,bO 66 65,ai 12 66])
 (.skip)))
 (.au [ai 67 0,ai 68 12,CT 69 67 68,⟨some 70,.fh 7 (.t 69),none,[69]⟩,⟨none,.st 7 (.t 8) (.t 70),none,[8,70]⟩])))))))))
def Oq:a1:=
 .seq (.au [iH 3 1,dB 4,dB 5,dB 6])
 (.seq (.seq (.au [ai 13 0,⟨some 14,.call 56 [(.t 13)],none,[13]⟩,l0 15 14,ai 16 15,⟨some 17,.fh 3 (.t 3),(some (16,false)),[3,16]⟩,⟨some 18,.call 57 [(.t 17)],(some (16,false)),[17,16]⟩,z1 19 18 16,gu 20 16 19])
 (.cond (.t 20)
 (.seq (.au [dB 4,dB 5,pe 6])
 (.ret))
 (.skip)))
 (.seq (.draw [ai 21 0,⟨some 22,.cr 7 (.t 21) (.c (.int .i64 0)),none,[21]⟩,⟨some 23,.fh 7 (.t 22),none,[22]⟩,MG 8,dB 7,⟨none,.st 7 (.t 8) (.t 23),none,[8,23]⟩] [(2,[5])])
 (.seq (.skip)
 (.seq (.block 0 (.loop Ot))
 (.seq (.au [ai 71 7,⟨some 4,.cM (.c (.int .i64 (-1))),none,[]⟩,ai 5 71,dB 6])
 (.ret))))))
theorem Y6:dA 30 72 Tryz.f30 Oq [.t 4,.t 5,.t 6]:=⟨Tryz.func30,by kernel_rfl⟩
def Ov:a1:=
 .seq (.au [gK 26 25 24])
 (.seq (.cond (.t 26)
 (.skip)
 (.exit 0))
 (.seq (.block 1 (.seq (.au [lZ 27 23 25,fB 28 27,lA 11,⟨none,.st 5 (.t 11) (.t 28),none,[11,28]⟩])
 (.seq (.au [ai 29 9,fB 30 11,nt 31 5,⟨some 32,.call 59 [(.t 29),(.t 30),(.t 31)],none,[29,30,31]⟩,l0 33 32])
 (.cond (.t 33)
 (.seq (.au [ez 6,dB 7])
 (.ret))
 (.skip)))))
 (.au [fp 34 25,ai 25 34])))
def Ou:a1:=
 .seq (.au [iH 5 2,ez 6,dB 7])
 (.seq (.seq (.au [ai 12 0,ai 13 1,⟨some 14,.call 20 [(.t 12),(.t 13)],none,[12,13]⟩,ai 8 14])
 (.seq (.au [ai 15 8,CR 16 15])
 (.cond (.t 16)
 (.seq (.au [ai 17 8,ez 6,ai 7 17])
 (.ret))
 (.skip))))
 (.seq (.seq (.au [nt 18 5,⟨some 19,.call 57 [(.t 18)],none,[18]⟩,l0 20 19])
 (.cond (.t 20)
 (.seq (.au [ez 6,pe 7])
 (.ret))
 (.skip)))
 (.seq (.au [ai 21 0,⟨some 22,.call 35 [(.t 21)],none,[21]⟩,ai 9 22])
 (.seq (.seq (.au [ai 23 1,e2 24 23,dB 25])
 (.block 0 (.loop Ov)))
 (.seq (.au [tx 6,dB 7])
 (.ret))))))
theorem Y7:dA 31 35 Tryz.f31 Ou [.t 6,.t 7]:=⟨Tryz.func31,by kernel_rfl⟩
def c34:a1:=
 .seq (.au [iH 2 0,iH 3 1,l1 4])
 (.seq (.au [⟨some 5,.new [.bg],none,[]⟩])
 (.seq (.au [⟨some 6,.new [.kJ],none,[]⟩])
 (.seq (.au [⟨some 7,.fn 62 [(.t 5),(.t 2),(.t 6)],none,[5,2,6]⟩,⟨none,.st 1 (.t 6) (.t 7),none,[6,7]⟩])
 (.seq (.au [bO 8 6,fB 9 3,⟨some 10,.lD (.t 8) [(.t 9),(.c .bg)],none,[8,9]⟩])
 (.seq (.au [bO 11 5,ai 4 11])
 (.ret))))))
theorem Y8:dA 34 12 Tryz.f34 c34 [.t 4]:=⟨Tryz.func34,by kernel_rfl⟩
def Ox:a1:=
 .seq (.au [gK 10 9 8])
 (.seq (.cond (.t 10)
 (.skip)
 (.exit 0))
 (.seq (.block 1 (.seq (.au [lZ 11 7 9,fB 12 11,xr 5,⟨none,.st 5 (.t 5) (.t 12),none,[5,12]⟩])
 (.au [ai 13 3,e3 14 5,bO 15 14,fB 16 5,⟨none,.o_ .str (.t 13) (.t 15) (.t 16),none,[13,15,16]⟩])))
 (.au [fp 17 9,ai 9 17])))
def Ow:a1:=
 .seq (.au [⟨some 2,.cM (.c .jM),none,[]⟩])
 (.seq (.au [⟨some 6,.sW none,none,[]⟩,ai 3 6])
 (.seq (.seq (.au [ai 7 0,e2 8 7,dB 9])
 (.block 0 (.loop Ox)))
 (.seq (.au [ai 18 3,ai 2 18])
 (.ret))))
theorem Y9:dA 35 19 Tryz.f35 Ow [.t 2]:=⟨Tryz.func35,by kernel_rfl⟩
def Oy:a1:=
 .seq (.au [iH 1 0,ez 2])
 (.seq (.seq (.au [e3 4 1,bO 5 4,⟨some 6,.bin (.int .lss) (.t 5) (.c (.int .i64 10)),none,[5]⟩,ai 7 6,CU 8 1 7,i_ 9 8 7,⟨some 10,.bin (.int .gtr) (.t 9) (.c (.int .i64 16)),(some (7,false)),[9,7]⟩,gu 11 7 10])
 (.cond (.t 11)
 (.seq (.au [ez 2])
 (.ret))
 (.skip)))
 (.seq (.au [fB 12 1,⟨some 13,.build [(.int .i64 0),(.int .i64 0),(.int .i64 0),(.str []),.bg] [(0,1,(.c (.int .i64 22)))],none,[]⟩,MH 14 12 13,⟨some 15,.build [(.int .i64 0),(.int .i64 0),(.int .i64 0),(.str []),.bg] [(0,1,(.c (.int .i64 52))),(4,1,(.t 14))],none,[14]⟩,vb 16 15,⟨some 17,.call 65 [(.t 16)],none,[16]⟩,ai 3 17])
 (.seq (.au [ai 18 3,⟨some 19,.bin (.int .neq) (.t 18) (.c (.int .i64 2)),none,[18]⟩,ai 2 19])
 (.ret))))
theorem Y':dA 37 20 Tryz.f37 Oy [.t 2]:=⟨Tryz.func37,by kernel_rfl⟩
def Oz:a1:=
 .seq (.au [l1 4])
 (.seq (.au [ai 5 0,ai 6 0,e2 7 6,ai 8 0,e2 9 8,⟨some 10,.eZ 1 (.t 5) none (some (.t 7)) (some (.t 9)),none,[5,7,9]⟩,ai 11 1,⟨some 12,.hz 1 1 [(.int .i64 0)] [(0,1,(.t 11))],none,[11]⟩,zY 13 10 12,ai 4 13])
 (.ret))
theorem Y_:dA 39 14 Tryz.f39 Oz [.t 4]:=⟨Tryz.func39,by kernel_rfl⟩
def OB:a1:=
 .seq (.au [gK 20 19 18])
 (.seq (.cond (.t 20)
 (.skip)
 (.exit 0))
 (.seq (.block 1 (.seq (.au [lZ 21 17 19,fB 22 21,lA 9,⟨none,.st 5 (.t 9) (.t 22),none,[9,22]⟩])
 (.seq (.au [fB 23 9,⟨some 24,.call 37 [(.t 23)],none,[23]⟩,l0 25 24])
 (.cond (.t 25)
 (.seq (.au [xt 4,pe 5])
 (.ret))
 (.skip)))))
 (.au [fp 26 19,ai 19 26])))
def OA:a1:=
 .seq (.au [xt 4,dB 5])
 (.seq (.au [ai 11 0,⟨some 12,.call 70 [(.t 11)],none,[11]⟩,ai 10 12,ir 13 10,iu 14 10,ai 6 13,ai 7 14])
 (.seq (.seq (.au [ai 15 7,l0 16 15])
 (.cond (.t 16)
 (.seq (.au [xt 4,pe 5])
 (.ret))
 (.skip)))
 (.seq (.seq (.au [ai 17 1,e2 18 17,dB 19])
 (.block 0 (.loop OB)))
 (.seq (.seq (.au [ai 27 6,ai 28 1,⟨some 29,.call 71 [(.t 27),(.t 28)],none,[27,28]⟩,l0 30 29])
 (.cond (.t 30)
 (.seq (.au [xt 4,pe 5])
 (.ret))
 (.skip)))
 (.seq (.au [ai 31 6,ai 4 31,dB 5])
 (.ret))))))
theorem Za:dA 46 32 Tryz.f46 OA [.t 4,.t 5]:=⟨Tryz.func46,by kernel_rfl⟩
def HR:a1:=
 .seq (.au [gK 33 32 31])
 (.seq (.cond (.t 33)
 (.skip)
 (.exit 1))
 (.seq (.block 2 (.seq (.au [ai 34 32,lZ 35 30 32,fB 36 35,lA 8,ai 7 34,⟨none,.st 5 (.t 8) (.t 36),none,[8,36]⟩])
 (.seq (.draw [ai 37 0,fB 38 8,iv 39 5,bO 40 39,ai 41 7,CS 42 40 41,nt 43 42,⟨some 44,.call 54 [(.t 37),(.t 38),(.t 43)],none,[37,38,43]⟩,l0 45 44] [(1,[7]),(3,[7]),(6,[7])])
 (.cond (.t 45)
 (.seq (.au [ez 6])
 (.ret))
 (.skip)))))
 (.au [fp 46 32,ai 32 46])))
def OC:a1:=
 .seq (.au [iH 4 1,iH 5 2,ez 6])
 (.seq (.seq (.au [e3 9 4,bO 10 9])
 (.block 0 (.seq (.seq (.au [G0 12 10,ai 11 12])
 (.cond (.t 11)
 (.skip)
 (.au [G1 13 10,ai 11 13])))
 (.cond (.t 11)
 (.seq (.au [dR 14 5,bO 15 14,dR 16 4,bO 17 16,CV 18 15 17,ai 6 18])
 (.ret))
 (.seq (.au [CW 20 10,ai 19 20])
 (.cond (.t 19)
 (.seq (.au [dR 21 5,bO 22 21,ai 23 0,tz 24 4,bO 25 24,CX 26 23 25,⟨some 27,.oH 2 (.t 26),none,[26]⟩,⟨some 28,.bin (.int .neq) (.t 22) (.t 27),none,[22,27]⟩])
 (.cond (.t 28)
 (.seq (.au [ez 6])
 (.ret))
 (.skip)))
 (.skip)))))))
 (.seq (.seq (.au [pf 29 4,bO 30 29,e2 31 30,dB 32])
 (.block 1 (.loop HR)))
 (.seq (.au [tx 6])
 (.ret))))
theorem Zb:dA 54 47 Tryz.f54 OC [.t 6]:=⟨Tryz.func54,by kernel_rfl⟩
def OF:a1:=
 .seq (.au [iH 2 0,dB 3])
 (.seq (.au [bO 4 1,⟨some 5,.fh 7 (.t 2),none,[2]⟩,⟨some 6,.hz 1 7 [(.int .i64 0),(.int .i64 0),.bg,(.bool false),(.int .i64 0),(.int .i64 0),(.int .i64 0)] [(0,7,(.t 5))],none,[5]⟩,⟨some 7,.app 7 (.t 4) (.t 6),none,[4,6]⟩,⟨none,.st 1 (.t 1) (.t 7),none,[1,7]⟩])
 (.seq (.au [bO 8 1,e2 9 8,⟨some 10,.bin (.int .sub) (.t 9) (.c (.int .i64 1)),none,[9]⟩,ai 3 10])
 (.ret)))
theorem Zd:dA 55 11 Tryz.f55 OF [.t 3]:=⟨Tryz.func55,by kernel_rfl⟩
def OH:a1:=
 .seq (.au [gK 8 7 6])
 (.seq (.cond (.t 8)
 (.skip)
 (.exit 0))
 (.seq (.block 1 (.seq (.au [ai 9 7,CT 10 5 7,⟨some 11,.fh 7 (.t 10),none,[10]⟩,MG 4,ai 3 9,⟨none,.st 7 (.t 4) (.t 11),none,[4,11]⟩])
 (.seq (.au [e3 12 4,bO 13 12])
 (.block 2 (.seq (.au [vc 15 13,ai 14 15])
 (.cond (.t 14)
 (.seq (.au [⟨some 16,.dH 5 (.t 4),none,[4]⟩,bO 17 16,ai 18 3,⟨some 19,.bin (.int .leq) (.t 17) (.t 18),none,[17,18]⟩,ai 20 19,⟨some 21,.dH 6 (.t 4),(some (20,false)),[4,20]⟩,i_ 22 21 20,jX 23 3 20,⟨some 24,.bin (.int .leq) (.t 22) (.t 23),(some (20,false)),[22,23,20]⟩,gu 25 20 24,ai 26 25,⟨some 27,.dH 5 (.t 4),(some (26,false)),[4,26]⟩,i_ 28 27 26,jX 29 0 26,xu 30 29 26,G2 31 28 30 26,gu 32 26 31,ai 33 32,⟨some 34,.dH 6 (.t 4),(some (33,false)),[4,33]⟩,i_ 35 34 33,jX 36 0 33,xu 37 36 33,G2 38 35 37 33,gu 39 33 38])
 (.cond (.t 39)
 (.seq (.au [ez 2])
 (.ret))
 (.skip)))
 (.seq (.seq (.au [xp 41 13,ai 40 41])
 (.cond (.t 40)
 (.skip)
 (.au [xq 42 13,ai 40 42])))
 (.cond (.t 40)
 (.skip)
 (.seq (.au [ez 2])
 (.ret))))))))))
 (.au [fp 43 7,ai 7 43])))
def OG:a1:=
 .seq (.au [ez 2])
 (.seq (.seq (.au [ai 5 0,e2 6 5,dB 7])
 (.block 0 (.loop OH)))
 (.seq (.au [ai 44 0,e2 45 44,⟨some 46,.bin (.int .gtr) (.t 45) (.c (.int .i64 0)),none,[45]⟩,ai 2 46])
 (.ret)))
theorem Ze:dA 56 47 Tryz.f56 OG [.t 2]:=⟨Tryz.func56,by kernel_rfl⟩
def OJ:a1:=
 .seq (.au [gK 40 39 38])
 (.seq (.cond (.t 40)
 (.skip)
 (.exit 1))
 (.seq (.block 2 (.seq (.au [CS 41 37 39,nt 42 41,zZ 4,⟨none,.st 3 (.t 4) (.t 42),none,[4,42]⟩])
 (.seq (.au [nt 43 4,⟨some 44,.call 57 [(.t 43)],none,[43]⟩,l0 45 44])
 (.cond (.t 45)
 (.seq (.au [ez 2])
 (.ret))
 (.skip)))))
 (.au [fp 46 39,ai 39 46])))
def OI:a1:=
 .seq (.au [iH 1 0,ez 2])
 (.seq (.seq (.au [e3 5 1,bO 6 5])
 (.block 0 (.seq (.au [vc 8 6,ai 7 8])
 (.cond (.t 7)
 (.seq (.au [dR 9 1,bO 10 9,⟨some 11,.bin (.int .geq) (.t 10) (.c (.int .i64 (-1073741824))),none,[10]⟩,ai 12 11,xv 13 1 12,hR 14 13 12,⟨some 15,.bin (.int .leq) (.t 14) (.c (.int .i64 1073741823)),(some (12,true)),[14,12]⟩,eo 16 12 15,ai 17 16,rS 18 1 17,hR 19 18 17,rT 20 19 17,nu 21 20 17,eo 22 17 21,ai 2 22])
 (.ret))
 (.seq (.au [xq 24 6,ai 23 24])
 (.cond (.t 23)
 (.seq (.au [dR 25 1,bO 26 25,z6 27 26,ai 28 27,rS 29 1 28,hR 30 29 28,rT 31 30 28,nu 32 31 28,eo 33 28 32,ai 2 33])
 (.ret))
 (.seq (.au [xp 35 6,ai 34 35])
 (.cond (.t 34)
 (.seq (.seq (.au [iv 36 1,bO 37 36,e2 38 37,dB 39])
 (.block 1 (.loop OJ)))
 (.seq (.au [dR 47 1,bO 48 47,CY 49 48,ai 50 49,xv 51 1 50,hR 52 51 50,⟨some 53,.bin (.int .leq) (.t 52) (.c (.int .i64 1048575)),(some (50,true)),[52,50]⟩,eo 54 50 53,ai 2 54])
 (.ret)))
 (.skip)))))))))
 (.seq (.au [ez 2])
 (.ret)))
theorem Zf:dA 57 55 Tryz.f57 OI [.t 2]:=⟨Tryz.func57,by kernel_rfl⟩
def OL:a1:=
 .seq (.au [gK 11 10 9])
 (.seq (.cond (.t 11)
 (.skip)
 (.exit 0))
 (.seq (.block 1 (.seq (.au [rR 12 8 10,bO 13 12,ai 7 13])
 (.seq (.seq (.au [ai 14 7,GZ 15 14,ai 16 15,jX 17 7 16,⟨some 18,.dH 2 (.t 2),(some (16,false)),[2,16]⟩,i_ 19 18 16,xu 20 19 16,G2 21 17 20 16,gu 22 16 21])
 (.cond (.t 22)
 (.seq (.au [⟨some 23,.build [(.int .i64 0),(.int .i64 0),.bg] [],none,[]⟩,⟨none,.st 3 (.t 4) (.t 23),none,[4,23]⟩,ez 5])
 (.ret))
 (.skip)))
 (.au [iv 24 2,bO 25 24,ai 26 7,CS 27 25 26,nt 28 27,⟨none,.st 3 (.t 2) (.t 28),none,[2,28]⟩]))))
 (.au [fp 29 10,ai 10 29])))
def OK:a1:=
 .seq (.au [iH 2 0,zZ 4,ez 5])
 (.seq (.seq (.au [ai 8 1,e2 9 8,dB 10])
 (.block 0 (.loop OL)))
 (.seq (.au [nt 30 2,⟨none,.st 3 (.t 4) (.t 30),none,[4,30]⟩,tx 5])
 (.ret)))
theorem Zg:dA 58 31 Tryz.f58 OK [.nE 4 3,.t 5]:=⟨Tryz.func58,by kernel_rfl⟩
def ON:a1:=
 .seq (.au [⟨some 75,.lS (.t 74),none,[74]⟩,ir 76 75])
 (.seq (.cond (.t 76)
 (.skip)
 (.exit 1))
 (.block 2 (.seq (.au [⟨some 77,.vy (.t 74),none,[74]⟩,iu 78 77,xr 9,⟨none,.st 5 (.t 9) (.t 78),none,[9,78]⟩])
 (.seq (.au [dR 79 9,bO 80 79,dR 81 7,bO 82 81,CZ 83 80 82,ai 84 83,rS 85 9 84,hR 86 85 84,xv 87 5 84,hR 88 87 84,⟨some 89,.bin (.int .eql) (.t 86) (.t 88),(some (84,true)),[86,88,84]⟩,eo 90 84 89,ai 91 90,C0 92 9 91,hR 93 92 91,rT 94 93 91,rS 95 5 91,hR 96 95 91,rT 97 96 91,⟨some 98,.bin (.int .neq) (.t 94) (.t 97),(some (91,true)),[94,97,91]⟩,eo 99 91 98])
 (.cond (.t 99)
 (.seq (.au [ez 6])
 (.ret))
 (.skip))))))
def OM:a1:=
 .seq (.au [iH 4 1,iH 5 2,ez 6])
 (.seq (.seq (.au [e3 10 4,bO 11 10])
 (.block 0 (.seq (.au [G0 13 11,ai 12 13])
 (.cond (.t 12)
 (.seq (.au [e3 14 5,bO 15 14,vc 16 15,ai 6 16])
 (.ret))
 (.seq (.seq (.au [⟨some 18,.bin (.int .eql) (.t 11) (.c (.int .i64 13)),none,[11]⟩,ai 17 18])
 (.cond (.t 17)
 (.skip)
 (.au [G1 19 11,ai 17 19])))
 (.cond (.t 17)
 (.seq (.au [e3 20 5,bO 21 20,xp 22 21,ai 23 22,rS 24 5 23,hR 25 24 23,rT 26 25 23,nu 27 26 23,eo 28 23 27,ai 6 28])
 (.ret))
 (.seq (.au [⟨some 30,.bin (.int .eql) (.t 11) (.c (.int .i64 15)),none,[11]⟩,ai 29 30])
 (.cond (.t 29)
 (.seq (.draw [e3 31 5,bO 32 31,xp 33 32,ai 34 33,rS 35 5 34,hR 36 35 34,rT 37 36 34,⟨some 38,.bin (.int .eql) (.t 37) (.c (.int .i64 2)),(some (34,true)),[37,34]⟩,eo 39 34 38,ai 40 39,eu 41 0 40,C0 42 4 40,hR 43 42 40,⟨some 44,.cr 5 (.t 43) (.c (.int .i64 0)),(some (40,true)),[43,40]⟩,⟨some 45,.fh 5 (.t 44),(some (40,true)),[44,40]⟩,rS 46 5 40,hR 47 46 40,⟨some 48,.cr 3 (.t 47) (.c (.int .i64 0)),(some (40,true)),[47,40]⟩,⟨some 49,.fh 3 (.t 48),(some (40,true)),[48,40]⟩,⟨some 50,.call 59 [(.t 41),(.t 45),(.t 49)],(some (40,true)),[41,45,49,40]⟩,eo 51 40 50,ai 52 51,eu 53 0 52,C0 54 4 52,hR 55 54 52,⟨some 56,.cr 5 (.t 55) (.c (.int .i64 1)),(some (52,true)),[55,52]⟩,⟨some 57,.fh 5 (.t 56),(some (52,true)),[56,52]⟩,rS 58 5 52,hR 59 58 52,⟨some 60,.cr 3 (.t 59) (.c (.int .i64 1)),(some (52,true)),[59,52]⟩,⟨some 61,.fh 3 (.t 60),(some (52,true)),[60,52]⟩,⟨some 62,.call 59 [(.t 53),(.t 57),(.t 61)],(some (52,true)),[53,57,61,52]⟩,eo 63 52 62,ai 6 63] [(1,[19]),(5,[19]),(12,[19]),(14,[19]),(16,[19]),(18,[19]),(24,[31]),(26,[31]),(28,[31]),(30,[31])])
 (.ret))
 (.seq (.au [CW 65 11,ai 64 65])
 (.cond (.t 64)
 (.seq (.au [ai 66 0,tz 67 4,bO 68 67,CX 69 66 68,xr 7,⟨none,.st 5 (.t 7) (.t 69),none,[7,69]⟩])
 (.seq (.seq (.au [e3 70 5,bO 71 70,⟨some 72,.bin (.int .neq) (.t 71) (.c (.int .i64 2)),none,[71]⟩])
 (.cond (.t 72)
 (.seq (.au [ez 6])
 (.ret))
 (.skip)))
 (.seq (.seq (.au [ai 73 0,⟨some 74,.w4 (.t 73),none,[73]⟩])
 (.block 1 (.loop ON)))
 (.seq (.au [dR 100 5,bO 101 100,iv 102 7,bO 103 102,CV 104 101 103,ai 105 104,C0 106 4 105,hR 107 106 105,rT 108 107 105,G3 109 108 105,eo 110 105 109])
 (.cond (.t 110)
 (.seq (.draw [ai 111 0,pf 112 4,bO 113 112,⟨some 114,.cr 5 (.t 113) (.c (.int .i64 0)),none,[113]⟩,fB 115 114,iv 116 5,bO 117 116,⟨some 118,.cr 3 (.t 117) (.c (.int .i64 0)),none,[117]⟩,nt 119 118,⟨some 120,.call 59 [(.t 111),(.t 115),(.t 119)],none,[111,115,119]⟩,ai 6 120] [(2,[9]),(4,[9]),(6,[9]),(8,[9])])
 (.ret))
 (.skip))))))
 (.skip)))))))))))
 (.seq (.au [tx 6])
 (.ret)))
theorem Zh:dA 59 121 Tryz.f59 OM [.t 6]:=⟨Tryz.func59,by kernel_rfl⟩
def HS:a1:=
 .seq (.au [gK 48 47 46])
 (.seq (.cond (.t 48)
 (.skip)
 (.exit 1))
 (.seq (.block 2 (.seq (.au [ai 49 47,lZ 50 45 47,fB 51 50,lA 9,ai 8 49,⟨none,.st 5 (.t 9) (.t 51),none,[9,51]⟩])
 (.draw [bO 52 4,fB 53 9,ai 54 1,ai 55 8,⟨some 56,.call 39 [(.t 54),(.t 55)],none,[54,55]⟩,⟨some 57,.lD (.t 52) [(.t 53),(.t 56)],none,[52,53,56]⟩] [(0,[4,5]),(1,[4,5])])))
 (.au [fp 58 47,ai 47 58])))
def OO:a1:=
 .seq (.au [iH 5 0])
 (.seq (.au [ai 10 1,⟨some 11,.app 1 (.c .bg) (.t 10),none,[10]⟩,ai 7 11])
 (.seq (.seq (.au [e3 12 5,bO 13 12])
 (.block 0 (.seq (.au [G0 15 13,ai 14 15])
 (.cond (.t 14)
 (.au [bO 16 2,ai 17 7,dR 18 5,bO 19 18,⟨some 20,.build [.bg,(.bool false),(.int .i64 0)] [(0,1,(.t 17)),(1,1,(.c (.bool true))),(2,1,(.t 19))],none,[17,19]⟩,G4 21 20,⟨some 22,.app 3 (.t 16) (.t 21),none,[16,21]⟩,⟨none,.st 1 (.t 2) (.t 22),none,[2,22]⟩])
 (.seq (.au [G1 24 13,ai 23 24])
 (.cond (.t 23)
 (.au [bO 25 2,ai 26 7,dR 27 5,bO 28 27,MI 29 26 28,G4 30 29,⟨some 31,.app 3 (.t 25) (.t 30),none,[25,30]⟩,⟨none,.st 1 (.t 2) (.t 31),none,[2,31]⟩])
 (.seq (.au [CW 33 13,ai 32 33])
 (.cond (.t 32)
 (.au [bO 34 2,ai 35 7,bO 36 3,tz 37 5,bO 38 37,CX 39 36 38,⟨some 40,.oH 2 (.t 39),none,[39]⟩,MI 41 35 40,G4 42 41,⟨some 43,.app 3 (.t 34) (.t 42),none,[34,42]⟩,⟨none,.st 1 (.t 2) (.t 43),none,[2,43]⟩])
 (.skip)))))))))
 (.seq (.au [pf 44 5,bO 45 44,e2 46 45,dB 47])
 (.block 1 (.loop HS)))))
theorem Zj:dA 62 59 Tryz.f62 OO []:=⟨Tryz.func62,by kernel_rfl⟩
def OS:a1:=
 .seq (.au [gK 12 11 10])
 (.seq (.cond (.t 12)
 (.skip)
 (.exit 0))
 (.seq (.block 1 (.seq (.au [lZ 13 9 11,fB 14 13,lA 5,⟨none,.st 5 (.t 5) (.t 14),none,[5,14]⟩])
 (.seq (.au [e3 15 5,bO 16 15,⟨some 17,.call 96 [(.t 16)],none,[16]⟩,⟨some 18,.bin (.int .neq) (.t 17) (.c (.int .i64 7)),none,[17]⟩,ai 19 18,jX 20 3 19,⟨some 21,.fh 5 (.t 5),(some (19,false)),[5,19]⟩,⟨some 22,.call 97 [(.t 20),(.t 21)],(some (19,false)),[20,21,19]⟩,z1 23 22 19,gu 24 19 23])
 (.cond (.t 24)
 (.seq (.au [pe 2])
 (.ret))
 (.skip)))))
 (.au [fp 25 11,ai 11 25])))
def OT:a1:=
 .seq (.au [gK 29 28 27])
 (.seq (.cond (.t 29)
 (.skip)
 (.exit 2))
 (.seq (.block 3 (.seq (.au [lZ 30 26 28,fB 31 30,lA 7,⟨none,.st 5 (.t 7) (.t 31),none,[7,31]⟩])
 (.seq (.au [fB 32 7,⟨some 33,.call 98 [(.t 32)],none,[32]⟩,⟨some 34,.bin (.int .gtr) (.t 33) (.c (.int .i64 200)),none,[33]⟩])
 (.cond (.t 34)
 (.seq (.au [⟨some 2,.cM (.c (.int .i64 260)),none,[]⟩])
 (.ret))
 (.skip)))))
 (.au [fp 35 28,ai 28 35])))
def OR:a1:=
 .seq (.au [dB 2])
 (.seq (.au [⟨some 8,.call 95 [],none,[]⟩,ai 3 8])
 (.seq (.seq (.au [ai 9 0,e2 10 9,dB 11])
 (.block 0 (.loop OS)))
 (.seq (.seq (.au [ai 26 0,e2 27 26,dB 28])
 (.block 2 (.loop OT)))
 (.seq (.au [dB 2])
 (.ret)))))
theorem Zl:dA 65 36 Tryz.f65 OR [.t 2]:=⟨Tryz.func65,by kernel_rfl⟩
def OW:a1:=
 .seq (.au [gK 19 18 17])
 (.seq (.cond (.t 19)
 (.skip)
 (.exit 0))
 (.seq (.block 1 (.seq (.au [lZ 20 16 18,fB 21 20,xr 7,⟨none,.st 5 (.t 7) (.t 21),none,[7,21]⟩])
 (.seq (.draw [ai 23 4,dG 24 23,e3 25 24,bO 26 25,e3 27 7,bO 28 27,MJ 29 26 28,ai 22 29,ir 30 22,iu 31 22,xr 8,⟨none,.st 5 (.t 8) (.t 30),none,[8,30]⟩,ai 9 31] [(3,[11]),(5,[11]),(6,[11])])
 (.seq (.au [dR 32 7,bO 33 32,iv 34 7,bO 35 34,⟨some 36,.build [(.str []),(.int .i64 0)] [(0,1,(.t 33)),(1,1,(.t 35))],none,[33,35]⟩,⟨some 10,.new [(.str []),(.int .i64 0)],none,[]⟩,⟨none,.st 2 (.t 10) (.t 36),none,[10,36]⟩])
 (.seq (.seq (.au [ai 37 9,ai 38 37,jX 39 5 38,⟨some 40,.fh 2 (.t 10),(some (38,false)),[10,38]⟩,⟨some 41,.looks 152 (.bool false) false (.t 39) (.t 40),(some (38,false)),[39,40,38]⟩,gu 42 38 41,ai 43 42,⟨some 44,.dH 4 (.t 7),(some (43,false)),[7,43]⟩,i_ 45 44 43,xu 46 45 43,⟨some 47,.bin (.int .gtr) (.t 46) (.c (.int .i64 1)),(some (43,false)),[46,43]⟩,gu 48 43 47,ai 49 48,CU 50 7 49,i_ 51 50 49,⟨some 52,.build [(.int .i64 0),(.int .i64 0),(.int .i64 0),(.str []),.bg] [(0,1,(.c (.int .i64 16))),(3,1,(.t 51))],(some (49,false)),[51,49]⟩,⟨some 53,.call 37 [(.t 52)],(some (49,false)),[52,49]⟩,z1 54 53 49,gu 55 49 54])
 (.cond (.t 55)
 (.seq (.au [xt 2,ez 3])
 (.ret))
 (.skip)))
 (.seq (.au [ai 56 5,⟨some 57,.fh 2 (.t 10),none,[10]⟩,⟨none,.zA 152 (.t 56) (.t 57) (.c (.bool true)),none,[56,57]⟩])
 (.draw [ai 58 4,dG 59 58,e3 60 59,bO 61 60,e3 62 7,bO 63 62,fB 64 7,⟨none,.o_ .str (.t 61) (.t 63) (.t 64),none,[61,63,64]⟩] [(3,[7]),(5,[7]),(6,[7])])))))))
 (.au [fp 65 18,ai 18 65])))
def OV:a1:=
 .seq (.au [xt 2,ez 3])
 (.seq (.au [⟨some 11,.sW none,none,[]⟩,ai 12 0,⟨some 13,.build [.jM,.bg] [(0,1,(.t 11)),(1,1,(.t 12))],none,[11,12]⟩,iH 14 13,ai 4 14])
 (.seq (.au [⟨some 15,.sW none,none,[]⟩,ai 5 15])
 (.seq (.seq (.au [ai 16 0,e2 17 16,dB 18])
 (.block 0 (.loop OW)))
 (.seq (.au [ai 66 4,ai 2 66,tx 3])
 (.ret)))))
theorem Zm:dA 70 67 Tryz.f70 OV [.t 2,.t 3]:=⟨Tryz.func70,by kernel_rfl⟩
def OY:a1:=
 .seq (.au [gK 25 24 23])
 (.seq (.cond (.t 25)
 (.skip)
 (.exit 0))
 (.seq (.block 1 (.seq (.au [lZ 26 22 24,fB 27 26,lA 7,⟨none,.st 5 (.t 7) (.t 27),none,[7,27]⟩])
 (.seq (.au [fB 28 7,⟨some 29,.call 72 [(.t 28)],none,[28]⟩,l0 30 29])
 (.cond (.t 30)
 (.au [ai 31 5,fB 32 7,vb 33 32,⟨some 34,.app 5 (.t 31) (.t 33),none,[31,33]⟩,ai 5 34])
 (.skip)))))
 (.au [fp 35 24,ai 24 35])))
def HT:a1:=
 .seq (.seq (.draw [ai 95 10,z7 96 15,G5 97 95 96,e2 98 97,pf 99 12,bO 100 99,e2 101 100,gK 102 98 101] [])
 (.cond (.t 102)
 (.skip)
 (.exit 4)))
 (.block 5 (.au [ai 103 10,z7 104 15,⟨some 106,.hz 1 1 [.bg] [(0,1,(.c .bg))],none,[]⟩,⟨some 107,.yT 111 .bg (.t 103) (.t 104),none,[103,104]⟩,ir 105 107,zY 108 105 106,iu 109 107,⟨none,.x1 (.t 103) (.t 109) (.t 108),none,[103,109,108]⟩]))
def HU:a1:=
 .seq (.au [gK 114 113 112])
 (.seq (.cond (.t 114)
 (.skip)
 (.exit 6))
 (.seq (.block 7 (.seq (.au [ai 115 113,lZ 116 111 113,fB 117 116,lA 17,ai 16 115,⟨none,.st 5 (.t 17) (.t 117),none,[17,117]⟩])
 (.draw [ai 118 10,z7 119 15,G5 120 118 119,ai 121 16,ai 122 10,z7 123 15,G5 124 122 123,ai 125 16,rR 126 124 125,bO 127 126,fB 128 17,vb 129 128,⟨some 130,.app 5 (.t 127) (.t 129),none,[127,129]⟩,rR 131 120 121,⟨none,.st 1 (.t 131) (.t 130),none,[131,130]⟩] [(1,[12,14]),(2,[12,14]),(5,[12]),(6,[12]),(9,[12]),(10,[12])])))
 (.au [fp 132 113,ai 113 132])))
def OZ:a1:=
 .seq (.au [gK 57 56 55])
 (.seq (.cond (.t 57)
 (.skip)
 (.exit 2))
 (.seq (.block 3 (.seq (.au [lZ 58 54 56,fB 59 58,lA 12,⟨none,.st 5 (.t 12) (.t 59),none,[12,59]⟩])
 (.seq (.seq (.au [e3 60 12,bO 61 60,ai 62 8,⟨some 63,.bin (.int .neq) (.t 61) (.t 62),none,[61,62]⟩])
 (.cond (.t 63)
 (.seq (.au [ez 4])
 (.ret))
 (.skip)))
 (.seq (.seq (.au [ai 64 8,CW 65 64])
 (.cond (.t 65)
 (.seq (.draw [ai 67 0,dG 68 67,e3 69 68,bO 70 69,tz 71 12,bO 72 71,MJ 73 70 72,ai 66 73,ir 74 66,iu 75 66,xr 13,⟨none,.st 5 (.t 13) (.t 74),none,[13,74]⟩,ai 14 75] [(3,[11]),(5,[11]),(6,[11])])
 (.seq (.au [ai 76 14,l0 77 76,ai 78 77,⟨some 79,.dH 1 (.t 13),(some (78,false)),[13,78]⟩,i_ 80 79 78,jX 81 9 78,⟨some 82,.bin (.str .neq) (.t 80) (.t 81),(some (78,false)),[80,81,78]⟩,gu 83 78 82,ai 84 83,⟨some 85,.dH 4 (.t 13),(some (84,false)),[13,84]⟩,i_ 86 85 84,xu 87 86 84,⟨some 88,.dH 4 (.t 12),(some (84,false)),[12,84]⟩,i_ 89 88 84,xu 90 89 84,⟨some 91,.bin (.int .neq) (.t 87) (.t 90),(some (84,false)),[87,90,84]⟩,gu 92 84 91])
 (.cond (.t 92)
 (.seq (.au [ez 4])
 (.ret))
 (.skip))))
 (.skip)))
 (.seq (.au [fB 93 12,⟨some 94,.call 73 [(.t 93)],none,[93]⟩,⟨some 15,.new [(.int .i64 0),(.int .i64 0),(.str []),(.int .i64 0)],none,[]⟩,⟨none,.st 4 (.t 15) (.t 94),none,[15,94]⟩])
 (.seq (.block 4 (.loop HT))
 (.seq (.au [pf 110 12,bO 111 110,e2 112 111,dB 113])
 (.block 6 (.loop HU)))))))))
 (.au [fp 133 56,ai 56 133])))
def O0:a1:=
 .seq (.au [gK 143 142 141])
 (.seq (.cond (.t 143)
 (.skip)
 (.exit 10))
 (.seq (.block 11 (.seq (.au [rR 144 140 142,bO 145 144,ai 21 145])
 (.seq (.au [ai 146 0,ai 147 21,⟨some 148,.call 71 [(.t 146),(.t 147)],none,[146,147]⟩,l0 149 148])
 (.cond (.t 149)
 (.seq (.au [ez 4])
 (.ret))
 (.skip)))))
 (.au [fp 150 142,ai 142 150])))
def O1:a1:=
 .seq (.au [⟨some 136,.lS (.t 135),none,[135]⟩,ir 137 136])
 (.seq (.cond (.t 137)
 (.skip)
 (.exit 8))
 (.block 9 (.seq (.au [⟨some 138,.vy (.t 135),none,[135]⟩,iu 139 138,ai 19 139])
 (.seq (.au [ai 140 19,e2 141 140,dB 142])
 (.block 10 (.loop O0))))))
def OX:a1:=
 .seq (.au [ez 4])
 (.seq (.au [l1 5])
 (.seq (.seq (.au [ai 22 1,e2 23 22,dB 24])
 (.block 0 (.loop OY)))
 (.seq (.seq (.au [ai 36 5,e2 37 36,z6 38 37])
 (.cond (.t 38)
 (.seq (.au [tx 4])
 (.ret))
 (.skip)))
 (.seq (.draw [ai 39 5,⟨some 40,.cr 5 (.t 39) (.c (.int .i64 0)),none,[39]⟩,e3 41 40,bO 42 41,ai 43 0,dG 44 43,e3 45 44,bO 46 45,ai 47 5,⟨some 48,.cr 5 (.t 47) (.c (.int .i64 0)),none,[47]⟩,tz 49 48,bO 50 49,CX 51 46 50,⟨some 52,.oH 1 (.t 51),none,[51]⟩,ai 8 42,ai 9 52] [])
 (.seq (.au [⟨some 53,.sW none,none,[]⟩,ai 10 53])
 (.seq (.seq (.au [ai 54 5,e2 55 54,dB 56])
 (.block 2 (.loop OZ)))
 (.seq (.seq (.au [ai 134 10,⟨some 135,.w4 (.t 134),none,[134]⟩])
 (.block 8 (.loop O1)))
 (.seq (.au [tx 4])
 (.ret)))))))))
theorem Zn:dA 71 151 Tryz.f71 OX [.t 4]:=⟨Tryz.func71,by kernel_rfl⟩
def O4:a1:=
 .seq (.au [iH 1 0,ez 2])
 (.seq (.au [e3 3 1,bO 4 3,⟨some 5,.bin (.int .eql) (.t 4) (.c (.int .i64 10)),none,[4]⟩,ai 6 5,CU 7 1 6,i_ 8 7 6,⟨some 9,.bin (.int .eql) (.t 8) (.c (.int .i64 11)),(some (6,false)),[8,6]⟩,gu 10 6 9,ai 2 10])
 (.ret))
theorem Zp:dA 72 11 Tryz.f72 O4 [.t 2]:=⟨Tryz.func72,by kernel_rfl⟩
def O5:a1:=
 .seq (.au [iH 1 0,⟨some 2,.new [(.int .i64 0),(.int .i64 0),(.str []),(.int .i64 0)],none,[]⟩])
 (.seq (.au [e3 3 1,bO 4 3,dR 5 1,bO 6 5,tz 7 1,bO 8 7,pf 9 1,bO 10 9,e2 11 10,⟨some 12,.build [(.int .i64 0),(.int .i64 0),(.str []),(.int .i64 0)] [(0,1,(.t 4)),(1,1,(.t 6)),(2,1,(.t 8)),(3,1,(.t 11))],none,[4,6,8,11]⟩,⟨none,.st 4 (.t 2) (.t 12),none,[2,12]⟩])
 (.ret))
theorem Zq:dA 73 13 Tryz.f73 O5 [.nE 2 4]:=⟨Tryz.func73,by kernel_rfl⟩
def O7:a1:=
 .seq (.au [dB 2])
 (.seq (.block 0 (.seq (.au [ai 4 0,⟨some 5,.bin (.int .geq) (.t 4) (.c (.int .i64 1)),none,[4]⟩,ai 6 5,eu 7 0 6,⟨some 8,.bin (.int .leq) (.t 7) (.c (.int .i64 4)),(some (6,true)),[7,6]⟩,eo 9 6 8,ai 3 9])
 (.cond (.t 3)
 (.seq (.au [⟨some 2,.cM (.c (.int .i64 1)),none,[]⟩])
 (.ret))
 (.seq (.au [ai 11 0,⟨some 12,.bin (.int .geq) (.t 11) (.c (.int .i64 10)),none,[11]⟩,ai 13 12,eu 14 0 13,⟨some 15,.bin (.int .leq) (.t 14) (.c (.int .i64 16)),(some (13,true)),[14,13]⟩,eo 16 13 15,ai 10 16])
 (.cond (.t 10)
 (.seq (.au [pe 2])
 (.ret))
 (.seq (.au [ai 18 0,⟨some 19,.bin (.int .geq) (.t 18) (.c (.int .i64 20)),none,[18]⟩,ai 20 19,eu 21 0 20,⟨some 22,.bin (.int .leq) (.t 21) (.c (.int .i64 39)),(some (20,true)),[21,20]⟩,eo 23 20 22,ai 17 23])
 (.cond (.t 17)
 (.seq (.au [⟨some 2,.cM (.c (.int .i64 3)),none,[]⟩])
 (.ret))
 (.seq (.au [ai 25 0,⟨some 26,.bin (.int .eql) (.t 25) (.c (.int .i64 45)),none,[25]⟩,ai 24 26])
 (.cond (.t 24)
 (.seq (.au [⟨some 2,.cM (.c (.int .i64 4)),none,[]⟩])
 (.ret))
 (.seq (.au [ai 28 0,⟨some 29,.bin (.int .eql) (.t 28) (.c (.int .i64 46)),none,[28]⟩,ai 27 29])
 (.cond (.t 27)
 (.seq (.au [⟨some 2,.cM (.c (.int .i64 5)),none,[]⟩])
 (.ret))
 (.seq (.au [ai 31 0,⟨some 32,.bin (.int .eql) (.t 31) (.c (.int .i64 47)),none,[31]⟩,ai 30 32])
 (.cond (.t 30)
 (.seq (.au [⟨some 2,.cM (.c (.int .i64 6)),none,[]⟩])
 (.ret))
 (.seq (.au [ai 34 0,⟨some 35,.bin (.int .geq) (.t 34) (.c (.int .i64 50)),none,[34]⟩,ai 36 35,eu 37 0 36,⟨some 38,.bin (.int .leq) (.t 37) (.c (.int .i64 53)),(some (36,true)),[37,36]⟩,eo 39 36 38,ai 33 39])
 (.cond (.t 33)
 (.seq (.au [⟨some 2,.cM (.c (.int .i64 7)),none,[]⟩])
 (.ret))
 (.skip))))))))))))))))
 (.seq (.au [dB 2])
 (.ret)))
theorem Zr:dA 96 40 Tryz.f96 O7 [.t 2]:=⟨Tryz.func96,by kernel_rfl⟩
def O9:a1:=
 .seq (.au [gK 88 87 86])
 (.seq (.cond (.t 88)
 (.skip)
 (.exit 0))
 (.seq (.block 1 (.seq (.au [ai 89 87,lZ 90 85 87,fB 91 90,lA 10,ai 9 89,⟨none,.st 5 (.t 10) (.t 91),none,[10,91]⟩])
 (.seq (.au [dR 92 5,bO 93 92,ai 11 93])
 (.seq (.block 2 (.seq (.au [ai 95 9,ai 96 7,e2 97 96,gK 98 95 97,ai 94 98])
 (.cond (.t 94)
 (.au [ai 99 7,ai 100 9,rR 101 99 100,bO 102 101,ai 11 102])
 (.seq (.au [ai 104 9,ai 105 7,e2 106 105,ai 107 8,⟨some 108,.bin (.int .add) (.t 106) (.t 107),none,[106,107]⟩,z8 109 104 108,ai 103 109])
 (.cond (.t 103)
 (.au [pf 110 5,bO 111 110,ai 112 9,ai 113 7,e2 114 113,C1 115 112 114,ai 116 8,C1 117 115 116,rR 118 111 117,bO 119 118,ai 11 119])
 (.skip))))))
 (.seq (.au [fB 120 10,ai 121 11,⟨some 122,.call 103 [(.t 120),(.t 121)],none,[120,121]⟩,l0 123 122,ai 124 123,jX 125 0 124,⟨some 126,.fh 5 (.t 10),(some (124,false)),[10,124]⟩,⟨some 127,.call 97 [(.t 125),(.t 126)],(some (124,false)),[125,126,124]⟩,z1 128 127 124,gu 129 124 128])
 (.cond (.t 129)
 (.seq (.au [ez 4])
 (.ret))
 (.skip)))))))
 (.au [fp 130 87,ai 87 130])))
def O8:a1:=
 .seq (.au [iH 3 1,ez 4])
 (.seq (.au [ai 13 0,e3 14 3,bO 15 14,⟨some 16,.look .int (.agg [.bg,(.int .i64 0),(.int .i64 0),(.int .i64 0),.bg,(.int .i64 0),(.int .i64 0),(.int .i64 0)]) true (.t 13) (.t 15),none,[13,15]⟩,ai 12 16,ir 17 12,iu 18 12,⟨some 5,.new [.bg,(.int .i64 0),(.int .i64 0),(.int .i64 0),.bg,(.int .i64 0),(.int .i64 0),(.int .i64 0)],none,[]⟩,⟨none,.st 8 (.t 5) (.t 17),none,[5,17]⟩,ai 6 18])
 (.seq (.seq (.au [ai 19 6,l0 20 19,ai 21 20,⟨some 22,.dH 1 (.t 3),(some (21,false)),[3,21]⟩,i_ 23 22 21,⟨some 24,.dH 5 (.t 5),(some (21,false)),[5,21]⟩,⟨some 25,.ur 2 1 (.t 24) (.c (.int .i64 0)),(some (21,false)),[24,21]⟩,i_ 26 25 21,⟨some 27,.bin (.int .lss) (.t 23) (.t 26),(some (21,false)),[23,26,21]⟩,gu 28 21 27,ai 29 28,⟨some 30,.dH 1 (.t 3),(some (29,false)),[3,29]⟩,i_ 31 30 29,⟨some 32,.dH 5 (.t 5),(some (29,false)),[5,29]⟩,⟨some 33,.ur 2 1 (.t 32) (.c (.int .i64 1)),(some (29,false)),[32,29]⟩,i_ 34 33 29,⟨some 35,.bin (.int .gtr) (.t 31) (.t 34),(some (29,false)),[31,34,29]⟩,gu 36 29 35,ai 37 36,⟨some 38,.dH 2 (.t 3),(some (37,false)),[3,37]⟩,i_ 39 38 37,⟨some 40,.bin (.int .lss) (.t 39) (.c (.int .i64 0)),(some (37,false)),[39,37]⟩,gu 41 37 40,ai 42 41,⟨some 43,.dH 2 (.t 3),(some (42,false)),[3,42]⟩,i_ 44 43 42,⟨some 45,.bin (.int .gtr) (.t 44) (.c (.int .i64 65536)),(some (42,false)),[44,42]⟩,gu 46 42 45,ai 47 46,⟨some 48,.dH 7 (.t 5),(some (47,false)),[5,47]⟩,i_ 49 48 47,⟨some 50,.dH 3 (.t 3),(some (47,false)),[3,47]⟩,i_ 51 50 47,⟨some 52,.call 101 [(.t 49),(.t 51)],(some (47,false)),[49,51,47]⟩,z1 53 52 47,gu 54 47 53])
 (.cond (.t 54)
 (.seq (.au [ez 4])
 (.ret))
 (.skip)))
 (.seq (.au [e3 55 5,bO 56 55,ai 7 56])
 (.seq (.seq (.au [e3 57 3,bO 58 57,⟨some 59,.bin (.int .eql) (.t 58) (.c (.int .i64 50)),none,[58]⟩])
 (.cond (.t 59)
 (.au [⟨some 60,.hz 1 1 [(.int .i64 0)] [(0,1,(.c (.int .i64 8)))],none,[]⟩,dR 61 3,bO 62 61,⟨some 63,.call 102 [(.t 60),(.t 62)],none,[60,62]⟩,ai 7 63])
 (.skip)))
 (.seq (.au [pf 64 3,bO 65 64,e2 66 65,ai 67 7,e2 68 67,C1 69 66 68,pf 70 5,bO 71 70,e2 72 71,C1 73 69 72,ai 8 73])
 (.seq (.seq (.au [ai 74 8,iv 75 5,bO 76 75,gK 77 74 76,ai 78 77,jX 79 8 78,⟨some 80,.dH 3 (.t 5),(some (78,false)),[5,78]⟩,i_ 81 80 78,⟨some 82,.bin (.int .gtr) (.t 79) (.t 81),(some (78,false)),[79,81,78]⟩,gu 83 78 82])
 (.cond (.t 83)
 (.seq (.au [ez 4])
 (.ret))
 (.skip)))
 (.seq (.seq (.au [pf 84 3,bO 85 84,e2 86 85,dB 87])
 (.block 0 (.loop O9)))
 (.seq (.au [tx 4])
 (.ret)))))))))
theorem Zs:dA 97 131 Tryz.f97 O8 [.t 4]:=⟨Tryz.func97,by kernel_rfl⟩
def O_:a1:=
 .seq (.au [gK 10 9 8])
 (.seq (.cond (.t 10)
 (.skip)
 (.exit 0))
 (.seq (.block 1 (.seq (.au [lZ 11 7 9,fB 12 11,lA 5,⟨none,.st 5 (.t 5) (.t 12),none,[5,12]⟩])
 (.au [ai 13 3,fB 14 5,⟨some 15,.call 98 [(.t 14)],none,[14]⟩,⟨some 16,.ea [(.t 13),(.t 15)],none,[13,15]⟩,ai 3 16])))
 (.au [fp 17 9,ai 9 17])))
def O':a1:=
 .seq (.au [iH 1 0,dB 2])
 (.seq (.au [dB 3])
 (.seq (.seq (.au [pf 6 1,bO 7 6,e2 8 7,dB 9])
 (.block 0 (.loop O_)))
 (.seq (.au [ai 18 3,fp 19 18,ai 2 19])
 (.ret))))
theorem Zt:dA 98 20 Tryz.f98 O' [.t 2]:=⟨Tryz.func98,by kernel_rfl⟩
def NI:a1:=
 .seq (.au [ez 4])
 (.seq (.seq (.au [ai 5 0])
 (.block 0 (.seq (.au [vc 7 5,ai 6 7])
 (.cond (.t 6)
 (.seq (.au [ai 8 1,⟨some 9,.call 104 [(.c (.int .i64 3)),(.t 8)],none,[8]⟩,ai 4 9])
 (.ret))
 (.seq (.au [xp 11 5,ai 10 11])
 (.cond (.t 10)
 (.seq (.au [ai 12 1,⟨some 13,.call 104 [(.c (.int .i64 4)),(.t 12)],none,[12]⟩,ai 4 13])
 (.ret))
 (.seq (.au [xq 15 5,ai 14 15])
 (.cond (.t 14)
 (.seq (.au [ai 16 1,⟨some 17,.call 104 [(.c (.int .i64 5)),(.t 16)],none,[16]⟩,ai 4 17])
 (.ret))
 (.seq (.au [⟨some 19,.bin (.int .eql) (.t 5) (.c (.int .i64 4)),none,[5]⟩,ai 18 19])
 (.cond (.t 18)
 (.seq (.au [ai 20 1,mB 21 20,⟨some 22,.bin (.int .leq) (.t 21) (.c (.int .i64 4096)),none,[21]⟩,ai 4 22])
 (.ret))
 (.seq (.au [G6 24 5,ai 23 24])
 (.cond (.t 23)
 (.seq (.au [⟨some 25,.hz 8 1 [(.str [])] [(0,1,(.c (.str [43]))),(1,1,(.c (.str [45]))),(2,1,(.c (.str [42]))),(3,1,(.c (.str [47]))),(4,1,(.c (.str [109,111,100]))),(5,1,(.c (.str [61]))),(6,1,(.c (.str [60]))),(7,1,(.c (.str [60,61])))],none,[]⟩,ai 26 1,⟨some 27,.call 105 [(.t 25),(.t 26)],none,[25,26]⟩,ai 4 27])
 (.ret))
 (.skip)))))))))))))
 (.seq (.au [ai 28 1,⟨some 29,.bin (.str .eql) (.t 28) (.c (.str [])),none,[28]⟩,ai 4 29])
 (.ret)))
theorem Yy:dA 101 30 Tryz.f101 NI [.t 4]:=⟨Tryz.func101,by kernel_rfl⟩
def NK:a1:=
 .seq (.seq (.au [ai 34 8,ai 35 7,e2 36 35,gK 37 34 36])
 (.cond (.t 37)
 (.skip)
 (.exit 0)))
 (.block 1 (.draw [ai 38 8,ai 39 7,ai 40 8,⟨some 41,.eZ 1 (.t 39) (some (.t 40)) none none,none,[39,40]⟩,ai 42 7,ai 43 8,⟨some 44,.eZ 1 (.t 42) none (some (.t 43)) none,none,[42,43]⟩,⟨some 45,.copy 1 (.t 41) (.t 44),none,[41,44]⟩,⟨some 46,.bin (.int .add) (.t 38) (.t 45),none,[38,45]⟩,ai 8 46] []))
def NJ:a1:=
 .seq (.au [l1 4])
 (.seq (.seq (.au [ai 9 1,GZ 10 9])
 (.cond (.t 10)
 (.au [⟨some 11,.sN 9 (.c (.str [99,97,110,110,111,116,32,98,101,32,110,101,103,97,116,105,118,101])),none,[]⟩,⟨none,.bad,none,[11]⟩])
 (.skip)))
 (.seq (.au [ai 13 0,e2 14 13,⟨some 15,.eB (.int .u64) (.t 14),none,[14]⟩,ai 16 1,⟨some 17,.eB (.int .u64) (.t 16),none,[16]⟩,⟨some 18,.call 106 [(.t 15),(.t 17)],none,[15,17]⟩,ai 12 18,ir 19 12,iu 20 12,ai 5 19,ai 6 20])
 (.seq (.seq (.au [ai 21 5,⟨some 22,.bin (.int .gtr) (.t 21) (.c (.int .u64 0)),none,[21]⟩,ai 23 22,jX 24 6 23,⟨some 25,.bin (.int .gtr) (.t 24) (.c (.int .u64 9223372036854775807)),(some (23,false)),[24,23]⟩,gu 26 23 25])
 (.cond (.t 26)
 (.au [⟨some 27,.sN 9 (.c (.str [116,104,101,32,114,101,115,117,108,116,32,111,102,32,40,108,101,110,40,120,41,32,42,32,99,111,117,110,116,41,32,111,118,101,114,102,108,111,119,115])),none,[]⟩,⟨none,.bad,none,[27]⟩])
 (.skip)))
 (.seq (.au [ai 28 6,⟨some 29,.eB (.int .i64) (.t 28),none,[28]⟩,⟨some 30,.yU 1 [(.int .i64 0)] (.t 29) (.t 29),none,[29,29]⟩,ai 7 30])
 (.seq (.au [ai 31 7,ai 32 0,⟨some 33,.copy 1 (.t 31) (.t 32),none,[31,32]⟩,ai 8 33])
 (.seq (.block 0 (.loop NK))
 (.seq (.au [ai 47 7,ai 4 47])
 (.ret))))))))
theorem Yz:dA 102 48 Tryz.f102 NJ [.t 4]:=⟨Tryz.func102,by kernel_rfl⟩
def NL:a1:=
 .seq (.au [iH 2 0,ez 4])
 (.seq (.seq (.au [ai 5 1])
 (.block 0 (.seq (.au [⟨some 7,.bin (.int .eql) (.t 5) (.c (.int .i64 8)),none,[5]⟩,ai 6 7])
 (.cond (.t 6)
 (.seq (.au [e3 8 2,bO 9 8,vc 10 9,ai 4 10])
 (.ret))
 (.seq (.au [⟨some 12,.bin (.int .eql) (.t 5) (.c (.int .i64 9)),none,[5]⟩,ai 11 12])
 (.cond (.t 11)
 (.seq (.au [e3 13 2,bO 14 13,⟨some 15,.bin (.int .eql) (.t 14) (.c (.int .i64 27)),none,[14]⟩,ai 4 15])
 (.ret))
 (.skip)))))))
 (.seq (.au [e3 16 2,bO 17 16,⟨some 18,.call 96 [(.t 17)],none,[17]⟩,ai 19 1,CV 20 18 19,ai 4 20])
 (.ret)))
theorem YA:dA 103 21 Tryz.f103 NL [.t 4]:=⟨Tryz.func103,by kernel_rfl⟩
def NM:a1:=
 .seq (.au [ez 4])
 (.seq (.seq (.au [ai 7 1,mB 8 7,⟨some 9,.bin (.int .gtr) (.t 8) (.c (.int .i64 64)),none,[8]⟩,ai 10 9,jX 11 1 10,⟨some 12,.bin (.str .eql) (.t 11) (.c (.str [])),(some (10,false)),[11,10]⟩,gu 13 10 12])
 (.cond (.t 13)
 (.seq (.au [ez 4])
 (.ret))
 (.skip)))
 (.seq (.seq (.au [ai 14 0,G6 15 14])
 (.cond (.t 15)
 (.au [ai 16 1,⟨some 17,.bin (.str .add) (.c (.str [39])) (.t 16),none,[16]⟩,ai 1 17])
 (.skip)))
 (.seq (.au [ai 19 1,⟨some 20,.call 107 [(.t 19)],none,[19]⟩,ai 18 20,ir 21 18,iu 22 18,⟨some 6,.new [(.int .i64 0),(.int .i64 0)],none,[]⟩,ai 5 21,⟨none,.st 2 (.t 6) (.t 22),none,[6,22]⟩])
 (.seq (.au [e3 23 6,bO 24 23,z6 25 24,ai 26 25,eu 27 5 26,rT 28 27 26,G3 29 28 26,eo 30 26 29,ai 31 30,eu 32 5 31,C2 33 32 31,z' 34 33 31,hR 35 34 31,eu 36 0 31,⟨some 37,.bin (.int .eql) (.t 35) (.t 36),(some (31,true)),[35,36,31]⟩,eo 38 31 37,ai 39 38,eu 40 5 39,C2 41 40 39,rS 42 41 39,hR 43 42 39,nu 44 43 39,eo 45 39 44,ai 46 45,eu 47 5 46,C2 48 47 46,⟨some 49,.dH 3 (.t 48),(some (46,true)),[48,46]⟩,hR 50 49 46,⟨some 51,.len .str (.t 50),(some (46,true)),[50,46]⟩,⟨some 52,.bin (.int .gtr) (.t 51) (.c (.int .i64 0)),(some (46,true)),[51,46]⟩,eo 53 46 52,ai 54 53,eu 55 5 54,C2 56 55 54,⟨some 57,.fh 4 (.t 56),(some (54,true)),[56,54]⟩,eu 58 1 54,⟨some 59,.call 108 [(.t 57),(.t 58)],(some (54,true)),[57,58,54]⟩,eo 60 54 59,ai 4 60])
 (.ret)))))
theorem YB:dA 104 61 Tryz.f104 NM [.t 4]:=⟨Tryz.func104,by kernel_rfl⟩
def NN:a1:=
 .seq (.au [ez 4])
 (.seq (.au [ai 5 0,ai 6 1,⟨some 7,.call 109 [(.t 5),(.t 6)],none,[5,6]⟩,CY 8 7,ai 4 8])
 (.ret))
theorem YC:dA 105 9 Tryz.f105 NN [.t 4]:=⟨Tryz.func105,by kernel_rfl⟩
def NQ:a1:=
 .seq (.au [iH 2 0,ez 4])
 (.seq (.seq (.au [e3 5 2,bO 6 5,G6 7 6])
 (.cond (.t 7)
 (.seq (.au [ai 8 1,tz 9 2,bO 10 9,⟨some 11,.bin (.str .add) (.c (.str [39])) (.t 10),none,[10]⟩,CZ 12 8 11,ai 4 12])
 (.ret))
 (.skip)))
 (.seq (.au [ai 13 1,tz 14 2,bO 15 14,CZ 16 13 15,ai 4 16])
 (.ret)))
theorem YE:dA 108 17 Tryz.f108 NQ [.t 4]:=⟨Tryz.func108,by kernel_rfl⟩
def NS:a1:=
 .seq (.au [gK 9 8 7])
 (.seq (.cond (.t 9)
 (.skip)
 (.exit 0))
 (.seq (.block 1 (.seq (.au [ai 10 8,ai 5 10])
 (.seq (.au [ai 11 1,ai 12 0,ai 13 5,rR 14 12 13,bO 15 14,CZ 16 11 15])
 (.cond (.t 16)
 (.seq (.au [ai 17 5,ai 4 17])
 (.ret))
 (.skip)))))
 (.au [fp 18 8,ai 8 18])))
def NR:a1:=
 .seq (.au [dB 4])
 (.seq (.seq (.au [ai 6 0,e2 7 6,dB 8])
 (.block 0 (.loop NS)))
 (.seq (.au [⟨some 4,.cM (.c (.int .i64 (-1))),none,[]⟩])
 (.ret)))
theorem YF:dA 109 19 Tryz.f109 NR [.t 4]:=⟨Tryz.func109,by kernel_rfl⟩
def NP:a1:=
 .block 1 (.seq (.au [ai 24 5,dG 25 24,dR 26 25,bO 27 26,ai 7 27])
 (.seq (.block 2 (.seq (.au [ai 37 7,ai 38 0,mB 39 38,z8 40 37 39,ai 36 40])
 (.cond (.t 36)
 (.exit 0)
 (.seq (.au [ai 42 0,ai 43 7,⟨some 44,.lJ (.t 42) (.t 43),none,[42,43]⟩,⟨some 45,.call 113 [(.c (.str [9,10,13,32])),(.t 44)],none,[44]⟩,CY 46 45,ai 41 46])
 (.cond (.t 41)
 (.au [ai 47 5,dG 48 47,dR 49 48,bO 50 49,fp 51 50,dG 52 47,dR 53 52,⟨none,.st 1 (.t 53) (.t 51),none,[53,51]⟩])
 (.seq (.au [ai 55 5,⟨some 56,.call 114 [(.t 55),(.c (.str [40,42]))],none,[55]⟩,ai 54 56])
 (.cond (.t 54)
 (.au [ai 57 5,⟨some 58,.call 115 [(.t 57)],none,[57]⟩])
 (.seq (.au [ai 28 5,⟨some 29,.call 116 [(.t 28)],none,[28]⟩,z_ 8,⟨none,.st 4 (.t 8) (.t 29),none,[8,29]⟩])
 (.seq (.au [ai 30 7,iv 31 8,⟨none,.st 1 (.t 31) (.t 30),none,[31,30]⟩])
 (.au [ai 32 6,z7 33 8,⟨some 34,.hz 1 4 [(.int .i64 0),(.int .i64 0),(.int .i64 0),(.str [])] [(0,4,(.t 33))],none,[33]⟩,⟨some 35,.app 4 (.t 32) (.t 34),none,[32,34]⟩,ai 6 35]))))))))))
 (.seq (.au [ai 59 5,dG 60 59,iv 61 60,bO 62 61,CR 63 62])
 (.cond (.t 63)
 (.seq (.draw [ai 64 5,dG 65 64,iv 66 65,bO 67 66,ai 68 7,⟨some 69,.build [(.int .i64 0),(.int .i64 0)] [(0,1,(.t 67)),(1,1,(.t 68))],none,[67,68]⟩,l1 2,⟨none,.st 2 (.t 3) (.t 69),none,[3,69]⟩] [(3,[7])])
 (.ret))
 (.skip)))))
def NO:a1:=
 .seq (.au [l1 2,⟨some 3,.new [(.int .i64 0),(.int .i64 0)],none,[]⟩])
 (.seq (.seq (.au [ai 9 0,mB 10 9,⟨some 11,.bin (.int .gtr) (.t 10) (.c (.int .i64 65536)),none,[10]⟩])
 (.cond (.t 11)
 (.seq (.au [⟨some 12,.build [(.int .i64 0),(.int .i64 0)] [(0,1,(.c (.int .i64 3)))],none,[]⟩,l1 2,⟨none,.st 2 (.t 3) (.t 12),none,[3,12]⟩])
 (.ret))
 (.skip)))
 (.seq (.seq (.au [ai 13 0,⟨some 14,.call 112 [(.t 13)],none,[13]⟩,ai 4 14])
 (.seq (.au [ai 15 4,ai 16 0,mB 17 16,gK 18 15 17])
 (.cond (.t 18)
 (.seq (.au [ai 19 4,⟨some 20,.build [(.int .i64 0),(.int .i64 0)] [(0,1,(.c (.int .i64 250))),(1,1,(.t 19))],none,[19]⟩,l1 2,⟨none,.st 2 (.t 3) (.t 20),none,[3,20]⟩])
 (.ret))
 (.skip))))
 (.seq (.au [ai 21 0,⟨some 22,.build [(.str []),(.int .i64 0),(.int .i64 0)] [(0,1,(.t 21))],none,[21]⟩,iH 23 22,ai 5 23])
 (.seq (.au [l1 6])
 (.seq (.skip)
 (.seq (.block 0 (.loop NP))
 (.seq (.au [ai 70 6,⟨some 71,.build [(.int .i64 0),(.int .i64 0)] [],none,[]⟩,ai 2 70,⟨none,.st 2 (.t 3) (.t 71),none,[3,71]⟩])
 (.ret))))))))
theorem YD:dA 107 72 Tryz.f107 NO [.t 2,.nE 3 2]:=⟨Tryz.func107,by kernel_rfl⟩
def NU:a1:=
 .seq (.au [⟨some 9,.wQ (.t 8),none,[8]⟩,ir 10 9])
 (.seq (.cond (.t 10)
 (.skip)
 (.exit 0))
 (.block 1 (.seq (.au [iu 11 9,⟨some 12,.ext (.t 9) 2,none,[9]⟩,ai 3 11,ai 4 12])
 (.seq (.au [ai 13 4,⟨some 14,.bin (.int .eql) (.t 13) (.c (.int .i32 65533)),none,[13]⟩])
 (.cond (.t 14)
 (.seq (.au [ai 16 0,ai 17 3,G7 18 16 17,⟨some 19,.call 117 [(.t 18)],none,[18]⟩,ai 15 19,ir 20 15,iu 21 15,ai 5 20,ai 6 21])
 (.seq (.au [ai 22 6,vc 23 22])
 (.cond (.t 23)
 (.seq (.au [ai 24 3,ai 2 24])
 (.ret))
 (.skip))))
 (.skip))))))
def NT:a1:=
 .seq (.au [dB 2])
 (.seq (.seq (.au [ai 7 0,⟨some 8,.zj (.t 7),none,[7]⟩])
 (.block 0 (.loop NU)))
 (.seq (.au [ai 25 0,mB 26 25,ai 2 26])
 (.ret)))
theorem YG:dA 112 27 Tryz.f112 NT [.t 2]:=⟨Tryz.func112,by kernel_rfl⟩
def NV:a1:=
 .seq (.au [dB 4])
 (.seq (.au [ai 5 0,ai 6 1,⟨some 7,.call 118 [(.t 5),(.t 6)],none,[5,6]⟩,ai 4 7])
 (.ret))
theorem YH:dA 113 8 Tryz.f113 NV [.t 4]:=⟨Tryz.func113,by kernel_rfl⟩
def NW:a1:=
 .seq (.au [ez 4])
 (.seq (.draw [ai 5 0,dG 6 5,e3 7 6,bO 8 7,ai 9 0,dG 10 9,dR 11 10,bO 12 11,G7 13 8 12,ai 14 1,⟨some 15,.call 119 [(.t 13),(.t 14)],none,[13,14]⟩,ai 4 15] [(3,[10]),(7,[10])])
 (.ret))
theorem YI:dA 114 16 Tryz.f114 NW [.t 4]:=⟨Tryz.func114,by kernel_rfl⟩
def NY:a1:=
 .block 1 (.block 2 (.seq (.draw [ai 11 0,dG 12 11,dR 13 12,bO 14 13,ai 15 0,dG 16 15,e3 17 16,bO 18 17,mB 19 18,z8 20 14 19,ai 10 20] [])
 (.cond (.t 10)
 (.seq (.au [ai 21 0,dG 22 21,iv 23 22,⟨none,.st 1 (.t 23) (.c (.int .i64 253)),none,[23]⟩])
 (.ret))
 (.seq (.au [ai 25 0,⟨some 26,.call 114 [(.t 25),(.c (.str [40,42]))],none,[25]⟩,ai 24 26])
 (.cond (.t 24)
 (.seq (.au [ai 27 2,fp 28 27,ai 2 28])
 (.au [ai 29 0,dG 30 29,dR 31 30,bO 32 31,⟨some 33,.bin (.int .add) (.t 32) (.c (.int .i64 2)),none,[32]⟩,dG 34 29,dR 35 34,⟨none,.st 1 (.t 35) (.t 33),none,[35,33]⟩]))
 (.seq (.au [ai 37 0,⟨some 38,.call 114 [(.t 37),(.c (.str [42,41]))],none,[37]⟩,ai 36 38])
 (.cond (.t 36)
 (.seq (.au [ai 39 2,⟨some 40,.bin (.int .sub) (.t 39) (.c (.int .i64 1)),none,[39]⟩,ai 2 40])
 (.seq (.au [ai 41 0,dG 42 41,dR 43 42,bO 44 43,⟨some 45,.bin (.int .add) (.t 44) (.c (.int .i64 2)),none,[44]⟩,dG 46 41,dR 47 46,⟨none,.st 1 (.t 47) (.t 45),none,[47,45]⟩])
 (.seq (.au [ai 48 2,z6 49 48])
 (.cond (.t 49)
 (.ret)
 (.skip)))))
 (.au [ai 3 0,dG 4 3,dR 5 4,bO 6 5,fp 7 6,dG 8 3,dR 9 8,⟨none,.st 1 (.t 9) (.t 7),none,[9,7]⟩]))))))))
def NX:a1:=
 .seq (.au [dB 2])
 (.block 0 (.loop NY))
theorem YJ:dA 115 50 Tryz.f115 NX []:=⟨Tryz.func115,by kernel_rfl⟩
def N0:a1:=
 .seq (.au [gK 80 79 78])
 (.seq (.cond (.t 80)
 (.skip)
 (.exit 1))
 (.seq (.block 2 (.seq (.au [rR 81 77 79,bO 82 81,ai 5 82])
 (.seq (.au [ai 83 0,ai 84 5,⟨some 85,.call 114 [(.t 83),(.t 84)],none,[83,84]⟩])
 (.cond (.t 85)
 (.seq (.au [ai 86 0,dG 87 86,dR 88 87,bO 89 88,ai 90 5,mB 91 90,⟨some 92,.bin (.int .add) (.t 89) (.t 91),none,[89,91]⟩,dG 93 86,dR 94 93,⟨none,.st 1 (.t 94) (.t 92),none,[94,92]⟩])
 (.seq (.au [ai 95 5,MK 96 95,⟨none,.st 4 (.t 2) (.t 96),none,[2,96]⟩])
 (.ret)))
 (.skip)))))
 (.au [fp 97 79,ai 79 97])))
def NZ:a1:=
 .seq (.au [z_ 2])
 (.seq (.draw [ai 6 0,dG 7 6,e3 8 7,bO 9 8,ai 10 0,dG 11 10,dR 12 11,bO 13 12,⟨some 14,.lJ (.t 9) (.t 13),none,[9,13]⟩,ai 3 14] [])
 (.seq (.block 0 (.seq (.au [ai 16 3,⟨some 17,.call 120 [(.t 16)],none,[16]⟩,ai 15 17])
 (.cond (.t 15)
 (.seq (.au [ai 18 0,⟨some 19,.call 121 [(.t 18)],none,[18]⟩,⟨none,.st 4 (.t 2) (.t 19),none,[2,19]⟩])
 (.ret))
 (.seq (.au [ai 21 3,⟨some 22,.bin (.int .eql) (.t 21) (.c (.int .u8 34)),none,[21]⟩,ai 20 22])
 (.cond (.t 20)
 (.seq (.au [ai 23 0,⟨some 24,.call 122 [(.t 23)],none,[23]⟩,⟨none,.st 4 (.t 2) (.t 24),none,[2,24]⟩])
 (.ret))
 (.seq (.au [ai 26 3,⟨some 27,.call 123 [(.t 26)],none,[26]⟩,ai 28 27,jX 29 3 28,⟨some 30,.bin (.int .eql) (.t 29) (.c (.int .u8 95)),(some (28,false)),[29,28]⟩,gu 31 28 30,ai 25 31])
 (.cond (.t 25)
 (.seq (.au [ai 32 0,⟨some 33,.call 124 [(.t 32),(.c (.int .i64 3))],none,[32]⟩,⟨none,.st 4 (.t 2) (.t 33),none,[2,33]⟩])
 (.ret))
 (.seq (.au [ai 35 3,⟨some 36,.call 125 [(.t 35)],none,[35]⟩,ai 34 36])
 (.cond (.t 34)
 (.seq (.au [ai 37 0,⟨some 38,.call 124 [(.t 37),(.c (.int .i64 4))],none,[37]⟩,⟨none,.st 4 (.t 2) (.t 38),none,[2,38]⟩])
 (.ret))
 (.seq (.draw [ai 40 3,⟨some 41,.bin (.int .eql) (.t 40) (.c (.int .u8 39)),none,[40]⟩,ai 42 41,eu 43 0 42,xw 44 43 42,xv 45 44 42,hR 46 45 42,⟨some 47,.bin (.int .add) (.t 46) (.c (.int .i64 1)),(some (42,true)),[46,42]⟩,eu 48 0 42,xw 49 48 42,z' 50 49 42,hR 51 50 42,⟨some 52,.len .str (.t 51),(some (42,true)),[51,42]⟩,⟨some 53,.bin (.int .lss) (.t 47) (.t 52),(some (42,true)),[47,52,42]⟩,eo 54 42 53,ai 55 54,eu 56 0 55,xw 57 56 55,z' 58 57 55,hR 59 58 55,eu 60 0 55,xw 61 60 55,xv 62 61 55,hR 63 62 55,⟨some 64,.bin (.int .add) (.t 63) (.c (.int .i64 1)),(some (55,true)),[63,55]⟩,⟨some 65,.lJ (.t 59) (.t 64),(some (55,true)),[59,64,55]⟩,⟨some 66,.call 123 [(.t 65)],(some (55,true)),[65,55]⟩,eo 67 55 66,ai 39 67] [(6,[26]),(11,[26]),(19,[26]),(23,[26])])
 (.cond (.t 39)
 (.seq (.au [ai 68 0,dG 69 68,dR 70 69,bO 71 70,fp 72 71,dG 73 68,dR 74 73,⟨none,.st 1 (.t 74) (.t 72),none,[74,72]⟩])
 (.seq (.au [ai 75 0,⟨some 76,.call 124 [(.t 75),(.c (.int .i64 5))],none,[75]⟩,⟨none,.st 4 (.t 2) (.t 76),none,[2,76]⟩])
 (.ret)))
 (.skip))))))))))))
 (.seq (.seq (.au [⟨some 77,.call 126 [],none,[]⟩,e2 78 77,dB 79])
 (.block 1 (.loop N0)))
 (.seq (.au [ai 98 0,dG 99 98,iv 100 99,⟨none,.st 1 (.t 100) (.c (.int .i64 251)),none,[100]⟩])
 (.seq (.au [G8 101,⟨none,.st 4 (.t 2) (.t 101),none,[2,101]⟩])
 (.ret))))))
theorem YK:dA 116 102 Tryz.f116 NZ [.nE 2 4]:=⟨Tryz.func116,by kernel_rfl⟩
def N1:a1:=
 .seq (.au [dB 4])
 (.seq (.au [ai 5 0,ai 6 1,⟨some 7,.call 128 [(.t 5),(.t 6)],none,[5,6]⟩,ai 4 7])
 (.ret))
theorem YL:dA 118 8 Tryz.f118 N1 [.t 4]:=⟨Tryz.func118,by kernel_rfl⟩
def c119:a1:=
 .seq (.au [ez 4])
 (.seq (.au [ai 5 0,ai 6 1,⟨some 7,.call 129 [(.t 5),(.t 6)],none,[5,6]⟩,ai 4 7])
 (.ret))
theorem YM:dA 119 8 Tryz.f119 c119 [.t 4]:=⟨Tryz.func119,by kernel_rfl⟩
def N2:a1:=
 .seq (.au [ez 2])
 (.seq (.au [ai 3 0,⟨some 4,.bin (.int .geq) (.t 3) (.c (.int .u8 48)),none,[3]⟩,ai 5 4,eu 6 0 5,⟨some 7,.bin (.int .leq) (.t 6) (.c (.int .u8 57)),(some (5,true)),[6,5]⟩,eo 8 5 7,ai 2 8])
 (.ret))
theorem YN:dA 120 9 Tryz.f120 N2 [.t 2]:=⟨Tryz.func120,by kernel_rfl⟩
def N3:a1:=
 .seq (.au [z_ 2])
 (.seq (.au [ai 7 0,⟨some 8,.call 131 [(.t 7),(.c (.func 120 []))],none,[7]⟩,⟨some 9,.call 130 [(.t 8),(.c (.int .i64 10)),(.c (.int .i64 64))],none,[8]⟩,ai 6 9,ir 10 6,iu 11 6,ai 3 10,ai 4 11])
 (.seq (.seq (.au [ai 12 4,⟨some 13,.bin (.k3 true 5) (.t 12) (.c .nilIface),none,[12]⟩,ai 14 13,jX 15 3 14,⟨some 16,.bin (.int .gtr) (.t 15) (.c (.int .u64 2147483647)),(some (14,false)),[15,14]⟩,gu 17 14 16])
 (.cond (.t 17)
 (.seq (.au [ai 18 0,dG 19 18,iv 20 19,⟨none,.st 1 (.t 20) (.c (.int .i64 254)),none,[20]⟩])
 (.seq (.au [G8 21,⟨none,.st 4 (.t 2) (.t 21),none,[2,21]⟩])
 (.ret)))
 (.skip)))
 (.seq (.au [ai 22 3,⟨some 23,.eB (.int .i64) (.t 22),none,[22]⟩,ai 5 23])
 (.seq (.seq (.au [ai 24 5,⟨some 25,.bin (.int .gtr) (.t 24) (.c (.int .i64 1073741823)),none,[24]⟩])
 (.cond (.t 25)
 (.au [ai 26 5,⟨some 27,.bin (.int .sub) (.t 26) (.c (.int .i64 2147483648)),none,[26]⟩,ai 5 27])
 (.skip)))
 (.seq (.au [ai 28 5,⟨some 29,.build [(.int .i64 0),(.int .i64 0),(.int .i64 0),(.str [])] [(0,1,(.c (.int .i64 1))),(1,1,(.t 28))],none,[28]⟩,⟨none,.st 4 (.t 2) (.t 29),none,[2,29]⟩])
 (.ret))))))
theorem YO:dA 121 30 Tryz.f121 N3 [.nE 2 4]:=⟨Tryz.func121,by kernel_rfl⟩
def N5:a1:=
 .seq (.seq (.au [ai 12 0,dG 13 12,iv 14 13,bO 15 14,z6 16 15])
 (.cond (.t 16)
 (.skip)
 (.exit 0)))
 (.block 1 (.seq (.seq (.draw [ai 17 0,dG 18 17,dR 19 18,bO 20 19,ai 21 0,dG 22 21,e3 23 22,bO 24 23,mB 25 24,z8 26 20 25] [])
 (.cond (.t 26)
 (.seq (.au [ai 27 0,dG 28 27,iv 29 28,⟨none,.st 1 (.t 29) (.c (.int .i64 252)),none,[29]⟩])
 (.exit 0))
 (.skip)))
 (.seq (.draw [ai 30 0,dG 31 30,e3 32 31,bO 33 32,ai 34 0,dG 35 34,dR 36 35,bO 37 36,⟨some 38,.lJ (.t 33) (.t 37),none,[33,37]⟩,ai 4 38] [])
 (.block 2 (.seq (.au [ai 51 4,⟨some 52,.bin (.int .eql) (.t 51) (.c (.int .u8 34)),none,[51]⟩,ai 50 52])
 (.cond (.t 50)
 (.seq (.au [ai 53 0,dG 54 53,dR 55 54,bO 56 55,fp 57 56,dG 58 53,dR 59 58,⟨none,.st 1 (.t 59) (.t 57),none,[59,57]⟩])
 (.seq (.seq (.au [ai 60 3,e2 61 60,⟨some 62,.bin (.int .gtr) (.t 61) (.c (.int .i64 4096)),none,[61]⟩])
 (.cond (.t 62)
 (.au [ai 63 0,dG 64 63,iv 65 64,⟨none,.st 1 (.t 65) (.c (.int .i64 255)),none,[65]⟩])
 (.skip)))
 (.seq (.au [ai 66 3,⟨some 67,.eB .str (.t 66),none,[66]⟩,⟨some 68,.build [(.int .i64 0),(.int .i64 0),(.int .i64 0),(.str [])] [(0,1,(.c (.int .i64 2))),(3,1,(.t 67))],none,[67]⟩,⟨none,.st 4 (.t 2) (.t 68),none,[2,68]⟩])
 (.ret))))
 (.seq (.au [ai 70 4,⟨some 71,.bin (.int .eql) (.t 70) (.c (.int .u8 92)),none,[70]⟩,ai 69 71])
 (.cond (.t 69)
 (.au [ai 72 3,ai 73 0,⟨some 74,.call 132 [(.t 73)],none,[73]⟩,⟨some 75,.hz 1 1 [(.int .u8 0)] [(0,1,(.t 74))],none,[74]⟩,zY 76 72 75,ai 3 76])
 (.seq (.au [ai 78 4,⟨some 79,.bin (.int .lss) (.t 78) (.c (.int .u8 32)),none,[78]⟩,ai 80 79,jX 81 4 80,⟨some 82,.bin (.int .eql) (.t 81) (.c (.int .u8 127)),(some (80,false)),[81,80]⟩,gu 83 80 82,ai 77 83])
 (.cond (.t 77)
 (.au [ai 84 0,dG 85 84,iv 86 85,⟨none,.st 1 (.t 86) (.c (.int .i64 252)),none,[86]⟩])
 (.seq (.au [ai 39 0,dG 40 39,dR 41 40,bO 42 41,fp 43 42,dG 44 39,dR 45 44,⟨none,.st 1 (.t 45) (.t 43),none,[45,43]⟩])
 (.au [ai 46 3,ai 47 4,⟨some 48,.hz 1 1 [(.int .u8 0)] [(0,1,(.t 47))],none,[47]⟩,zY 49 46 48,ai 3 49]))))))))))))
def N4:a1:=
 .seq (.au [z_ 2])
 (.seq (.au [ai 5 0,dG 6 5,dR 7 6,bO 8 7,fp 9 8,dG 10 5,dR 11 10,⟨none,.st 1 (.t 11) (.t 9),none,[11,9]⟩])
 (.seq (.au [l1 3])
 (.seq (.block 0 (.loop N5))
 (.seq (.au [G8 87,⟨none,.st 4 (.t 2) (.t 87),none,[2,87]⟩])
 (.ret)))))
theorem YP:dA 122 88 Tryz.f122 N4 [.nE 2 4]:=⟨Tryz.func122,by kernel_rfl⟩
def N6:a1:=
 .seq (.au [ez 2])
 (.seq (.au [ai 3 0,⟨some 4,.bin (.int .geq) (.t 3) (.c (.int .u8 97)),none,[3]⟩,ai 5 4,eu 6 0 5,⟨some 7,.bin (.int .leq) (.t 6) (.c (.int .u8 122)),(some (5,true)),[6,5]⟩,eo 8 5 7,ai 2 8])
 (.ret))
theorem YQ:dA 123 9 Tryz.f123 N6 [.t 2]:=⟨Tryz.func123,by kernel_rfl⟩
def N7:a1:=
 .seq (.au [z_ 4])
 (.seq (.au [ai 6 0,⟨some 7,.call 131 [(.t 6),(.c (.func 133 []))],none,[6]⟩,ai 5 7])
 (.seq (.block 0 (.seq (.au [ai 9 1,xq 10 9,ai 11 10,eu 12 5 11,⟨some 13,.bin (.str .eql) (.t 12) (.c (.str [95])),(some (11,true)),[12,11]⟩,eo 14 11 13,ai 8 14])
 (.cond (.t 8)
 (.seq (.au [ai 15 5,MK 16 15,⟨none,.st 4 (.t 4) (.t 16),none,[4,16]⟩])
 (.ret))
 (.seq (.au [ai 18 1,xq 19 18,ai 20 19,eu 21 5 20,⟨some 22,.bin (.str .add) (.c (.str [32])) (.t 21),(some (20,true)),[21,20]⟩,⟨some 23,.bin (.str .add) (.t 22) (.c (.str [32])),(some (20,true)),[22,20]⟩,⟨some 24,.call 134 [(.c (.str [32,97,110,100,32,98,101,103,105,110,32,101,108,115,101,32,101,110,100,32,101,120,99,101,112,116,105,111,110,32,102,97,108,115,101,32,102,117,110,32,105,102,32,105,110,32,108,101,116,32,109,97,116,99,104,32,109,111,100,32,111,102,32,114,97,105,115,101,32,114,101,99,32,116,104,101,110,32,116,114,117,101,32,116,114,121,32,116,121,112,101,32,119,105,116,104,32])),(.t 23)],(some (20,true)),[23,20]⟩,eo 25 20 24,ai 17 25])
 (.cond (.t 17)
 (.seq (.au [ai 26 5,⟨some 27,.build [(.int .i64 0),(.int .i64 0),(.int .i64 0),(.str [])] [(0,1,(.c (.int .i64 6))),(3,1,(.t 26))],none,[26]⟩,⟨none,.st 4 (.t 4) (.t 27),none,[4,27]⟩])
 (.ret))
 (.seq (.au [ai 29 5,mB 30 29,⟨some 31,.bin (.int .gtr) (.t 30) (.c (.int .i64 64)),none,[30]⟩,ai 28 31])
 (.cond (.t 28)
 (.au [ai 32 0,dG 33 32,iv 34 33,⟨none,.st 1 (.t 34) (.c (.int .i64 255)),none,[34]⟩])
 (.skip))))))))
 (.seq (.au [ai 35 1,ai 36 5,⟨some 37,.build [(.int .i64 0),(.int .i64 0),(.int .i64 0),(.str [])] [(0,1,(.t 35)),(3,1,(.t 36))],none,[35,36]⟩,⟨none,.st 4 (.t 4) (.t 37),none,[4,37]⟩])
 (.ret))))
theorem YR:dA 124 38 Tryz.f124 N7 [.nE 4 4]:=⟨Tryz.func124,by kernel_rfl⟩
def N8:a1:=
 .seq (.au [ez 2])
 (.seq (.au [ai 3 0,⟨some 4,.bin (.int .geq) (.t 3) (.c (.int .u8 65)),none,[3]⟩,ai 5 4,eu 6 0 5,⟨some 7,.bin (.int .leq) (.t 6) (.c (.int .u8 90)),(some (5,true)),[6,5]⟩,eo 8 5 7,ai 2 8])
 (.ret))
theorem YS:dA 125 9 Tryz.f125 N8 [.t 2]:=⟨Tryz.func125,by kernel_rfl⟩
def N9:a1:=
 .seq (.au [l1 0])
 (.seq (.au [⟨some 1,.hz 17 1 [(.str [])] [(0,1,(.c (.str [59,59]))),(1,1,(.c (.str [58,61]))),(2,1,(.c (.str [45,62]))),(3,1,(.c (.str [60,61]))),(4,1,(.c (.str [59]))),(5,1,(.c (.str [40]))),(6,1,(.c (.str [41]))),(7,1,(.c (.str [44]))),(8,1,(.c (.str [61]))),(9,1,(.c (.str [60]))),(10,1,(.c (.str [43]))),(11,1,(.c (.str [45]))),(12,1,(.c (.str [42]))),(13,1,(.c (.str [47]))),(14,1,(.c (.str [124]))),(15,1,(.c (.str [33]))),(16,1,(.c (.str [95])))],none,[]⟩,ai 0 1])
 (.ret))
theorem YT:dA 126 2 Tryz.f126 N9 [.t 0]:=⟨Tryz.func126,by kernel_rfl⟩
def N':a1:=
 .seq (.au [ez 4])
 (.seq (.au [ai 5 0,mB 6 5,ai 7 1,mB 8 7,z8 9 6 8,ai 10 9,eu 11 0 10,eu 12 1 10,⟨some 13,.len .str (.t 12),(some (10,true)),[12,10]⟩,⟨some 14,.rG (.t 11) none (some (.t 13)) none,(some (10,true)),[11,13,10]⟩,eu 15 1 10,⟨some 16,.bin (.str .eql) (.t 14) (.t 15),(some (10,true)),[14,15,10]⟩,eo 17 10 16,ai 4 17])
 (.ret))
theorem YU:dA 129 18 Tryz.f129 N' [.t 4]:=⟨Tryz.func129,by kernel_rfl⟩
def Oa:a1:=
 .seq (.seq (.draw [ai 10 0,dG 11 10,dR 12 11,bO 13 12,ai 14 0,dG 15 14,e3 16 15,bO 17 16,mB 18 17,gK 19 13 18,ai 20 19,eu 21 1 20,eu 22 0 20,xw 23 22 20,z' 24 23 20,hR 25 24 20,eu 26 0 20,xw 27 26 20,xv 28 27 20,hR 29 28 20,⟨some 30,.lJ (.t 25) (.t 29),(some (20,true)),[25,29,20]⟩,⟨some 31,.lD (.t 21) [(.t 30)],(some (20,true)),[21,30,20]⟩,eo 32 20 31] [(3,[21]),(7,[21]),(15,[21]),(19,[21])])
 (.cond (.t 32)
 (.skip)
 (.exit 0)))
 (.block 1 (.au [ai 33 0,dG 34 33,dR 35 34,bO 36 35,fp 37 36,dG 38 33,dR 39 38,⟨none,.st 1 (.t 39) (.t 37),none,[39,37]⟩]))
def N_:a1:=
 .seq (.au [⟨some 4,.cM (.c (.str [])),none,[]⟩])
 (.seq (.au [ai 6 0,dG 7 6,dR 8 7,bO 9 8,ai 5 9])
 (.seq (.block 0 (.loop Oa))
 (.seq (.draw [ai 40 0,dG 41 40,e3 42 41,bO 43 42,ai 44 5,ai 45 0,dG 46 45,dR 47 46,bO 48 47,⟨some 49,.rG (.t 43) (some (.t 44)) (some (.t 48)) none,none,[43,44,48]⟩,ai 4 49] [])
 (.ret))))
theorem YV:dA 131 50 Tryz.f131 N_ [.t 4]:=⟨Tryz.func131,by kernel_rfl⟩
def Ob:a1:=
 .seq (.au [⟨some 2,.cM (.c (.int .u8 0)),none,[]⟩])
 (.seq (.au [ai 7 0,dG 8 7,dR 9 8,bO 10 9,fp 11 10,dG 12 7,dR 13 12,⟨none,.st 1 (.t 13) (.t 11),none,[13,11]⟩])
 (.seq (.draw [ai 14 0,dG 15 14,e3 16 15,bO 17 16,ai 18 0,dG 19 18,dR 20 19,bO 21 20,G7 22 17 21,ai 3 22] [])
 (.seq (.seq (.au [ai 23 3,⟨some 24,.bin (.str .neq) (.t 23) (.c (.str [])),none,[23]⟩])
 (.cond (.t 24)
 (.seq (.au [ai 25 3,⟨some 26,.lJ (.t 25) (.c (.int .i64 0)),none,[25]⟩,⟨some 27,.call 113 [(.c (.str [110,116,34,92])),(.t 26)],none,[26]⟩,ai 4 27])
 (.seq (.au [ai 28 4,CY 29 28])
 (.cond (.t 29)
 (.seq (.au [ai 30 0,dG 31 30,dR 32 31,bO 33 32,fp 34 33,dG 35 30,dR 36 35,⟨none,.st 1 (.t 36) (.t 34),none,[36,34]⟩])
 (.seq (.au [ai 37 4,⟨some 38,.lJ (.c (.str [10,9,34,92])) (.t 37),none,[37]⟩,ai 2 38])
 (.ret)))
 (.skip))))
 (.skip)))
 (.seq (.seq (.au [ai 39 3,mB 40 39,⟨some 41,.bin (.int .geq) (.t 40) (.c (.int .i64 3)),none,[40]⟩,ai 42 41,eu 43 3 42,⟨some 44,.lJ (.t 43) (.c (.int .i64 0)),(some (42,true)),[43,42]⟩,⟨some 45,.call 120 [(.t 44)],(some (42,true)),[44,42]⟩,eo 46 42 45,ai 47 46,eu 48 3 47,⟨some 49,.lJ (.t 48) (.c (.int .i64 1)),(some (47,true)),[48,47]⟩,⟨some 50,.call 120 [(.t 49)],(some (47,true)),[49,47]⟩,eo 51 47 50,ai 52 51,eu 53 3 52,⟨some 54,.lJ (.t 53) (.c (.int .i64 2)),(some (52,true)),[53,52]⟩,⟨some 55,.call 120 [(.t 54)],(some (52,true)),[54,52]⟩,eo 56 52 55])
 (.cond (.t 56)
 (.seq (.au [ai 58 3,⟨some 59,.rG (.t 58) none (some (.c (.int .i64 3))) none,none,[58]⟩,⟨some 60,.call 137 [(.t 59)],none,[59]⟩,ai 57 60,ir 61 57,iu 62 57,ai 5 61,ai 6 62])
 (.seq (.au [ai 63 5,⟨some 64,.bin (.int .lss) (.t 63) (.c (.int .i64 256)),none,[63]⟩])
 (.cond (.t 64)
 (.seq (.au [ai 65 0,dG 66 65,dR 67 66,bO 68 67,⟨some 69,.bin (.int .add) (.t 68) (.c (.int .i64 3)),none,[68]⟩,dG 70 65,dR 71 70,⟨none,.st 1 (.t 71) (.t 69),none,[71,69]⟩])
 (.seq (.au [ai 72 5,⟨some 73,.eB (.int .u8) (.t 72),none,[72]⟩,ai 2 73])
 (.ret)))
 (.skip))))
 (.skip)))
 (.seq (.au [ai 74 0,dG 75 74,iv 76 75,⟨none,.st 1 (.t 76) (.c (.int .i64 252)),none,[76]⟩])
 (.seq (.au [⟨some 2,.cM (.c (.int .u8 0)),none,[]⟩])
 (.ret)))))))
theorem YW:dA 132 77 Tryz.f132 Ob [.t 2]:=⟨Tryz.func132,by kernel_rfl⟩
def Oc:a1:=
 .seq (.au [ez 2])
 (.seq (.au [ai 3 0,⟨some 4,.call 120 [(.t 3)],none,[3]⟩,ai 5 4,jX 6 0 5,⟨some 7,.call 123 [(.t 6)],(some (5,false)),[6,5]⟩,gu 8 5 7,ai 9 8,jX 10 0 9,⟨some 11,.call 125 [(.t 10)],(some (9,false)),[10,9]⟩,gu 12 9 11,ai 13 12,jX 14 0 13,⟨some 15,.bin (.int .eql) (.t 14) (.c (.int .u8 95)),(some (13,false)),[14,13]⟩,gu 16 13 15,ai 17 16,jX 18 0 17,⟨some 19,.bin (.int .eql) (.t 18) (.c (.int .u8 39)),(some (17,false)),[18,17]⟩,gu 20 17 19,ai 2 20])
 (.ret))
theorem YX:dA 133 21 Tryz.f133 Oc [.t 2]:=⟨Tryz.func133,by kernel_rfl⟩
theorem rB {f:FuncId} {args:List V} {h:ae} {v:V} (c:c9 Tryz.prog f args h fun x ab=>x=v/\ab=h):eV Tryz.prog f args h v h:=by obtain ⟨x,ab,q,rfl,rfl⟩:=c;exact q
def nG (c:Int):Bool:=decide (48<=c)&&decide (c<=57)
def iX (c:Int):Bool:=decide (97<=c)&&decide (c<=122)
def oJ (c:Int):Bool:=decide (65<=c)&&decide (c<=90)
def wF (c:Int):Bool:=nG c||iX c||oJ c||decide (c=95)||decide (c=39)
theorem xS (c:Int) (h:ae):eV Tryz.prog 120 [.int .u8 c] h (.bool (nG c)) h:=by refine rB (YN.z rfl (cw ?_));unfold N2;simp +contextual only [↓an,aF,simprocAttr];rfl
theorem Gu (c:Int) (h:ae):eV Tryz.prog 123 [.int .u8 c] h (.bool (iX c)) h:=by refine rB (YQ.z rfl (cw ?_));unfold N6;simp +contextual only [↓an,aF,simprocAttr];rfl
theorem QU (c:Int) (h:ae):eV Tryz.prog 125 [.int .u8 c] h (.bool (oJ c)) h:=by refine rB (YS.z rfl (cw ?_));unfold N8;simp +contextual only [↓an,aF,simprocAttr];rfl
theorem adg (s p:List UInt8) (h:ae):eV Tryz.prog 129 [.str s,.str p] h (.bool (p.isPrefixOf s)) h:=by
 refine rB (YU.z rfl (cw ?_));unfold N';have aY:(0<=(p.length:Int))=True:=apC (by omega);by_cases aA:p.length<=s.length
 . have aa:((p.length:Int)<=(s.length:Int))=True:=apC (by omega);simp +contextual only [aY,aa,apx,↓an,aF,simprocAttr];rw [aqm,apF,arc,List.prefix_iff_eq_take];exact ⟨fun e=>e.symm,fun e=>e.symm⟩
 . have aa:((p.length:Int)<=(s.length:Int))=False:=apy (by omega);simp +contextual only [aY,aa,apx,↓an,aF,simprocAttr];rw [eq_comm,<-ap2,arc];exact fun e=>aA e.length_le
theorem adf (s p:List UInt8) (h:ae):eV Tryz.prog 119 [.str s,.str p] h (.bool (p.isPrefixOf s)) h:=by refine rB (YM.z rfl (cw ?_));unfold c119;simp +contextual only [↓an,aF,simprocAttr];refine hB (adg s p h) ?_;simp +contextual only [↓an,aF,simprocAttr]
theorem ais (c:Int) (h:ae):eV Tryz.prog 133 [.int .u8 c] h (.bool (wF c)) h:=by refine rB (YX.z rfl (cw ?_));unfold Oc;simp +contextual only [↓an,aF,simprocAttr];refine hB (xS c h) ?_;simp +contextual only [↓an,aF,simprocAttr];refine QL (.bool (iX c)) (fun ao=>by simp only [ao,↓an,aF,simprocAttr];exact Gu _ _) ?_;simp +contextual only [↓an,aF,simprocAttr];refine QL (.bool (oJ c)) (fun ao=>by simp only [ao,↓an,aF,simprocAttr];exact QU _ _) ?_;simp +contextual only [↓an,aF,simprocAttr];rfl
theorem IP (s p:List UInt8) (at':Int) (rest:List V) (b:aL) (cH:Nat) (st:Bool) (h:ae) (ah:h.get b=.bQ (.str s::.int .i64 at'::rest) cH st) (aY:0<=at') (aa:at'<=s.length):
 eV Tryz.prog 114 [.ptr b 0,.str p] h (.bool (p.isPrefixOf (s.drop at'.toNat))) h:=by
 refine rB (YI.z rfl (cw ?_));unfold NW;have f0:(0<=at')=True:=apC aY;have f1:(at'<=(s.length:Int))=True:=apC aa;simp +contextual only [ah,f0,f1,↓an,aF,simprocAttr];refine hB (adf _ p h) ?_;simp +contextual only [ah,f0,f1,↓an,aF,simprocAttr]
def ik:List UInt8->Int->Option Nat
 | [],_=>none
 | [_],_=>none
 | x::y::r,d=>if x=40/\y=42 then (ik r (d+1)).map (· +2) else if x=42/\y=41 then (if d-1=0 then some 2 else (ik r (d-1)).map (· +2)) else (ik (y::r) d).map (· +1)
theorem ajr (r:List UInt8) (d:Int) (h:r≠[]):ik r d=if ([40,42]:List UInt8).isPrefixOf r=true then (ik (r.drop 2) (d+1)).map (· +2) else
 if ([42,41]:List UInt8).isPrefixOf r=true then (if d-1=0 then some 2 else (ik (r.drop 2) (d-1)).map (· +2)) else (ik (r.drop 1) d).map (· +1):=by
 match r,h with
 | [x],_=>simp [ik,List.isPrefixOf]
 | x::y::r,_=>
   have aK:(([40,42]:List UInt8).isPrefixOf (x::y::r)=true)=(x=40/\y=42):=by simp only [List.isPrefixOf,aqt,apq,aqZ];exact propext ⟨fun q=>⟨q.1.symm,q.2.symm⟩,fun q=>⟨q.1.symm,q.2.symm⟩⟩
   have aS:(([42,41]:List UInt8).isPrefixOf (x::y::r)=true)=(x=42/\y=41):=by simp only [List.isPrefixOf,aqt,apq,aqZ];exact propext ⟨fun q=>⟨q.1.symm,q.2.symm⟩,fun q=>⟨q.1.symm,q.2.symm⟩⟩
   rw [ik];simp only [aK,aS,arB,aqy]
theorem Uf {a b:UInt8} {r:List UInt8} (h:([a,b]:List UInt8).isPrefixOf r=true):2<=r.length:=by rw [arc] at h;simpa using h.length_le
def e6 (s:List UInt8) (at' e:Int):b1:=.bQ [.str s,.int .i64 at',.int .i64 e] 0 false
theorem ajs (s:List UInt8) (a0:Nat) (dw:Int) (b:aL) (h:ae) (ah:h.get b=e6 s a0 dw) (aY:a0<=s.length) (aZ:s.length<=100000) (gf:Old h b):
 c9 Tryz.prog 115 [.ptr b 0] h fun x ab=>x=.tuple []/\Mod (fun x=>x=b) h ab/\(match ik (s.drop a0) 0 with
  | some n=>ab.get b=e6 s ((a0+n:Nat):Int) dw/\a0+n<=s.length
  | none=>ab.get b=e6 s (s.length:Int) 253):=by
 refine YJ.z rfl (cw ?_);unfold NX;unfold e6 at ah ⊢;simp +contextual only [ah,↓an,aF,simprocAttr]
 refine gl (fun r ab=>∃(a:Nat) (d:Int),a0<=a/\a<=s.length/\r 0=.ptr b 0/\r 2=.int .i64 d/\ab.get b=.bQ [.str s,.int .i64 a,.int .i64 dw] 0 false/\Mod (fun x=>x=b) h ab/\-(a:Int)<=d/\d<=a/\
  ik (s.drop a0) 0=(ik (s.drop a) d).map (· + (a-a0))) (fun r ab=>s.length - ((fZ (ab.get b) 1).getD .bad).toN) ?_ ?_
 . refine ⟨a0,0,apv _,aY,?_⟩;simp only [↓an,aF,simprocAttr];refine ⟨ah,Mod.refl _ _,by omega,by omega,?_⟩;rw [aq7];cases ik (s.drop a0) 0<;>rfl
 . rintro r ab ⟨a,d,jK,b7,bh,dc,aG,hm,d0,d1,bz⟩;unfold NY;by_cases fO:(s.length:Int)<=(a:Int)
   . have bt:a=s.length:=by omega
     have aV:ik (s.drop a) d=none:=by rw [bt,are];rfl
     rw [aV] at bz;simp +contextual only [bh,dc,aG,fO,↓an,aF,simprocAttr];rw [bz];refine ⟨hm.set (fun _=>rfl) _,?_⟩;simp only [bt,Option.map_none,dV,ap3]
   . have c4:s.drop a≠[]:=by
      intro q;rw [List.drop_eq_nil_iff] at q;omega
     have Bm:∀p,eV Tryz.prog 114 [.ptr b 0,.str p] ab (.bool (p.isPrefixOf (s.drop a))) ab:=fun p=>by have:=IP s p (a:Int) [.int .i64 dw] b 0 false ab aG (by omega) (by omega);simpa using this
     have hF:=ajr (s.drop a) d c4;simp +contextual only [bh,dc,aG,fO,↓an,aF,simprocAttr];refine hB (Bm _) ?_;cases kD:([40,42]:List UInt8).isPrefixOf (s.drop a) with
     | true=>
       have ad:=Uf kD;rw [aqa] at ad;rw [kD,apz rfl] at hF;have bW:IntKind.i64.wrap (d+1)=d+1:=wrap_i64 (by omega) (by omega);have bx:IntKind.i64.wrap ((a:Int)+2)=((a+2:Nat):Int):=by rw [wrap_i64 (by omega) (by omega)];rfl
       simp +contextual only [bh,dc,aG,bW,bx,↓an,aF,simprocAttr];refine ⟨⟨a+2,d+1,by omega,by omega,rfl,rfl,hm.set (fun _=>rfl) _,by omega,by omega,?_⟩,by omega⟩;rw [bz,hF,aqU,arH];congr 1;funext q;simp only [Function.comp];omega
     | false=>
       rw [kD,apw (by decide)] at hF;simp +contextual only [bh,dc,aG,↓an,aF,simprocAttr];refine hB (Bm _) ?_;cases hZ:([42,41]:List UInt8).isPrefixOf (s.drop a) with
       | true=>
         have ad:=Uf hZ;rw [aqa] at ad;rw [hZ,apz rfl] at hF;have bW:IntKind.i64.wrap (d-1)=d-1:=wrap_i64 (by omega) (by omega);have bx:IntKind.i64.wrap ((a:Int)+2)=((a+2:Nat):Int):=by rw [wrap_i64 (by omega) (by omega)];rfl
         by_cases aH:d-1=0
         . rw [apz aH] at hF;obtain rfl:d=1:=by omega
           have ay:IntKind.i64.wrap 0=0:=rfl;simp +contextual only [bh,dc,aG,ay,bx,↓an,aF,simprocAttr];rw [bz,hF];refine ⟨hm.set (fun _=>rfl) _,?_⟩;simp only [aqV,dV,ap3];refine ⟨?_,by omega⟩;rw [show a0 + (2 + (a-a0))=a+2 from by omega]
         . rw [apw aH] at hF;simp +contextual only [bh,dc,aG,bW,bx,aH,↓an,aF,simprocAttr];refine ⟨⟨a+2,d-1,by omega,by omega,rfl,rfl,hm.set (fun _=>rfl) _,by omega,by omega,?_⟩,by omega⟩;rw [bz,hF,aqU,arH];congr 1;funext q;simp only [Function.comp];omega
       | false=>
         rw [hZ,apw (by decide)] at hF;have bx:IntKind.i64.wrap ((a:Int)+1)=((a+1:Nat):Int):=by rw [wrap_i64 (by omega) (by omega)];rfl
         simp +contextual only [bh,dc,aG,bx,↓an,aF,simprocAttr];refine ⟨⟨a+1,d,by omega,by omega,rfl,rfl,hm.set (fun _=>rfl) _,by omega,by omega,?_⟩,by omega⟩;rw [bz,hF,aqU,arH];congr 1;funext q;simp only [Function.comp];omega
theorem drop_cons {s:List UInt8} {a:Nat} (h:a<s.length):s.drop a=s[a]::s.drop (a+1):=ap0 h
theorem Vu (p:UInt8->Bool):∀l:List UInt8,(l.takeWhile p).length<=l.length
 | []=>by simp
 | x::l=>by
   simp only [aqT]
   split
   . simpa using Vu p l
   . simp
theorem UU (s:List UInt8) (a0:Nat) (dw:Int) (b:aL) (g:FuncId) (p:Int->Bool) (h:ae) (ah:h.get b=e6 s a0 dw) (aY:a0<=s.length) (aZ:s.length<=100000) (a6:(g=4294967296)=False)
 (af:∀c h,eV Tryz.prog g [.int .u8 c] h (.bool (p c)) h):
 c9 Tryz.prog 131 [.ptr b 0,.func g []] h fun x ab=>x=.str ((s.drop a0).takeWhile fun c=>p c.toNat)/\Mod (fun x=>x=b) h ab/\ab.get b=e6 s ((a0 + ((s.drop a0).takeWhile fun c=>p c.toNat).length:Nat):Int) dw:=by
 refine YV.z rfl (cw ?_);unfold N_;unfold e6 at ah ⊢;simp +contextual only [ah,↓an,aF,simprocAttr]
 refine gl (fun r ab=>∃(a:Nat),a0<=a/\a<=s.length/\r 0=.ptr b 0/\r 1=.func g []/\r 5=.int .i64 a0/\ab.get b=.bQ [.str s,.int .i64 a,.int .i64 dw] 0 false/\Mod (fun x=>x=b) h ab/\
  ((s.drop a0).takeWhile fun c=>p c.toNat)=(s.drop a0).take (a-a0)++((s.drop a).takeWhile fun c=>p c.toNat)) (fun r ab=>s.length - ((fZ (ab.get b) 1).getD .bad).toN) ?_ ?_
 . refine ⟨a0,apv _,aY,?_⟩;simp only [↓an,aF,simprocAttr];refine ⟨ah,Mod.refl _ _,?_⟩;rw [aq7];rfl
 . rintro r ab ⟨a,jK,b7,bh,bM,bT,aG,hm,bz⟩;unfold Oa;have fin:((s.drop a).takeWhile fun c=>p c.toNat)=[]->V.str (((s.drop a0).take (a-a0)))=V.str ((s.drop a0).takeWhile fun c=>p c.toNat)/\Mod (fun x=>x=b) h ab/\b1.bQ [V.str s,V.int .i64 a,V.int .i64 dw] 0 false=b1.bQ [V.str s,V.int .i64 ((a0 + ((s.drop a0).takeWhile fun c=>p c.toNat).length:Nat):Int),V.int .i64 dw] 0 false:=by
    intro q;rw [q,aqF] at bz;rw [bz,ap4,aqa];refine ⟨rfl,hm,?_⟩;rw [show a0+min (a-a0) (s.length-a0)=a from by omega]
   have f0:(0<=(a0:Int))=True:=apC (by omega);have f1:((a0:Int)<=(a:Int))=True:=apC (by omega);have f2:((a:Int)<=(s.length:Int))=True:=apC (by omega);have f3:(0<=(a:Int))=True:=apC (by omega);by_cases fO:(a:Int) < (s.length:Int)
   . have aR:a<s.length:=by omega
     rw [drop_cons aR,aqT] at bz fin;simp +contextual only [a6,ap9,bh,bM,bT,aG,fO,f0,f1,f2,f3,apr aR,apx,↓an,aF,simprocAttr];refine hB (af _ _) ?_;cases mb:p ((s[a]).toNat:Int) with
     | true=>
       rw [mb] at bz;have bx:IntKind.i64.wrap ((a:Int)+1)=((a+1:Nat):Int):=by rw [wrap_i64 (by omega) (by omega)];rfl
       simp +contextual only [mb,bh,bM,bT,aG,fO,f0,f1,f2,f3,bx,apr aR,apx,↓an,aF,simprocAttr];refine ⟨⟨a+1,by omega,by omega,rfl,hm.set (fun _=>rfl) _,?_⟩,by omega⟩;rw [bz,apz rfl];have sA:a-a0 < (s.drop a0).length:=by rw [aqa];omega
       rw [show a+1-a0=a-a0+1 from by omega,<-List.take_append_getElem sA,aqc];congr 1;rw [List.getElem_drop];simp only [show a0 + (a-a0)=a from by omega];rfl
     | false=>
       rw [mb] at fin;simp +contextual only [mb,bh,bM,bT,aG,fO,f0,f1,f2,f3,apr aR,apx,↓an,aF,simprocAttr];exact fin rfl
   . have bt:a=s.length:=by omega
     simp +contextual only [a6,ap9,bh,bM,bT,aG,fO,f0,f1,f2,f3,apx,↓an,aF,simprocAttr];refine fin ?_;rw [bt,are];rfl
end
end Go.Proofs.YtgmhjhgoamjeeaaGreatDoor
