/- The chapter's functions, walked by the abstract machine: plain lemmas, no condition. Printed by a program from longer texts: names made short. -/
import Derived.Test.YtgmhjhgoamjeeaaGreatDoorM6
import Derived.Test.YtgmhjhgoamjeeaaGreatDoorM7
set_option linter.unusedSectionVars false
set_option linter.unusedSimpArgs false
set_option linter.unusedVariables false
set_option maxHeartbeats 64000000
noncomputable section
namespace Go.Proofs.YtgmhjhgoamjeeaaGreatDoor
section
open Go aX
abbrev ai (d bb:Nat):bx:=⟨some d,.cO (.t bb),none,[bb]⟩
abbrev bQ (d bb:Nat):bx:=⟨some d,.dR (.t bb),none,[bb]⟩
abbrev df (d:Nat):bx:=⟨some d,.cO (.c (.int .i64 0)),none,[]⟩
abbrev dw (d bb bu:Nat):bx:=⟨some d,.cO (.t bb),(some (bu,true)),[bb,bu]⟩
abbrev dQ (d bb:Nat):bx:=⟨some d,.tq (.t bb),none,[bb]⟩
abbrev dV (d bb bu:Nat):bx:=⟨some d,.pick (.t bb) (.t bu) (.c (.bool false)),none,[bb,bu]⟩
abbrev dX (d bb:Nat):bx:=⟨some d,.dZ 1 (.t bb),none,[bb]⟩
abbrev ec (d:Nat):bx:=⟨some d,.cO (.c (.bool false)),none,[]⟩
abbrev ez (d bb:Nat):bx:=⟨some d,.len .slice (.t bb),none,[bb]⟩
abbrev eY (d bb:Nat):bx:=⟨some d,.bin (.int .add) (.t bb) (.c (.int .i64 1)),none,[bb]⟩
abbrev e5 (d bb:Nat):bx:=⟨some d,.dZ 0 (.t bb),none,[bb]⟩
abbrev fo (d bb:Nat):bx:=⟨some d,.fL 5 (.t bb),none,[bb]⟩
abbrev fG (d bb bu:Nat):bx:=⟨some d,.pick (.t bb) (.c (.bool true)) (.t bu),none,[bb,bu]⟩
abbrev f_ (d bb bu:Nat):bx:=⟨some d,.bin (.int .lss) (.t bb) (.t bu),none,[bb,bu]⟩
abbrev gP (d bb bu:Nat):bx:=⟨some d,.cO (.t bb),(some (bu,false)),[bb,bu]⟩
abbrev hA (d bb:Nat):bx:=⟨some d,.ext (.t bb) 0,none,[bb]⟩
abbrev hB (d bb:Nat):bx:=⟨some d,.ext (.t bb) 1,none,[bb]⟩
abbrev hC (d bb bu:Nat):bx:=⟨some d,.dR (.t bb),(some (bu,true)),[bb,bu]⟩
abbrev hD (d bb:Nat):bx:=⟨some d,.box (.t bb),none,[bb]⟩
abbrev hR (d bb bu:Nat):bx:=⟨some d,.dR (.t bb),(some (bu,false)),[bb,bu]⟩
abbrev h' (d bb:Nat):bx:=⟨some d,.dZ 2 (.t bb),none,[bb]⟩
abbrev kJ (d bb bu:Nat):bx:=⟨some d,.cd 5 (.t bb) (.t bu),none,[bb,bu]⟩
abbrev kK (d bb:Nat):bx:=⟨some d,.fL 3 (.t bb),none,[bb]⟩
abbrev lp (d:Nat):bx:=⟨some d,.cO (.c .bj),none,[]⟩
abbrev l0 (d:Nat):bx:=⟨some d,.new [(.int .i64 0),(.int .i64 0),(.int .i64 0),(.str []),.bj],none,[]⟩
abbrev mw (d bb bu:Nat):bx:=⟨some d,.bin (.int .eql) (.t bb) (.c (.int .i64 0)),(some (bu,true)),[bb,bu]⟩
abbrev mx (d bb:Nat):bx:=⟨some d,.un .not (.t bb),none,[bb]⟩
abbrev my (d bb:Nat):bx:=⟨some d,.len .str (.t bb),none,[bb]⟩
abbrev oZ (d bb bu:Nat):bx:=⟨some d,.len .slice (.t bb),(some (bu,false)),[bb,bu]⟩
abbrev o0 (d bb:Nat):bx:=⟨some d,.dZ 4 (.t bb),none,[bb]⟩
abbrev pQ (d:Nat):bx:=⟨some d,.cO (.c (.int .i64 2)),none,[]⟩
abbrev q4 (d bb bu:Nat):bx:=⟨some d,.len .slice (.t bb),(some (bu,true)),[bb,bu]⟩
abbrev sd (d bb bu:Nat):bx:=⟨some d,.cd 1 (.t bb) (.t bu),none,[bb,bu]⟩
abbrev se (d bb:Nat):bx:=⟨some d,.dZ 3 (.t bb),none,[bb]⟩
abbrev sf (d bb bu:Nat):bx:=⟨some d,.dZ 2 (.t bb),(some (bu,true)),[bb,bu]⟩
abbrev tZ (d bb:Nat):bx:=⟨some d,.bin (.int .eql) (.t bb) (.c (.int .i64 1)),none,[bb]⟩
abbrev t' (d bb:Nat):bx:=⟨some d,.hS 1 5 [(.int .i64 0),(.int .i64 0),(.int .i64 0),(.str []),.bj] [(0,5,(.t bb))],none,[bb]⟩
abbrev t_ (d:Nat):bx:=⟨some d,.cO (.c (.bool true)),none,[]⟩
abbrev vJ (d bb:Nat):bx:=⟨some d,.bin (.int .neq) (.t bb) (.c (.int .i64 0)),none,[bb]⟩
abbrev vK (d bb bu:Nat):bx:=⟨some d,.bin (.int .add) (.t bb) (.t bu),none,[bb,bu]⟩
abbrev vL (d bb bu:Nat):bx:=⟨some d,.dZ 1 (.t bb),(some (bu,true)),[bb,bu]⟩
abbrev xR (d bb bu eQ:Nat):bx:=⟨some d,.bin (.int .geq) (.t bb) (.t bu),(some (eQ,false)),[bb,bu,eQ]⟩
abbrev xS (d bb:Nat):bx:=⟨some d,.bin (.int .eql) (.t bb) (.c (.int .i64 2)),none,[bb]⟩
abbrev xT (d bb:Nat):bx:=⟨some d,.bin (.int .eql) (.t bb) (.c (.int .i64 3)),none,[bb]⟩
abbrev xU (d:Nat):bx:=⟨some d,.new [(.str []),(.str []),(.int .i64 0),(.int .i64 0),.bj],none,[]⟩
abbrev xV (d:Nat):bx:=⟨some d,.cO (.c .kA),none,[]⟩
abbrev xW (d bb bu:Nat):bx:=⟨some d,.bin (.int .sub) (.t bb) (.t bu),none,[bb,bu]⟩
abbrev xX (d bb bu:Nat):bx:=⟨some d,.tq (.t bb),(some (bu,true)),[bb,bu]⟩
abbrev Ay (d bb bu:Nat):bx:=⟨some d,.cd 7 (.t bb) (.t bu),none,[bb,bu]⟩
abbrev Az (d bb:Nat):bx:=⟨some d,.fL 7 (.t bb),none,[bb]⟩
abbrev AA (d bb bu:Nat):bx:=⟨some d,.dZ 0 (.t bb),(some (bu,false)),[bb,bu]⟩
abbrev AB (d bb bu:Nat):bx:=⟨some d,.cd 3 (.t bb) (.t bu),none,[bb,bu]⟩
abbrev AD (d bb bu:Nat):bx:=⟨some d,.app 1 (.t bb) (.t bu),none,[bb,bu]⟩
abbrev AE (d:Nat):bx:=⟨some d,.new [(.int .i64 0),(.int .i64 0),.bj],none,[]⟩
abbrev AF (d bb bu:Nat):bx:=⟨some d,.un .not (.t bb),(some (bu,false)),[bb,bu]⟩
abbrev AG (d bb:Nat):bx:=⟨some d,.bin (.int .eql) (.t bb) (.c (.int .i64 0)),none,[bb]⟩
abbrev AH (d bb:Nat):bx:=⟨some d,.fL 4 (.t bb),none,[bb]⟩
abbrev AI (d bb bu:Nat):bx:=⟨some d,.bin (.int .geq) (.t bb) (.t bu),none,[bb,bu]⟩
abbrev AJ (d bb bu:Nat):bx:=⟨some d,.dZ 0 (.t bb),(some (bu,true)),[bb,bu]⟩
abbrev AK (d:Nat):bx:=⟨some d,.new [(.int .i64 0),(.int .i64 0),(.int .i64 0),(.str [])],none,[]⟩
abbrev Dv (d bb bu eQ:Nat):bx:=⟨some d,.bin (.int .leq) (.t bb) (.t bu),(some (eQ,true)),[bb,bu,eQ]⟩
abbrev Dw (d bb bu:Nat):bx:=⟨some d,.dZ 6 (.t bb),(some (bu,false)),[bb,bu]⟩
abbrev Dx (d bb bu eQ:Nat):bx:=⟨some d,.pick (.t bb) (.c (.bool true)) (.t bu),(some (eQ,true)),[bb,bu,eQ]⟩
abbrev Dy (d bb bu:Nat):bx:=⟨some d,.dZ 5 (.t bb),(some (bu,false)),[bb,bu]⟩
abbrev Dz (d bb bu:Nat):bx:=⟨some d,.dZ 1 (.t bb),(some (bu,false)),[bb,bu]⟩
abbrev DA (d bb bu:Nat):bx:=⟨some d,.call 20 [(.t bb),(.t bu)],none,[bb,bu]⟩
abbrev DB (d bb bu eQ:Nat):bx:=⟨some d,.bin (.int .eql) (.t bb) (.t bu),(some (eQ,true)),[bb,bu,eQ]⟩
abbrev DC (d bb bu:Nat):bx:=⟨some d,.bin (.int .eql) (.t bb) (.t bu),none,[bb,bu]⟩
abbrev DD (d bb:Nat):bx:=⟨some d,.bin (.int .eql) (.t bb) (.c (.int .i64 16)),none,[bb]⟩
abbrev DE (d bb bu:Nat):bx:=⟨some d,.look .str (.agg [(.str []),(.str []),(.int .i64 0),(.int .i64 0),.bj]) false (.t bb) (.t bu),none,[bb,bu]⟩
abbrev DF (d bb:Nat):bx:=⟨some d,.bin (.int .geq) (.t bb) (.c (.int .i64 0)),none,[bb]⟩
abbrev DG (d bb bu:Nat):bx:=⟨some d,.bin (.str .eql) (.t bb) (.t bu),none,[bb,bu]⟩
abbrev DH (d bb bu:Nat):bx:=⟨some d,.dZ 4 (.t bb),(some (bu,true)),[bb,bu]⟩
abbrev DI (d bb bu:Nat):bx:=⟨some d,.cd 4 (.t bb) (.c (.int .i64 0)),(some (bu,true)),[bb,bu]⟩
abbrev HK (d:Nat):bx:=⟨some d,.new [(.int .i64 0),(.int .i64 0),.bj,(.bool false),(.int .i64 0),(.int .i64 0),(.int .i64 0)],none,[]⟩
abbrev HL (d bb bu eQ:Nat):bx:=⟨some d,.bin (.int .gtr) (.t bb) (.t bu),(some (eQ,false)),[bb,bu,eQ]⟩
abbrev HM (d bb:Nat):bx:=⟨some d,.bin (.int .lss) (.t bb) (.c (.int .i64 0)),none,[bb]⟩
abbrev HN (d bb:Nat):bx:=⟨some d,.bin (.int .eql) (.t bb) (.c (.int .i64 12)),none,[bb]⟩
abbrev HO (d bb:Nat):bx:=⟨some d,.bin (.int .eql) (.t bb) (.c (.int .i64 14)),none,[bb]⟩
abbrev HP (d bb bu:Nat):bx:=⟨some d,.bin (.int .eql) (.t bb) (.c (.int .i64 1)),(some (bu,true)),[bb,bu]⟩
abbrev HQ (d bb:Nat):bx:=⟨some d,.hS 1 3 [.bj,(.bool false),(.int .i64 0)] [(0,3,(.t bb))],none,[bb]⟩
abbrev HR (d bb bu:Nat):bx:=⟨some d,.looks 111 .bj false (.t bb) (.t bu),none,[bb,bu]⟩
abbrev HS (d bb:Nat):bx:=⟨some d,.bin (.int .eql) (.t bb) (.c (.int .i64 5)),none,[bb]⟩
abbrev HT (d bb bu:Nat):bx:=⟨some d,.r6 (.t bb) (some (.t bu)) none none,none,[bb,bu]⟩
abbrev HU (d:Nat):bx:=⟨some d,.build [(.int .i64 0),(.int .i64 0),(.int .i64 0),(.str [])] [],none,[]⟩
abbrev HV (d:Nat):bx:=⟨some d,.call 27 [(.c (.int .i64 0)),(.c .bj)],none,[]⟩
abbrev NH (d bb bu:Nat):bx:=⟨some d,.hS 2 5 [(.int .i64 0),(.int .i64 0),(.int .i64 0),(.str []),.bj] [(0,5,(.t bb)),(5,5,(.t bu))],none,[bb,bu]⟩
abbrev NI (d bb bu:Nat):bx:=⟨some d,.build [.bj,(.bool false),(.int .i64 0)] [(0,1,(.t bb)),(2,1,(.t bu))],none,[bb,bu]⟩
abbrev NJ (d bb bu:Nat):bx:=⟨some d,.look .str (.agg [(.str []),(.str []),(.int .i64 0),(.int .i64 0),.bj]) true (.t bb) (.t bu),none,[bb,bu]⟩
abbrev NK (d bb:Nat):bx:=⟨some d,.build [(.int .i64 0),(.int .i64 0),(.int .i64 0),(.str [])] [(0,1,(.c (.int .i64 7))),(3,1,(.t bb))],none,[bb]⟩
structure dm (f n:Nat) (fn:Func) (c:a1) (eC:List uf):Prop where
 av:Tryz.prog.funcs[f]? =some fn
 Qy:(fn.body,fn.ntmps,Nat.ble fn.ntmps top,Nat.beq f dB,eB Tryz.prog fn.ntmps (fn.body.getD .skip),oR Tryz.prog fn.ntmps fn.results.toList,c.plain)=(some (fn.body.getD .skip),n,true,false,c,eC,true)
theorem dm.z {f n:Nat} {fn:Func} {c:a1} {eC:List uf} (Z:dm f n fn c eC) {args:List V} {h:ae} {K:V->ae->Prop} (ax:Nat.ble args.length n=true) (H:ff Tryz.prog c (bf.bU args) h fun e r ab=>e.ends/\∃af,lx r ab eC=some af/\K (oneOf af) ab):cR Tryz.prog f args h K:=by have q:=Z.Qy;simp only [asi] at q;obtain ⟨aa,ad,aH,bw,cM,gb,ij⟩:=q;exact ab2 follows zp Z.av aa aH bw (by rw [ad];exact ax) cM gb ij H
theorem dm.d {f n:Nat} {fn:Func} {c:a1} {eC:List uf} (Z:dm f n fn c eC) {args:List V} {h:ae} {v:Bool} (ax:Nat.ble args.length n=true) (H:fj Tryz.prog c (bf.bU args) h fun e r ab=>e.ends/\Ext h ab/\lx r ab eC=some [.bool v]):e4 Tryz.prog f args h (.bool v) h:=by have q:=Z.Qy;simp only [asi] at q;obtain ⟨aa,ad,aH,bw,cM,gb,ij⟩:=q;exact ab0 follows zp Z.av aa aH bw (by rw [ad];exact ax) cM gb ij H
def P6:a1:=
 .seq (.seq (.an [ai 59 11,ai 60 1,ez 61 60,f_ 62 59 61])
 (.cond (.t 62)
 (.skip)
 (.exit 0)))
 (.seq (.block 1 (.seq (.an [ai 66 0,ai 67 1,ai 68 11,kJ 69 67 68,fo 70 69,⟨some 71,.call 9 [(.t 66),(.t 70)],none,[66,70]⟩,ai 65 71,hA 72 65,hB 73 65,ai 12 72,ai 13 73])
 (.seq (.seq (.an [ai 74 13,vJ 75 74])
 (.cond (.t 75)
 (.seq (.an [ec 6])
 (.ret))
 (.skip)))
 (.an [ai 76 10,ai 77 12,ez 78 77,vK 79 76 78,ai 10 79]))))
 (.an [ai 63 11,eY 64 63,ai 11 64]))
def P7:a1:=
 .seq (.seq (.an [ai 93 14,ai 94 8,ez 95 94,f_ 96 93 95])
 (.cond (.t 96)
 (.skip)
 (.exit 2)))
 (.seq (.block 3 (.seq (.an [ai 99 8,ai 100 14,Ay 101 99 100,Az 102 101,HK 15,⟨none,.st 7 (.t 15) (.t 102),none,[15,102]⟩])
 (.seq (.an [e5 103 15,bQ 104 103,tZ 105 104,ai 106 105,⟨some 107,.dZ 5 (.t 15),(some (106,true)),[15,106]⟩,hC 108 107 106,dw 109 14 106,Dv 110 108 109 106,dw 111 110 106,Dw 112 15 111,hR 113 112 111,gP 114 14 111,⟨some 115,.bin (.int .leq) (.t 113) (.t 114),(some (111,false)),[113,114,111]⟩,Dx 116 111 115 106,dw 117 116 106,Dy 118 15 117,hR 119 118 117,gP 120 8 117,oZ 121 120 117,xR 122 119 121 117,Dx 123 117 122 106,dw 124 123 106,Dw 125 15 124,hR 126 125 124,gP 127 8 124,oZ 128 127 124,xR 129 126 128 124,Dx 130 124 129 106,dV 131 106 130,ai 132 131,AA 133 15 132,hR 134 133 132,⟨some 135,.bin (.int .eql) (.t 134) (.c (.int .i64 2)),(some (132,false)),[134,132]⟩,gP 136 135 132,vL 137 15 136,hC 138 137 136,⟨some 139,.bin (.int .lss) (.t 138) (.c (.int .i64 0)),(some (136,true)),[138,136]⟩,dw 140 139 136,Dz 141 15 140,hR 142 141 140,gP 143 1 140,oZ 144 143 140,xR 145 142 144 140,Dx 146 140 145 136,⟨some 147,.pick (.t 136) (.t 146) (.c (.bool false)),(some (132,false)),[136,146,132]⟩,fG 148 132 147])
 (.cond (.t 148)
 (.seq (.an [ec 6])
 (.ret))
 (.skip)))))
 (.an [ai 97 14,eY 98 97,ai 14 98]))
def uq:a1:=
 .seq (.an [hD 5 2,ec 6])
 (.seq (.an [⟨some 21,.call 5 [],none,[]⟩,ai 7 21])
 (.seq (.seq (.an [ai 22 0,ai 23 1,kK 24 5,⟨some 25,.call 7 [(.t 22),(.t 23),(.t 24)],none,[22,23,24]⟩])
 (.cond (.t 25)
 (.seq (.an [ai 26 7,ai 6 26])
 (.ret))
 (.skip)))
 (.seq (.an [ai 28 0,ai 29 1,⟨some 30,.call 29 [(.t 28),(.t 29)],none,[28,29]⟩,ai 27 30,hA 31 27,hB 32 27,ai 8 31,ai 9 32])
 (.seq (.seq (.an [ai 33 9,ai 34 0,ai 35 1,DA 36 34 35,⟨some 37,.bin (.int .neq) (.t 33) (.t 36),none,[33,36]⟩,ai 38 37,gP 39 9 38,⟨some 40,.bin (.int .neq) (.t 39) (.c (.int .i64 0)),(some (38,false)),[39,38]⟩,fG 41 38 40])
 (.cond (.t 41)
 (.seq (.an [ai 42 7,ai 43 42,dw 44 9 43,⟨some 45,.bin (.int .neq) (.t 44) (.c (.int .i64 0)),(some (43,true)),[44,43]⟩,dV 46 43 45,ai 47 46,dw 48 8 47,q4 49 48 47,mw 50 49 47,dV 51 47 50,ai 52 51,dw 53 9 52,dw 54 0 52,dw 55 1 52,⟨some 56,.call 20 [(.t 54),(.t 55)],(some (52,true)),[54,55,52]⟩,DB 57 53 56 52,dV 58 52 57,ai 6 58])
 (.ret))
 (.skip)))
 (.seq (.an [df 10])
 (.seq (.seq (.an [df 11])
 (.block 0 (.loop P6)))
 (.seq (.seq (.an [ai 80 8,ez 81 80,⟨some 82,.bin (.int .lss) (.t 81) (.c (.int .i64 1)),none,[81]⟩,ai 83 82,gP 84 8 83,oZ 85 84 83,gP 86 10 83,gP 87 1 83,oZ 88 87 83,⟨some 89,.bin (.int .add) (.t 86) (.t 88),(some (83,false)),[86,88,83]⟩,⟨some 90,.bin (.int .add) (.t 89) (.c (.int .i64 1)),(some (83,false)),[89,83]⟩,HL 91 85 90 83,fG 92 83 91])
 (.cond (.t 92)
 (.seq (.an [ec 6])
 (.ret))
 (.skip)))
 (.seq (.seq (.an [df 14])
 (.block 2 (.loop P7)))
 (.seq (.an [ai 150 0,ai 151 1,kK 152 5,⟨some 153,.call 24 [(.t 150),(.t 151),(.t 152)],none,[150,151,152]⟩,ai 149 153,hA 154 149,hB 155 149,ai 16 154,ai 17 155])
 (.seq (.seq (.an [ai 156 17,vJ 157 156])
 (.cond (.t 157)
 (.seq (.an [ai 158 7,ai 6 158])
 (.ret))
 (.skip)))
 (.seq (.an [ai 160 8,kK 161 5,⟨some 162,.call 30 [(.t 160),(.t 161)],none,[160,161]⟩,ai 159 162,hA 163 159,hB 164 159,⟨some 165,.ext (.t 159) 2,none,[159]⟩,ai 18 163,ai 19 164,ai 20 165])
 (.seq (.an [ai 166 7,ai 167 166,dw 168 20 167,mw 169 168 167,dV 170 167 169,ai 171 170,dw 172 18 171,dw 173 16 171,DB 174 172 173 171,dV 175 171 174,ai 176 175,dw 177 19 176,dw 178 10 176,Dv 179 177 178 176,dV 180 176 179,ai 6 180])
 (.ret)))))))))))))
theorem aaX:dm 6 181 Tryz.f6 uq [.t 6]:=⟨Tryz.func6,by kernel_rfl⟩
def A8:a1:=
 .seq (.an [hD 5 2,ec 6])
 (.seq (.an [ai 7 0,ez 8 7,⟨some 9,.bin (.int .gtr) (.t 8) (.c (.int .i64 12)),none,[8]⟩,ai 10 9,gP 11 1 10,oZ 12 11 10,⟨some 13,.bin (.int .gtr) (.t 12) (.c (.int .i64 10)),(some (10,false)),[12,10]⟩,fG 14 10 13,ai 15 14,gP 16 1 15,⟨some 17,.call 32 [(.t 16),(.c (.int .i64 60))],(some (15,false)),[16,15]⟩,fG 18 15 17,ai 19 18,⟨some 20,.fL 3 (.t 5),(some (19,false)),[5,19]⟩,⟨some 21,.call 33 [(.t 20),(.c (.int .i64 60))],(some (19,false)),[20,19]⟩,fG 22 19 21,ai 6 22])
 (.ret))
theorem aa3:dm 7 23 Tryz.f7 A8 [.t 6]:=⟨Tryz.func7,by kernel_rfl⟩
def Qi:a1:=
 .seq (.an [hD 3 1,lp 4,df 5])
 (.seq (.seq (.an [ai 7 0,fo 8 3,t' 9 8,DA 10 7 9,ai 6 10])
 (.seq (.an [ai 11 6,vJ 12 11])
 (.cond (.t 12)
 (.seq (.an [ai 13 6,lp 4,ai 5 13])
 (.ret))
 (.skip))))
 (.seq (.draw [ai 14 0,fo 16 3,⟨some 15,.call 35 [(.t 14)],none,[14]⟩,⟨some 17,.call 34 [(.t 15),(.t 16)],none,[15,16]⟩,ai 4 17,df 5] [(1,[2,3])])
 (.ret)))
theorem aa7:dm 9 18 Tryz.f9 Qi [.t 4,.t 5]:=⟨Tryz.func9,by kernel_rfl⟩
def Pk:a1:=
 .seq (.an [df 4])
 (.seq (.an [ai 8 0,ai 9 1,⟨some 10,.call 46 [(.t 8),(.t 9)],none,[8,9]⟩,ai 7 10,hA 11 7,hB 12 7,ai 5 11,ai 6 12])
 (.seq (.an [ai 13 6,ai 4 13])
 (.ret)))
theorem aat:dm 20 14 Tryz.f20 Pk [.t 4]:=⟨Tryz.func20,by kernel_rfl⟩
def Pn:a1:=
 .seq (.an [f_ 32 31 30])
 (.seq (.cond (.t 32)
 (.skip)
 (.exit 1))
 (.seq (.block 2 (.seq (.an [ai 33 31,kJ 34 29 31,fo 35 34,l0 12,ai 11 33,⟨none,.st 5 (.t 12) (.t 35),none,[12,35]⟩])
 (.seq (.an [ai 36 10,fo 37 12,kK 38 5,⟨some 39,.call 54 [(.t 36),(.t 37),(.t 38)],none,[36,37,38]⟩])
 (.cond (.t 39)
 (.seq (.an [ai 40 11,ai 6 40,df 7])
 (.ret))
 (.skip)))))
 (.an [eY 41 31,ai 31 41])))
def Pm:a1:=
 .seq (.an [hD 5 2,df 6,df 7])
 (.seq (.an [ai 14 0,ai 15 1,kK 16 5,⟨some 17,.call 31 [(.t 14),(.t 15),(.t 16)],none,[14,15,16]⟩,ai 13 17,hA 18 13,hB 19 13,ai 8 18,ai 9 19])
 (.seq (.block 0 (.seq (.an [ai 21 9,vJ 22 21,ai 20 22])
 (.cond (.t 20)
 (.seq (.an [ai 23 9,df 6,ai 7 23])
 (.ret))
 (.seq (.an [ai 25 8,mx 26 25,ai 24 26])
 (.cond (.t 24)
 (.seq (.an [df 6,pQ 7])
 (.ret))
 (.skip))))))
 (.seq (.an [ai 27 0,⟨some 28,.call 35 [(.t 27)],none,[27]⟩,ai 10 28])
 (.seq (.seq (.an [ai 29 1,ez 30 29,df 31])
 (.block 1 (.loop Pn)))
 (.seq (.an [⟨some 6,.cO (.c (.int .i64 (-1))),none,[]⟩,df 7])
 (.ret))))))
theorem aav:dm 24 42 Tryz.f24 Pm [.t 6,.t 7]:=⟨Tryz.func24,by kernel_rfl⟩
def Pt:a1:=
 .seq (.an [f_ 40 39 38])
 (.seq (.cond (.t 40)
 (.skip)
 (.exit 2))
 (.seq (.block 3 (.seq (.an [AB 41 37 39,kK 42 41,⟨some 14,.new [.bj,(.bool false),(.int .i64 0)],none,[]⟩,⟨none,.st 3 (.t 14) (.t 42),none,[14,42]⟩])
 (.seq (.an [ai 43 9,kK 44 14,⟨some 45,.build [(.int .i64 0),(.int .i64 0),.bj,(.bool false),(.int .i64 0),(.int .i64 0),(.int .i64 0)] [(0,1,(.c (.int .i64 1))),(2,3,(.t 44))],none,[44]⟩,⟨some 46,.l3 (.t 43) [(.t 45)],none,[43,45]⟩,ai 15 46])
 (.seq (.an [bQ 47 8,ai 48 15,ai 49 15,eY 50 49,Ay 51 47 48,⟨some 52,.dZ 5 (.t 51),none,[51]⟩,⟨none,.st 1 (.t 52) (.t 50),none,[52,50]⟩])
 (.an [ai 53 12,ai 54 15,⟨some 55,.hS 1 1 [(.int .i64 0)] [(0,1,(.t 54))],none,[54]⟩,AD 56 53 55,ai 12 56])))))
 (.an [eY 57 39,ai 39 57])))
def Pv:a1:=
 .seq (.an [f_ 66 65 64])
 (.seq (.cond (.t 66)
 (.skip)
 (.exit 4))
 (.seq (.block 5 (.seq (.an [sd 67 63 65,bQ 68 67,ai 18 68])
 (.an [bQ 69 8,ai 70 18,ai 71 16,Ay 72 69 70,⟨some 73,.dZ 6 (.t 72),none,[72]⟩,⟨none,.st 1 (.t 73) (.t 71),none,[73,71]⟩])))
 (.an [eY 74 65,ai 65 74])))
def Pw:a1:=
 .seq (.an [f_ 31 30 29])
 (.seq (.cond (.t 31)
 (.skip)
 (.exit 0))
 (.seq (.block 1 (.seq (.an [ai 32 30,kJ 33 28 30,fo 34 33,l0 11,ai 10 32,⟨none,.st 5 (.t 11) (.t 34),none,[11,34]⟩])
 (.seq (.an [lp 12])
 (.seq (.seq (.an [ai 35 7,fo 36 11,⟨some 37,.call 34 [(.t 35),(.t 36)],none,[35,36]⟩,ez 38 37,df 39])
 (.block 2 (.loop Pt)))
 (.seq (.an [ai 58 9,ai 59 10,⟨some 60,.build [(.int .i64 0),(.int .i64 0),.bj,(.bool false),(.int .i64 0),(.int .i64 0),(.int .i64 0)] [(0,1,(.c (.int .i64 2))),(1,1,(.t 59))],none,[59]⟩,⟨some 61,.l3 (.t 58) [(.t 60)],none,[58,60]⟩,eY 62 61,ai 16 62])
 (.seq (.an [ai 63 12,ez 64 63,df 65])
 (.block 4 (.loop Pv))))))))
 (.an [eY 75 30,ai 30 75])))
def Ps:a1:=
 .seq (.an [lp 4,df 5])
 (.seq (.seq (.an [ai 19 0,ai 20 1,DA 21 19 20,ai 6 21])
 (.seq (.an [ai 22 6,vJ 23 22])
 (.cond (.t 23)
 (.seq (.an [ai 24 6,lp 4,ai 5 24])
 (.ret))
 (.skip))))
 (.seq (.an [ai 25 0,⟨some 26,.call 35 [(.t 25)],none,[25]⟩,ai 7 26])
 (.seq (.an [⟨some 8,.new [.bj],none,[]⟩])
 (.seq (.an [⟨some 27,.fn 55 [(.t 8)],none,[8]⟩,ai 9 27])
 (.seq (.seq (.an [ai 28 1,ez 29 28,df 30])
 (.block 0 (.loop Pw)))
 (.seq (.an [ai 76 9,⟨some 77,.build [(.int .i64 0),(.int .i64 0),.bj,(.bool false),(.int .i64 0),(.int .i64 0),(.int .i64 0)] [(0,1,(.c (.int .i64 3)))],none,[]⟩,⟨some 78,.l3 (.t 76) [(.t 77)],none,[76,77]⟩])
 (.seq (.an [bQ 79 8,ai 4 79,df 5])
 (.ret))))))))
theorem aaA:dm 29 80 Tryz.f29 Ps [.t 4,.t 5]:=⟨Tryz.func29,by kernel_rfl⟩
def Py:a1:=
 .block 1 (.seq (.seq (.an [e5 24 8,bQ 25 24])
 (.block 2 (.seq (.an [xS 27 25,ai 26 27])
 (.cond (.t 26)
 (.seq (.seq (.an [dX 28 8,bQ 29 28,HM 30 29])
 (.cond (.t 30)
 (.seq (.an [df 4,df 5,pQ 6])
 (.ret))
 (.skip)))
 (.seq (.an [dX 31 8,bQ 32 31,ai 33 7,ai 4 32,ai 5 33,df 6])
 (.ret)))
 (.seq (.an [xT 35 25,ai 34 35])
 (.cond (.t 34)
 (.exit 0)
 (.skip)))))))
 (.seq (.an [pQ 9])
 (.seq (.seq (.an [h' 36 8,dX 37 36,bQ 38 37])
 (.cond (.t 38)
 (.an [⟨some 9,.cO (.c (.int .i64 1)),none,[]⟩])
 (.skip)))
 (.seq (.an [kK 40 3,h' 41 8,e5 42 41,bQ 43 42,⟨some 44,.call 58 [(.t 40),(.t 43)],none,[40,43]⟩,ai 39 44,hA 45 39,hB 46 39,AE 10,⟨none,.st 3 (.t 10) (.t 45),none,[10,45]⟩,ai 11 46])
 (.seq (.seq (.an [ai 47 11,mx 48 47,ai 49 48,AA 50 10 49,hR 51 50 49,gP 52 9 49,⟨some 53,.bin (.int .neq) (.t 51) (.t 52),(some (49,false)),[51,52,49]⟩,fG 54 49 53])
 (.cond (.t 54)
 (.seq (.an [df 4,df 5,pQ 6])
 (.ret))
 (.skip)))
 (.seq (.an [ai 55 7,eY 56 55,ai 7 56])
 (.seq (.an [⟨some 57,.dZ 6 (.t 8),none,[8]⟩,bQ 58 57,ai 12 58])
 (.seq (.seq (.an [dX 59 10,bQ 60 59,h' 61 8,h' 62 61,bQ 63 62,DC 64 60 63])
 (.cond (.t 64)
 (.an [⟨some 65,.dZ 5 (.t 8),none,[8]⟩,bQ 66 65,ai 12 66])
 (.skip)))
 (.an [ai 67 0,ai 68 12,Ay 69 67 68,Az 70 69,⟨none,.st 7 (.t 8) (.t 70),none,[8,70]⟩])))))))))
def Px:a1:=
 .seq (.an [hD 3 1,df 4,df 5,df 6])
 (.seq (.seq (.an [ai 13 0,⟨some 14,.call 56 [(.t 13)],none,[13]⟩,mx 15 14,ai 16 15,⟨some 17,.fL 3 (.t 3),(some (16,false)),[3,16]⟩,⟨some 18,.call 57 [(.t 17)],(some (16,false)),[17,16]⟩,AF 19 18 16,fG 20 16 19])
 (.cond (.t 20)
 (.seq (.an [df 4,df 5,pQ 6])
 (.ret))
 (.skip)))
 (.seq (.draw [ai 21 0,⟨some 22,.cd 7 (.t 21) (.c (.int .i64 0)),none,[21]⟩,Az 23 22,HK 8,df 7,⟨none,.st 7 (.t 8) (.t 23),none,[8,23]⟩] [(2,[5])])
 (.seq (.skip)
 (.seq (.block 0 (.loop Py))
 (.seq (.an [ai 71 7,⟨some 4,.cO (.c (.int .i64 (-1))),none,[]⟩,ai 5 71,df 6])
 (.ret))))))
theorem aaB:dm 30 72 Tryz.f30 Px [.t 4,.t 5,.t 6]:=⟨Tryz.func30,by kernel_rfl⟩
def PA:a1:=
 .seq (.an [f_ 26 25 24])
 (.seq (.cond (.t 26)
 (.skip)
 (.exit 0))
 (.seq (.block 1 (.seq (.an [kJ 27 23 25,fo 28 27,l0 11,⟨none,.st 5 (.t 11) (.t 28),none,[11,28]⟩])
 (.seq (.an [ai 29 9,fo 30 11,kK 31 5,⟨some 32,.call 59 [(.t 29),(.t 30),(.t 31)],none,[29,30,31]⟩,mx 33 32])
 (.cond (.t 33)
 (.seq (.an [ec 6,df 7])
 (.ret))
 (.skip)))))
 (.an [eY 34 25,ai 25 34])))
def Pz:a1:=
 .seq (.an [hD 5 2,ec 6,df 7])
 (.seq (.seq (.an [ai 12 0,ai 13 1,DA 14 12 13,ai 8 14])
 (.seq (.an [ai 15 8,vJ 16 15])
 (.cond (.t 16)
 (.seq (.an [ai 17 8,ec 6,ai 7 17])
 (.ret))
 (.skip))))
 (.seq (.seq (.an [kK 18 5,⟨some 19,.call 57 [(.t 18)],none,[18]⟩,mx 20 19])
 (.cond (.t 20)
 (.seq (.an [ec 6,pQ 7])
 (.ret))
 (.skip)))
 (.seq (.an [ai 21 0,⟨some 22,.call 35 [(.t 21)],none,[21]⟩,ai 9 22])
 (.seq (.seq (.an [ai 23 1,ez 24 23,df 25])
 (.block 0 (.loop PA)))
 (.seq (.an [t_ 6,df 7])
 (.ret))))))
theorem aaC:dm 31 35 Tryz.f31 Pz [.t 6,.t 7]:=⟨Tryz.func31,by kernel_rfl⟩
def PB:a1:=
 .seq (.an [ec 4])
 (.seq (.an [ai 5 0,ai 6 1,⟨some 7,.call 60 [(.t 5),(.t 6)],none,[5,6]⟩,ai 8 1,⟨some 9,.bin (.int .gtr) (.t 7) (.t 8),none,[7,8]⟩,ai 4 9])
 (.ret))
theorem aaD:dm 32 10 Tryz.f32 PB [.t 4]:=⟨Tryz.func32,by kernel_rfl⟩
def PC:a1:=
 .seq (.an [hD 2 0,ec 4])
 (.seq (.an [kK 5 2,ai 6 1,⟨some 7,.call 61 [(.t 5),(.t 6)],none,[5,6]⟩,ai 8 1,⟨some 9,.bin (.int .gtr) (.t 7) (.t 8),none,[7,8]⟩,ai 4 9])
 (.ret))
theorem aaE:dm 33 10 Tryz.f33 PC [.t 4]:=⟨Tryz.func33,by kernel_rfl⟩
def c34:a1:=
 .seq (.an [hD 2 0,hD 3 1,lp 4])
 (.seq (.an [⟨some 5,.new [.bj],none,[]⟩])
 (.seq (.an [⟨some 6,.new [.k6],none,[]⟩])
 (.seq (.an [⟨some 7,.fn 62 [(.t 5),(.t 2),(.t 6)],none,[5,2,6]⟩,⟨none,.st 1 (.t 6) (.t 7),none,[6,7]⟩])
 (.seq (.an [bQ 8 6,fo 9 3,⟨some 10,.l3 (.t 8) [(.t 9),(.c .bj)],none,[8,9]⟩])
 (.seq (.an [bQ 11 5,ai 4 11])
 (.ret))))))
theorem aaF:dm 34 12 Tryz.f34 c34 [.t 4]:=⟨Tryz.func34,by kernel_rfl⟩
def PE:a1:=
 .seq (.an [f_ 10 9 8])
 (.seq (.cond (.t 10)
 (.skip)
 (.exit 0))
 (.seq (.block 1 (.seq (.an [kJ 11 7 9,fo 12 11,xU 5,⟨none,.st 5 (.t 5) (.t 12),none,[5,12]⟩])
 (.an [ai 13 3,e5 14 5,bQ 15 14,fo 16 5,⟨none,.pN .str (.t 13) (.t 15) (.t 16),none,[13,15,16]⟩])))
 (.an [eY 17 9,ai 9 17])))
def PD:a1:=
 .seq (.an [⟨some 2,.cO (.c .j7),none,[]⟩])
 (.seq (.an [⟨some 6,.tn none,none,[]⟩,ai 3 6])
 (.seq (.seq (.an [ai 7 0,ez 8 7,df 9])
 (.block 0 (.loop PE)))
 (.seq (.an [ai 18 3,ai 2 18])
 (.ret))))
theorem aaG:dm 35 19 Tryz.f35 PD [.t 2]:=⟨Tryz.func35,by kernel_rfl⟩
def PF:a1:=
 .seq (.an [hD 1 0,ec 2])
 (.seq (.seq (.an [e5 4 1,bQ 5 4,⟨some 6,.bin (.int .lss) (.t 5) (.c (.int .i64 10)),none,[5]⟩,ai 7 6,AA 8 1 7,hR 9 8 7,⟨some 10,.bin (.int .gtr) (.t 9) (.c (.int .i64 16)),(some (7,false)),[9,7]⟩,fG 11 7 10])
 (.cond (.t 11)
 (.seq (.an [ec 2])
 (.ret))
 (.skip)))
 (.seq (.an [fo 12 1,⟨some 13,.build [(.int .i64 0),(.int .i64 0),(.int .i64 0),(.str []),.bj] [(0,1,(.c (.int .i64 22)))],none,[]⟩,NH 14 12 13,⟨some 15,.build [(.int .i64 0),(.int .i64 0),(.int .i64 0),(.str []),.bj] [(0,1,(.c (.int .i64 52))),(4,1,(.t 14))],none,[14]⟩,t' 16 15,⟨some 17,.call 65 [(.t 16)],none,[16]⟩,ai 3 17])
 (.seq (.an [ai 18 3,⟨some 19,.bin (.int .neq) (.t 18) (.c (.int .i64 2)),none,[18]⟩,ai 2 19])
 (.ret))))
theorem aaH:dm 37 20 Tryz.f37 PF [.t 2]:=⟨Tryz.func37,by kernel_rfl⟩
def PG:a1:=
 .seq (.an [lp 4])
 (.seq (.an [ai 5 0,ai 6 0,ez 7 6,ai 8 0,ez 9 8,⟨some 10,.eW 1 (.t 5) none (some (.t 7)) (some (.t 9)),none,[5,7,9]⟩,ai 11 1,⟨some 12,.hS 1 1 [(.int .i64 0)] [(0,1,(.t 11))],none,[11]⟩,AD 13 10 12,ai 4 13])
 (.ret))
theorem aaI:dm 39 14 Tryz.f39 PG [.t 4]:=⟨Tryz.func39,by kernel_rfl⟩
def PI:a1:=
 .seq (.an [f_ 20 19 18])
 (.seq (.cond (.t 20)
 (.skip)
 (.exit 0))
 (.seq (.block 1 (.seq (.an [kJ 21 17 19,fo 22 21,l0 9,⟨none,.st 5 (.t 9) (.t 22),none,[9,22]⟩])
 (.seq (.an [fo 23 9,⟨some 24,.call 37 [(.t 23)],none,[23]⟩,mx 25 24])
 (.cond (.t 25)
 (.seq (.an [xV 4,pQ 5])
 (.ret))
 (.skip)))))
 (.an [eY 26 19,ai 19 26])))
def PH:a1:=
 .seq (.an [xV 4,df 5])
 (.seq (.an [ai 11 0,⟨some 12,.call 70 [(.t 11)],none,[11]⟩,ai 10 12,hA 13 10,hB 14 10,ai 6 13,ai 7 14])
 (.seq (.seq (.an [ai 15 7,mx 16 15])
 (.cond (.t 16)
 (.seq (.an [xV 4,pQ 5])
 (.ret))
 (.skip)))
 (.seq (.seq (.an [ai 17 1,ez 18 17,df 19])
 (.block 0 (.loop PI)))
 (.seq (.seq (.an [ai 27 6,ai 28 1,⟨some 29,.call 71 [(.t 27),(.t 28)],none,[27,28]⟩,mx 30 29])
 (.cond (.t 30)
 (.seq (.an [xV 4,pQ 5])
 (.ret))
 (.skip)))
 (.seq (.an [ai 31 6,ai 4 31,df 5])
 (.ret))))))
theorem aaJ:dm 46 32 Tryz.f46 PH [.t 4,.t 5]:=⟨Tryz.func46,by kernel_rfl⟩
def II:a1:=
 .seq (.an [f_ 33 32 31])
 (.seq (.cond (.t 33)
 (.skip)
 (.exit 1))
 (.seq (.block 2 (.seq (.an [ai 34 32,kJ 35 30 32,fo 36 35,l0 8,ai 7 34,⟨none,.st 5 (.t 8) (.t 36),none,[8,36]⟩])
 (.seq (.draw [ai 37 0,fo 38 8,h' 39 5,bQ 40 39,ai 41 7,AB 42 40 41,kK 43 42,⟨some 44,.call 54 [(.t 37),(.t 38),(.t 43)],none,[37,38,43]⟩,mx 45 44] [(1,[7]),(3,[7]),(6,[7])])
 (.cond (.t 45)
 (.seq (.an [ec 6])
 (.ret))
 (.skip)))))
 (.an [eY 46 32,ai 32 46])))
def PJ:a1:=
 .seq (.an [hD 4 1,hD 5 2,ec 6])
 (.seq (.seq (.an [e5 9 4,bQ 10 9])
 (.block 0 (.seq (.seq (.an [HN 12 10,ai 11 12])
 (.cond (.t 11)
 (.skip)
 (.an [HO 13 10,ai 11 13])))
 (.cond (.t 11)
 (.seq (.an [dX 14 5,bQ 15 14,dX 16 4,bQ 17 16,DC 18 15 17,ai 6 18])
 (.ret))
 (.seq (.an [DD 20 10,ai 19 20])
 (.cond (.t 19)
 (.seq (.an [dX 21 5,bQ 22 21,ai 23 0,se 24 4,bQ 25 24,DE 26 23 25,⟨some 27,.ph 2 (.t 26),none,[26]⟩,⟨some 28,.bin (.int .neq) (.t 22) (.t 27),none,[22,27]⟩])
 (.cond (.t 28)
 (.seq (.an [ec 6])
 (.ret))
 (.skip)))
 (.skip)))))))
 (.seq (.seq (.an [o0 29 4,bQ 30 29,ez 31 30,df 32])
 (.block 1 (.loop II)))
 (.seq (.an [t_ 6])
 (.ret))))
theorem aaK:dm 54 47 Tryz.f54 PJ [.t 6]:=⟨Tryz.func54,by kernel_rfl⟩
def PM:a1:=
 .seq (.an [hD 2 0,df 3])
 (.seq (.an [bQ 4 1,Az 5 2,⟨some 6,.hS 1 7 [(.int .i64 0),(.int .i64 0),.bj,(.bool false),(.int .i64 0),(.int .i64 0),(.int .i64 0)] [(0,7,(.t 5))],none,[5]⟩,⟨some 7,.app 7 (.t 4) (.t 6),none,[4,6]⟩,⟨none,.st 1 (.t 1) (.t 7),none,[1,7]⟩])
 (.seq (.an [bQ 8 1,ez 9 8,⟨some 10,.bin (.int .sub) (.t 9) (.c (.int .i64 1)),none,[9]⟩,ai 3 10])
 (.ret)))
theorem aaM:dm 55 11 Tryz.f55 PM [.t 3]:=⟨Tryz.func55,by kernel_rfl⟩
def PO:a1:=
 .seq (.an [f_ 8 7 6])
 (.seq (.cond (.t 8)
 (.skip)
 (.exit 0))
 (.seq (.block 1 (.seq (.an [ai 9 7,Ay 10 5 7,Az 11 10,HK 4,ai 3 9,⟨none,.st 7 (.t 4) (.t 11),none,[4,11]⟩])
 (.seq (.an [e5 12 4,bQ 13 12])
 (.block 2 (.seq (.an [tZ 15 13,ai 14 15])
 (.cond (.t 14)
 (.seq (.an [⟨some 16,.dZ 5 (.t 4),none,[4]⟩,bQ 17 16,ai 18 3,⟨some 19,.bin (.int .leq) (.t 17) (.t 18),none,[17,18]⟩,ai 20 19,Dw 21 4 20,hR 22 21 20,gP 23 3 20,⟨some 24,.bin (.int .leq) (.t 22) (.t 23),(some (20,false)),[22,23,20]⟩,fG 25 20 24,ai 26 25,Dy 27 4 26,hR 28 27 26,gP 29 0 26,oZ 30 29 26,xR 31 28 30 26,fG 32 26 31,ai 33 32,Dw 34 4 33,hR 35 34 33,gP 36 0 33,oZ 37 36 33,xR 38 35 37 33,fG 39 33 38])
 (.cond (.t 39)
 (.seq (.an [ec 2])
 (.ret))
 (.skip)))
 (.seq (.seq (.an [xS 41 13,ai 40 41])
 (.cond (.t 40)
 (.skip)
 (.an [xT 42 13,ai 40 42])))
 (.cond (.t 40)
 (.skip)
 (.seq (.an [ec 2])
 (.ret))))))))))
 (.an [eY 43 7,ai 7 43])))
def PN:a1:=
 .seq (.an [ec 2])
 (.seq (.seq (.an [ai 5 0,ez 6 5,df 7])
 (.block 0 (.loop PO)))
 (.seq (.an [ai 44 0,ez 45 44,⟨some 46,.bin (.int .gtr) (.t 45) (.c (.int .i64 0)),none,[45]⟩,ai 2 46])
 (.ret)))
theorem aaN:dm 56 47 Tryz.f56 PN [.t 2]:=⟨Tryz.func56,by kernel_rfl⟩
def PR:a1:=
 .seq (.an [f_ 40 39 38])
 (.seq (.cond (.t 40)
 (.skip)
 (.exit 1))
 (.seq (.block 2 (.seq (.an [AB 41 37 39,kK 42 41,AE 4,⟨none,.st 3 (.t 4) (.t 42),none,[4,42]⟩])
 (.seq (.an [kK 43 4,⟨some 44,.call 57 [(.t 43)],none,[43]⟩,mx 45 44])
 (.cond (.t 45)
 (.seq (.an [ec 2])
 (.ret))
 (.skip)))))
 (.an [eY 46 39,ai 39 46])))
def PQ:a1:=
 .seq (.an [hD 1 0,ec 2])
 (.seq (.seq (.an [e5 5 1,bQ 6 5])
 (.block 0 (.seq (.an [tZ 8 6,ai 7 8])
 (.cond (.t 7)
 (.seq (.an [dX 9 1,bQ 10 9,⟨some 11,.bin (.int .geq) (.t 10) (.c (.int .i64 (-1073741824))),none,[10]⟩,ai 12 11,vL 13 1 12,hC 14 13 12,⟨some 15,.bin (.int .leq) (.t 14) (.c (.int .i64 1073741823)),(some (12,true)),[14,12]⟩,dV 16 12 15,ai 17 16,sf 18 1 17,hC 19 18 17,q4 20 19 17,mw 21 20 17,dV 22 17 21,ai 2 22])
 (.ret))
 (.seq (.an [xT 24 6,ai 23 24])
 (.cond (.t 23)
 (.seq (.an [dX 25 1,bQ 26 25,AG 27 26,ai 28 27,sf 29 1 28,hC 30 29 28,q4 31 30 28,mw 32 31 28,dV 33 28 32,ai 2 33])
 (.ret))
 (.seq (.an [xS 35 6,ai 34 35])
 (.cond (.t 34)
 (.seq (.seq (.an [h' 36 1,bQ 37 36,ez 38 37,df 39])
 (.block 1 (.loop PR)))
 (.seq (.an [dX 47 1,bQ 48 47,DF 49 48,ai 50 49,vL 51 1 50,hC 52 51 50,⟨some 53,.bin (.int .leq) (.t 52) (.c (.int .i64 1048575)),(some (50,true)),[52,50]⟩,dV 54 50 53,ai 2 54])
 (.ret)))
 (.skip)))))))))
 (.seq (.an [ec 2])
 (.ret)))
theorem aaO:dm 57 55 Tryz.f57 PQ [.t 2]:=⟨Tryz.func57,by kernel_rfl⟩
def PT:a1:=
 .seq (.an [f_ 11 10 9])
 (.seq (.cond (.t 11)
 (.skip)
 (.exit 0))
 (.seq (.block 1 (.seq (.an [sd 12 8 10,bQ 13 12,ai 7 13])
 (.seq (.seq (.an [ai 14 7,HM 15 14,ai 16 15,gP 17 7 16,⟨some 18,.dZ 2 (.t 2),(some (16,false)),[2,16]⟩,hR 19 18 16,oZ 20 19 16,xR 21 17 20 16,fG 22 16 21])
 (.cond (.t 22)
 (.seq (.an [⟨some 23,.build [(.int .i64 0),(.int .i64 0),.bj] [],none,[]⟩,⟨none,.st 3 (.t 4) (.t 23),none,[4,23]⟩,ec 5])
 (.ret))
 (.skip)))
 (.an [h' 24 2,bQ 25 24,ai 26 7,AB 27 25 26,kK 28 27,⟨none,.st 3 (.t 2) (.t 28),none,[2,28]⟩]))))
 (.an [eY 29 10,ai 10 29])))
def PS:a1:=
 .seq (.an [hD 2 0,AE 4,ec 5])
 (.seq (.seq (.an [ai 8 1,ez 9 8,df 10])
 (.block 0 (.loop PT)))
 (.seq (.an [kK 30 2,⟨none,.st 3 (.t 4) (.t 30),none,[4,30]⟩,t_ 5])
 (.ret)))
theorem aaP:dm 58 31 Tryz.f58 PS [.iQ 4 3,.t 5]:=⟨Tryz.func58,by kernel_rfl⟩
def PV:a1:=
 .seq (.an [⟨some 75,.mj (.t 74),none,[74]⟩,hA 76 75])
 (.seq (.cond (.t 76)
 (.skip)
 (.exit 1))
 (.block 2 (.seq (.an [⟨some 77,.wc (.t 74),none,[74]⟩,hB 78 77,xU 9,⟨none,.st 5 (.t 9) (.t 78),none,[9,78]⟩])
 (.seq (.an [dX 79 9,bQ 80 79,dX 81 7,bQ 82 81,DG 83 80 82,ai 84 83,sf 85 9 84,hC 86 85 84,vL 87 5 84,hC 88 87 84,DB 89 86 88 84,dV 90 84 89,ai 91 90,DH 92 9 91,hC 93 92 91,q4 94 93 91,sf 95 5 91,hC 96 95 91,q4 97 96 91,⟨some 98,.bin (.int .neq) (.t 94) (.t 97),(some (91,true)),[94,97,91]⟩,dV 99 91 98])
 (.cond (.t 99)
 (.seq (.an [ec 6])
 (.ret))
 (.skip))))))
def PU:a1:=
 .seq (.an [hD 4 1,hD 5 2,ec 6])
 (.seq (.seq (.an [e5 10 4,bQ 11 10])
 (.block 0 (.seq (.an [HN 13 11,ai 12 13])
 (.cond (.t 12)
 (.seq (.an [e5 14 5,bQ 15 14,tZ 16 15,ai 6 16])
 (.ret))
 (.seq (.seq (.an [⟨some 18,.bin (.int .eql) (.t 11) (.c (.int .i64 13)),none,[11]⟩,ai 17 18])
 (.cond (.t 17)
 (.skip)
 (.an [HO 19 11,ai 17 19])))
 (.cond (.t 17)
 (.seq (.an [e5 20 5,bQ 21 20,xS 22 21,ai 23 22,sf 24 5 23,hC 25 24 23,q4 26 25 23,mw 27 26 23,dV 28 23 27,ai 6 28])
 (.ret))
 (.seq (.an [⟨some 30,.bin (.int .eql) (.t 11) (.c (.int .i64 15)),none,[11]⟩,ai 29 30])
 (.cond (.t 29)
 (.seq (.draw [e5 31 5,bQ 32 31,xS 33 32,ai 34 33,sf 35 5 34,hC 36 35 34,q4 37 36 34,⟨some 38,.bin (.int .eql) (.t 37) (.c (.int .i64 2)),(some (34,true)),[37,34]⟩,dV 39 34 38,ai 40 39,dw 41 0 40,DH 42 4 40,hC 43 42 40,⟨some 44,.cd 5 (.t 43) (.c (.int .i64 0)),(some (40,true)),[43,40]⟩,⟨some 45,.fL 5 (.t 44),(some (40,true)),[44,40]⟩,sf 46 5 40,hC 47 46 40,⟨some 48,.cd 3 (.t 47) (.c (.int .i64 0)),(some (40,true)),[47,40]⟩,⟨some 49,.fL 3 (.t 48),(some (40,true)),[48,40]⟩,⟨some 50,.call 59 [(.t 41),(.t 45),(.t 49)],(some (40,true)),[41,45,49,40]⟩,dV 51 40 50,ai 52 51,dw 53 0 52,DH 54 4 52,hC 55 54 52,⟨some 56,.cd 5 (.t 55) (.c (.int .i64 1)),(some (52,true)),[55,52]⟩,⟨some 57,.fL 5 (.t 56),(some (52,true)),[56,52]⟩,sf 58 5 52,hC 59 58 52,⟨some 60,.cd 3 (.t 59) (.c (.int .i64 1)),(some (52,true)),[59,52]⟩,⟨some 61,.fL 3 (.t 60),(some (52,true)),[60,52]⟩,⟨some 62,.call 59 [(.t 53),(.t 57),(.t 61)],(some (52,true)),[53,57,61,52]⟩,dV 63 52 62,ai 6 63] [(1,[19]),(5,[19]),(12,[19]),(14,[19]),(16,[19]),(18,[19]),(24,[31]),(26,[31]),(28,[31]),(30,[31])])
 (.ret))
 (.seq (.an [DD 65 11,ai 64 65])
 (.cond (.t 64)
 (.seq (.an [ai 66 0,se 67 4,bQ 68 67,DE 69 66 68,xU 7,⟨none,.st 5 (.t 7) (.t 69),none,[7,69]⟩])
 (.seq (.seq (.an [e5 70 5,bQ 71 70,⟨some 72,.bin (.int .neq) (.t 71) (.c (.int .i64 2)),none,[71]⟩])
 (.cond (.t 72)
 (.seq (.an [ec 6])
 (.ret))
 (.skip)))
 (.seq (.seq (.an [ai 73 0,⟨some 74,.xx (.t 73),none,[73]⟩])
 (.block 1 (.loop PV)))
 (.seq (.an [dX 100 5,bQ 101 100,h' 102 7,bQ 103 102,DC 104 101 103,ai 105 104,DH 106 4 105,hC 107 106 105,q4 108 107 105,HP 109 108 105,dV 110 105 109])
 (.cond (.t 110)
 (.seq (.draw [ai 111 0,o0 112 4,bQ 113 112,⟨some 114,.cd 5 (.t 113) (.c (.int .i64 0)),none,[113]⟩,fo 115 114,h' 116 5,bQ 117 116,⟨some 118,.cd 3 (.t 117) (.c (.int .i64 0)),none,[117]⟩,kK 119 118,⟨some 120,.call 59 [(.t 111),(.t 115),(.t 119)],none,[111,115,119]⟩,ai 6 120] [(2,[9]),(4,[9]),(6,[9]),(8,[9])])
 (.ret))
 (.skip))))))
 (.skip)))))))))))
 (.seq (.an [t_ 6])
 (.ret)))
theorem aaQ:dm 59 121 Tryz.f59 PU [.t 6]:=⟨Tryz.func59,by kernel_rfl⟩
def PX:a1:=
 .seq (.seq (.an [ai 7 6,ai 8 0,ez 9 8,f_ 10 7 9,ai 11 10,dw 12 5 11,dw 13 1 11,Dv 14 12 13 11,dV 15 11 14])
 (.cond (.t 15)
 (.skip)
 (.exit 0)))
 (.seq (.block 1 (.seq (.an [ai 18 5,eY 19 18,ai 20 0,ai 21 6,kJ 22 20 21,se 23 22,bQ 24 23,my 25 24,⟨some 26,.bin (.int .quo) (.t 25) (.c (.int .i64 100)),none,[25]⟩,vK 27 19 26,ai 5 27])
 (.an [ai 28 5,ai 29 0,ai 30 6,kJ 31 29 30,o0 32 31,bQ 33 32,ai 34 1,ai 35 5,xW 36 34 35,⟨some 37,.call 60 [(.t 33),(.t 36)],none,[33,36]⟩,vK 38 28 37,ai 5 38])))
 (.an [ai 16 6,eY 17 16,ai 6 17]))
def PW:a1:=
 .seq (.an [df 4])
 (.seq (.an [df 5])
 (.seq (.seq (.an [df 6])
 (.block 0 (.loop PX)))
 (.seq (.an [ai 39 5,ai 4 39])
 (.ret))))
theorem aaS:dm 60 40 Tryz.f60 PW [.t 4]:=⟨Tryz.func60,by kernel_rfl⟩
def PZ:a1:=
 .seq (.seq (.an [ai 7 6,h' 8 2,bQ 9 8,ez 10 9,f_ 11 7 10,ai 12 11,dw 13 5 12,dw 14 1 12,Dv 15 13 14 12,dV 16 12 15])
 (.cond (.t 16)
 (.skip)
 (.exit 0)))
 (.seq (.block 1 (.an [ai 19 5,h' 20 2,bQ 21 20,ai 22 6,AB 23 21 22,kK 24 23,ai 25 1,ai 26 5,xW 27 25 26,⟨some 28,.call 61 [(.t 24),(.t 27)],none,[24,27]⟩,vK 29 19 28,ai 5 29]))
 (.an [ai 17 6,eY 18 17,ai 6 18]))
def PY:a1:=
 .seq (.an [hD 2 0,df 4])
 (.seq (.an [⟨some 5,.cO (.c (.int .i64 1)),none,[]⟩])
 (.seq (.seq (.an [df 6])
 (.block 0 (.loop PZ)))
 (.seq (.an [ai 30 5,ai 4 30])
 (.ret))))
theorem aaT:dm 61 31 Tryz.f61 PY [.t 4]:=⟨Tryz.func61,by kernel_rfl⟩
def IJ:a1:=
 .seq (.an [f_ 48 47 46])
 (.seq (.cond (.t 48)
 (.skip)
 (.exit 1))
 (.seq (.block 2 (.seq (.an [ai 49 47,kJ 50 45 47,fo 51 50,l0 9,ai 8 49,⟨none,.st 5 (.t 9) (.t 51),none,[9,51]⟩])
 (.draw [bQ 52 4,fo 53 9,ai 54 1,ai 55 8,⟨some 56,.call 39 [(.t 54),(.t 55)],none,[54,55]⟩,⟨some 57,.l3 (.t 52) [(.t 53),(.t 56)],none,[52,53,56]⟩] [(0,[4,5]),(1,[4,5])])))
 (.an [eY 58 47,ai 47 58])))
def P0:a1:=
 .seq (.an [hD 5 0])
 (.seq (.an [ai 10 1,⟨some 11,.app 1 (.c .bj) (.t 10),none,[10]⟩,ai 7 11])
 (.seq (.seq (.an [e5 12 5,bQ 13 12])
 (.block 0 (.seq (.an [HN 15 13,ai 14 15])
 (.cond (.t 14)
 (.an [bQ 16 2,ai 17 7,dX 18 5,bQ 19 18,⟨some 20,.build [.bj,(.bool false),(.int .i64 0)] [(0,1,(.t 17)),(1,1,(.c (.bool true))),(2,1,(.t 19))],none,[17,19]⟩,HQ 21 20,⟨some 22,.app 3 (.t 16) (.t 21),none,[16,21]⟩,⟨none,.st 1 (.t 2) (.t 22),none,[2,22]⟩])
 (.seq (.an [HO 24 13,ai 23 24])
 (.cond (.t 23)
 (.an [bQ 25 2,ai 26 7,dX 27 5,bQ 28 27,NI 29 26 28,HQ 30 29,⟨some 31,.app 3 (.t 25) (.t 30),none,[25,30]⟩,⟨none,.st 1 (.t 2) (.t 31),none,[2,31]⟩])
 (.seq (.an [DD 33 13,ai 32 33])
 (.cond (.t 32)
 (.an [bQ 34 2,ai 35 7,bQ 36 3,se 37 5,bQ 38 37,DE 39 36 38,⟨some 40,.ph 2 (.t 39),none,[39]⟩,NI 41 35 40,HQ 42 41,⟨some 43,.app 3 (.t 34) (.t 42),none,[34,42]⟩,⟨none,.st 1 (.t 2) (.t 43),none,[2,43]⟩])
 (.skip)))))))))
 (.seq (.an [o0 44 5,bQ 45 44,ez 46 45,df 47])
 (.block 1 (.loop IJ)))))
theorem aaU:dm 62 59 Tryz.f62 P0 []:=⟨Tryz.func62,by kernel_rfl⟩
def P4:a1:=
 .seq (.an [f_ 12 11 10])
 (.seq (.cond (.t 12)
 (.skip)
 (.exit 0))
 (.seq (.block 1 (.seq (.an [kJ 13 9 11,fo 14 13,l0 5,⟨none,.st 5 (.t 5) (.t 14),none,[5,14]⟩])
 (.seq (.an [e5 15 5,bQ 16 15,⟨some 17,.call 96 [(.t 16)],none,[16]⟩,⟨some 18,.bin (.int .neq) (.t 17) (.c (.int .i64 7)),none,[17]⟩,ai 19 18,gP 20 3 19,⟨some 21,.fL 5 (.t 5),(some (19,false)),[5,19]⟩,⟨some 22,.call 97 [(.t 20),(.t 21)],(some (19,false)),[20,21,19]⟩,AF 23 22 19,fG 24 19 23])
 (.cond (.t 24)
 (.seq (.an [pQ 2])
 (.ret))
 (.skip)))))
 (.an [eY 25 11,ai 11 25])))
def P5:a1:=
 .seq (.an [f_ 29 28 27])
 (.seq (.cond (.t 29)
 (.skip)
 (.exit 2))
 (.seq (.block 3 (.seq (.an [kJ 30 26 28,fo 31 30,l0 7,⟨none,.st 5 (.t 7) (.t 31),none,[7,31]⟩])
 (.seq (.an [fo 32 7,⟨some 33,.call 98 [(.t 32)],none,[32]⟩,⟨some 34,.bin (.int .gtr) (.t 33) (.c (.int .i64 200)),none,[33]⟩])
 (.cond (.t 34)
 (.seq (.an [⟨some 2,.cO (.c (.int .i64 260)),none,[]⟩])
 (.ret))
 (.skip)))))
 (.an [eY 35 28,ai 28 35])))
def P3:a1:=
 .seq (.an [df 2])
 (.seq (.an [⟨some 8,.call 95 [],none,[]⟩,ai 3 8])
 (.seq (.seq (.an [ai 9 0,ez 10 9,df 11])
 (.block 0 (.loop P4)))
 (.seq (.seq (.an [ai 26 0,ez 27 26,df 28])
 (.block 2 (.loop P5)))
 (.seq (.an [df 2])
 (.ret)))))
theorem aaW:dm 65 36 Tryz.f65 P3 [.t 2]:=⟨Tryz.func65,by kernel_rfl⟩
def P9:a1:=
 .seq (.an [f_ 19 18 17])
 (.seq (.cond (.t 19)
 (.skip)
 (.exit 0))
 (.seq (.block 1 (.seq (.an [kJ 20 16 18,fo 21 20,xU 7,⟨none,.st 5 (.t 7) (.t 21),none,[7,21]⟩])
 (.seq (.draw [ai 23 4,dQ 24 23,e5 25 24,bQ 26 25,e5 27 7,bQ 28 27,NJ 29 26 28,ai 22 29,hA 30 22,hB 31 22,xU 8,⟨none,.st 5 (.t 8) (.t 30),none,[8,30]⟩,ai 9 31] [(3,[11]),(5,[11]),(6,[11])])
 (.seq (.an [dX 32 7,bQ 33 32,h' 34 7,bQ 35 34,⟨some 36,.build [(.str []),(.int .i64 0)] [(0,1,(.t 33)),(1,1,(.t 35))],none,[33,35]⟩,⟨some 10,.new [(.str []),(.int .i64 0)],none,[]⟩,⟨none,.st 2 (.t 10) (.t 36),none,[10,36]⟩])
 (.seq (.seq (.an [ai 37 9,ai 38 37,gP 39 5 38,⟨some 40,.fL 2 (.t 10),(some (38,false)),[10,38]⟩,⟨some 41,.looks 152 (.bool false) false (.t 39) (.t 40),(some (38,false)),[39,40,38]⟩,fG 42 38 41,ai 43 42,⟨some 44,.dZ 4 (.t 7),(some (43,false)),[7,43]⟩,hR 45 44 43,oZ 46 45 43,⟨some 47,.bin (.int .gtr) (.t 46) (.c (.int .i64 1)),(some (43,false)),[46,43]⟩,fG 48 43 47,ai 49 48,AA 50 7 49,hR 51 50 49,⟨some 52,.build [(.int .i64 0),(.int .i64 0),(.int .i64 0),(.str []),.bj] [(0,1,(.c (.int .i64 16))),(3,1,(.t 51))],(some (49,false)),[51,49]⟩,⟨some 53,.call 37 [(.t 52)],(some (49,false)),[52,49]⟩,AF 54 53 49,fG 55 49 54])
 (.cond (.t 55)
 (.seq (.an [xV 2,ec 3])
 (.ret))
 (.skip)))
 (.seq (.an [ai 56 5,⟨some 57,.fL 2 (.t 10),none,[10]⟩,⟨none,.z_ 152 (.t 56) (.t 57) (.c (.bool true)),none,[56,57]⟩])
 (.draw [ai 58 4,dQ 59 58,e5 60 59,bQ 61 60,e5 62 7,bQ 63 62,fo 64 7,⟨none,.pN .str (.t 61) (.t 63) (.t 64),none,[61,63,64]⟩] [(3,[7]),(5,[7]),(6,[7])])))))))
 (.an [eY 65 18,ai 18 65])))
def P8:a1:=
 .seq (.an [xV 2,ec 3])
 (.seq (.an [⟨some 11,.tn none,none,[]⟩,ai 12 0,⟨some 13,.build [.j7,.bj] [(0,1,(.t 11)),(1,1,(.t 12))],none,[11,12]⟩,hD 14 13,ai 4 14])
 (.seq (.an [⟨some 15,.tn none,none,[]⟩,ai 5 15])
 (.seq (.seq (.an [ai 16 0,ez 17 16,df 18])
 (.block 0 (.loop P9)))
 (.seq (.an [ai 66 4,ai 2 66,t_ 3])
 (.ret)))))
theorem aaY:dm 70 67 Tryz.f70 P8 [.t 2,.t 3]:=⟨Tryz.func70,by kernel_rfl⟩
def P_:a1:=
 .seq (.an [f_ 25 24 23])
 (.seq (.cond (.t 25)
 (.skip)
 (.exit 0))
 (.seq (.block 1 (.seq (.an [kJ 26 22 24,fo 27 26,l0 7,⟨none,.st 5 (.t 7) (.t 27),none,[7,27]⟩])
 (.seq (.an [fo 28 7,⟨some 29,.call 72 [(.t 28)],none,[28]⟩,mx 30 29])
 (.cond (.t 30)
 (.an [ai 31 5,fo 32 7,t' 33 32,⟨some 34,.app 5 (.t 31) (.t 33),none,[31,33]⟩,ai 5 34])
 (.skip)))))
 (.an [eY 35 24,ai 24 35])))
def IK:a1:=
 .seq (.seq (.draw [ai 95 10,AH 96 15,HR 97 95 96,ez 98 97,o0 99 12,bQ 100 99,ez 101 100,f_ 102 98 101] [])
 (.cond (.t 102)
 (.skip)
 (.exit 4)))
 (.block 5 (.an [ai 103 10,AH 104 15,⟨some 106,.hS 1 1 [.bj] [(0,1,(.c .bj))],none,[]⟩,⟨some 107,.zm 111 .bj (.t 103) (.t 104),none,[103,104]⟩,hA 105 107,AD 108 105 106,hB 109 107,⟨none,.yr (.t 103) (.t 109) (.t 108),none,[103,109,108]⟩]))
def IL:a1:=
 .seq (.an [f_ 114 113 112])
 (.seq (.cond (.t 114)
 (.skip)
 (.exit 6))
 (.seq (.block 7 (.seq (.an [ai 115 113,kJ 116 111 113,fo 117 116,l0 17,ai 16 115,⟨none,.st 5 (.t 17) (.t 117),none,[17,117]⟩])
 (.draw [ai 118 10,AH 119 15,HR 120 118 119,ai 121 16,ai 122 10,AH 123 15,HR 124 122 123,ai 125 16,sd 126 124 125,bQ 127 126,fo 128 17,t' 129 128,⟨some 130,.app 5 (.t 127) (.t 129),none,[127,129]⟩,sd 131 120 121,⟨none,.st 1 (.t 131) (.t 130),none,[131,130]⟩] [(1,[12,14]),(2,[12,14]),(5,[12]),(6,[12]),(9,[12]),(10,[12])])))
 (.an [eY 132 113,ai 113 132])))
def Qa:a1:=
 .seq (.an [f_ 57 56 55])
 (.seq (.cond (.t 57)
 (.skip)
 (.exit 2))
 (.seq (.block 3 (.seq (.an [kJ 58 54 56,fo 59 58,l0 12,⟨none,.st 5 (.t 12) (.t 59),none,[12,59]⟩])
 (.seq (.seq (.an [e5 60 12,bQ 61 60,ai 62 8,⟨some 63,.bin (.int .neq) (.t 61) (.t 62),none,[61,62]⟩])
 (.cond (.t 63)
 (.seq (.an [ec 4])
 (.ret))
 (.skip)))
 (.seq (.seq (.an [ai 64 8,DD 65 64])
 (.cond (.t 65)
 (.seq (.draw [ai 67 0,dQ 68 67,e5 69 68,bQ 70 69,se 71 12,bQ 72 71,NJ 73 70 72,ai 66 73,hA 74 66,hB 75 66,xU 13,⟨none,.st 5 (.t 13) (.t 74),none,[13,74]⟩,ai 14 75] [(3,[11]),(5,[11]),(6,[11])])
 (.seq (.an [ai 76 14,mx 77 76,ai 78 77,Dz 79 13 78,hR 80 79 78,gP 81 9 78,⟨some 82,.bin (.str .neq) (.t 80) (.t 81),(some (78,false)),[80,81,78]⟩,fG 83 78 82,ai 84 83,⟨some 85,.dZ 4 (.t 13),(some (84,false)),[13,84]⟩,hR 86 85 84,oZ 87 86 84,⟨some 88,.dZ 4 (.t 12),(some (84,false)),[12,84]⟩,hR 89 88 84,oZ 90 89 84,⟨some 91,.bin (.int .neq) (.t 87) (.t 90),(some (84,false)),[87,90,84]⟩,fG 92 84 91])
 (.cond (.t 92)
 (.seq (.an [ec 4])
 (.ret))
 (.skip))))
 (.skip)))
 (.seq (.an [fo 93 12,⟨some 94,.call 73 [(.t 93)],none,[93]⟩,⟨some 15,.new [(.int .i64 0),(.int .i64 0),(.str []),(.int .i64 0)],none,[]⟩,⟨none,.st 4 (.t 15) (.t 94),none,[15,94]⟩])
 (.seq (.block 4 (.loop IK))
 (.seq (.an [o0 110 12,bQ 111 110,ez 112 111,df 113])
 (.block 6 (.loop IL)))))))))
 (.an [eY 133 56,ai 56 133])))
def Qb:a1:=
 .seq (.an [f_ 143 142 141])
 (.seq (.cond (.t 143)
 (.skip)
 (.exit 10))
 (.seq (.block 11 (.seq (.an [sd 144 140 142,bQ 145 144,ai 21 145])
 (.seq (.an [ai 146 0,ai 147 21,⟨some 148,.call 71 [(.t 146),(.t 147)],none,[146,147]⟩,mx 149 148])
 (.cond (.t 149)
 (.seq (.an [ec 4])
 (.ret))
 (.skip)))))
 (.an [eY 150 142,ai 142 150])))
def Qc:a1:=
 .seq (.an [⟨some 136,.mj (.t 135),none,[135]⟩,hA 137 136])
 (.seq (.cond (.t 137)
 (.skip)
 (.exit 8))
 (.block 9 (.seq (.an [⟨some 138,.wc (.t 135),none,[135]⟩,hB 139 138,ai 19 139])
 (.seq (.an [ai 140 19,ez 141 140,df 142])
 (.block 10 (.loop Qb))))))
def P':a1:=
 .seq (.an [ec 4])
 (.seq (.an [lp 5])
 (.seq (.seq (.an [ai 22 1,ez 23 22,df 24])
 (.block 0 (.loop P_)))
 (.seq (.seq (.an [ai 36 5,ez 37 36,AG 38 37])
 (.cond (.t 38)
 (.seq (.an [t_ 4])
 (.ret))
 (.skip)))
 (.seq (.draw [ai 39 5,⟨some 40,.cd 5 (.t 39) (.c (.int .i64 0)),none,[39]⟩,e5 41 40,bQ 42 41,ai 43 0,dQ 44 43,e5 45 44,bQ 46 45,ai 47 5,⟨some 48,.cd 5 (.t 47) (.c (.int .i64 0)),none,[47]⟩,se 49 48,bQ 50 49,DE 51 46 50,⟨some 52,.ph 1 (.t 51),none,[51]⟩,ai 8 42,ai 9 52] [])
 (.seq (.an [⟨some 53,.tn none,none,[]⟩,ai 10 53])
 (.seq (.seq (.an [ai 54 5,ez 55 54,df 56])
 (.block 2 (.loop Qa)))
 (.seq (.seq (.an [ai 134 10,⟨some 135,.xx (.t 134),none,[134]⟩])
 (.block 8 (.loop Qc)))
 (.seq (.an [t_ 4])
 (.ret)))))))))
theorem aaZ:dm 71 151 Tryz.f71 P' [.t 4]:=⟨Tryz.func71,by kernel_rfl⟩
def Qf:a1:=
 .seq (.an [hD 1 0,ec 2])
 (.seq (.an [e5 3 1,bQ 4 3,⟨some 5,.bin (.int .eql) (.t 4) (.c (.int .i64 10)),none,[4]⟩,ai 6 5,AA 7 1 6,hR 8 7 6,⟨some 9,.bin (.int .eql) (.t 8) (.c (.int .i64 11)),(some (6,false)),[8,6]⟩,fG 10 6 9,ai 2 10])
 (.ret))
theorem aa1:dm 72 11 Tryz.f72 Qf [.t 2]:=⟨Tryz.func72,by kernel_rfl⟩
def Qg:a1:=
 .seq (.an [hD 1 0,⟨some 2,.new [(.int .i64 0),(.int .i64 0),(.str []),(.int .i64 0)],none,[]⟩])
 (.seq (.an [e5 3 1,bQ 4 3,dX 5 1,bQ 6 5,se 7 1,bQ 8 7,o0 9 1,bQ 10 9,ez 11 10,⟨some 12,.build [(.int .i64 0),(.int .i64 0),(.str []),(.int .i64 0)] [(0,1,(.t 4)),(1,1,(.t 6)),(2,1,(.t 8)),(3,1,(.t 11))],none,[4,6,8,11]⟩,⟨none,.st 4 (.t 2) (.t 12),none,[2,12]⟩])
 (.ret))
theorem aa2:dm 73 13 Tryz.f73 Qg [.iQ 2 4]:=⟨Tryz.func73,by kernel_rfl⟩
def Qj:a1:=
 .seq (.an [df 2])
 (.seq (.block 0 (.seq (.an [ai 4 0,⟨some 5,.bin (.int .geq) (.t 4) (.c (.int .i64 1)),none,[4]⟩,ai 6 5,dw 7 0 6,⟨some 8,.bin (.int .leq) (.t 7) (.c (.int .i64 4)),(some (6,true)),[7,6]⟩,dV 9 6 8,ai 3 9])
 (.cond (.t 3)
 (.seq (.an [⟨some 2,.cO (.c (.int .i64 1)),none,[]⟩])
 (.ret))
 (.seq (.an [ai 11 0,⟨some 12,.bin (.int .geq) (.t 11) (.c (.int .i64 10)),none,[11]⟩,ai 13 12,dw 14 0 13,⟨some 15,.bin (.int .leq) (.t 14) (.c (.int .i64 16)),(some (13,true)),[14,13]⟩,dV 16 13 15,ai 10 16])
 (.cond (.t 10)
 (.seq (.an [pQ 2])
 (.ret))
 (.seq (.an [ai 18 0,⟨some 19,.bin (.int .geq) (.t 18) (.c (.int .i64 20)),none,[18]⟩,ai 20 19,dw 21 0 20,⟨some 22,.bin (.int .leq) (.t 21) (.c (.int .i64 39)),(some (20,true)),[21,20]⟩,dV 23 20 22,ai 17 23])
 (.cond (.t 17)
 (.seq (.an [⟨some 2,.cO (.c (.int .i64 3)),none,[]⟩])
 (.ret))
 (.seq (.an [ai 25 0,⟨some 26,.bin (.int .eql) (.t 25) (.c (.int .i64 45)),none,[25]⟩,ai 24 26])
 (.cond (.t 24)
 (.seq (.an [⟨some 2,.cO (.c (.int .i64 4)),none,[]⟩])
 (.ret))
 (.seq (.an [ai 28 0,⟨some 29,.bin (.int .eql) (.t 28) (.c (.int .i64 46)),none,[28]⟩,ai 27 29])
 (.cond (.t 27)
 (.seq (.an [⟨some 2,.cO (.c (.int .i64 5)),none,[]⟩])
 (.ret))
 (.seq (.an [ai 31 0,⟨some 32,.bin (.int .eql) (.t 31) (.c (.int .i64 47)),none,[31]⟩,ai 30 32])
 (.cond (.t 30)
 (.seq (.an [⟨some 2,.cO (.c (.int .i64 6)),none,[]⟩])
 (.ret))
 (.seq (.an [ai 34 0,⟨some 35,.bin (.int .geq) (.t 34) (.c (.int .i64 50)),none,[34]⟩,ai 36 35,dw 37 0 36,⟨some 38,.bin (.int .leq) (.t 37) (.c (.int .i64 53)),(some (36,true)),[37,36]⟩,dV 39 36 38,ai 33 39])
 (.cond (.t 33)
 (.seq (.an [⟨some 2,.cO (.c (.int .i64 7)),none,[]⟩])
 (.ret))
 (.skip))))))))))))))))
 (.seq (.an [df 2])
 (.ret)))
theorem aa4:dm 96 40 Tryz.f96 Qj [.t 2]:=⟨Tryz.func96,by kernel_rfl⟩
def Ql:a1:=
 .seq (.an [f_ 88 87 86])
 (.seq (.cond (.t 88)
 (.skip)
 (.exit 0))
 (.seq (.block 1 (.seq (.an [ai 89 87,kJ 90 85 87,fo 91 90,l0 10,ai 9 89,⟨none,.st 5 (.t 10) (.t 91),none,[10,91]⟩])
 (.seq (.an [dX 92 5,bQ 93 92,ai 11 93])
 (.seq (.block 2 (.seq (.an [ai 95 9,ai 96 7,ez 97 96,f_ 98 95 97,ai 94 98])
 (.cond (.t 94)
 (.an [ai 99 7,ai 100 9,sd 101 99 100,bQ 102 101,ai 11 102])
 (.seq (.an [ai 104 9,ai 105 7,ez 106 105,ai 107 8,vK 108 106 107,AI 109 104 108,ai 103 109])
 (.cond (.t 103)
 (.an [o0 110 5,bQ 111 110,ai 112 9,ai 113 7,ez 114 113,xW 115 112 114,ai 116 8,xW 117 115 116,sd 118 111 117,bQ 119 118,ai 11 119])
 (.skip))))))
 (.seq (.an [fo 120 10,ai 121 11,⟨some 122,.call 103 [(.t 120),(.t 121)],none,[120,121]⟩,mx 123 122,ai 124 123,gP 125 0 124,⟨some 126,.fL 5 (.t 10),(some (124,false)),[10,124]⟩,⟨some 127,.call 97 [(.t 125),(.t 126)],(some (124,false)),[125,126,124]⟩,AF 128 127 124,fG 129 124 128])
 (.cond (.t 129)
 (.seq (.an [ec 4])
 (.ret))
 (.skip)))))))
 (.an [eY 130 87,ai 87 130])))
def Qk:a1:=
 .seq (.an [hD 3 1,ec 4])
 (.seq (.an [ai 13 0,e5 14 3,bQ 15 14,⟨some 16,.look .int (.agg [.bj,(.int .i64 0),(.int .i64 0),(.int .i64 0),.bj,(.int .i64 0),(.int .i64 0),(.int .i64 0)]) true (.t 13) (.t 15),none,[13,15]⟩,ai 12 16,hA 17 12,hB 18 12,⟨some 5,.new [.bj,(.int .i64 0),(.int .i64 0),(.int .i64 0),.bj,(.int .i64 0),(.int .i64 0),(.int .i64 0)],none,[]⟩,⟨none,.st 8 (.t 5) (.t 17),none,[5,17]⟩,ai 6 18])
 (.seq (.seq (.an [ai 19 6,mx 20 19,ai 21 20,Dz 22 3 21,hR 23 22 21,Dy 24 5 21,⟨some 25,.uY 2 1 (.t 24) (.c (.int .i64 0)),(some (21,false)),[24,21]⟩,hR 26 25 21,⟨some 27,.bin (.int .lss) (.t 23) (.t 26),(some (21,false)),[23,26,21]⟩,fG 28 21 27,ai 29 28,Dz 30 3 29,hR 31 30 29,Dy 32 5 29,⟨some 33,.uY 2 1 (.t 32) (.c (.int .i64 1)),(some (29,false)),[32,29]⟩,hR 34 33 29,HL 35 31 34 29,fG 36 29 35,ai 37 36,⟨some 38,.dZ 2 (.t 3),(some (37,false)),[3,37]⟩,hR 39 38 37,⟨some 40,.bin (.int .lss) (.t 39) (.c (.int .i64 0)),(some (37,false)),[39,37]⟩,fG 41 37 40,ai 42 41,⟨some 43,.dZ 2 (.t 3),(some (42,false)),[3,42]⟩,hR 44 43 42,⟨some 45,.bin (.int .gtr) (.t 44) (.c (.int .i64 65536)),(some (42,false)),[44,42]⟩,fG 46 42 45,ai 47 46,⟨some 48,.dZ 7 (.t 5),(some (47,false)),[5,47]⟩,hR 49 48 47,⟨some 50,.dZ 3 (.t 3),(some (47,false)),[3,47]⟩,hR 51 50 47,⟨some 52,.call 101 [(.t 49),(.t 51)],(some (47,false)),[49,51,47]⟩,AF 53 52 47,fG 54 47 53])
 (.cond (.t 54)
 (.seq (.an [ec 4])
 (.ret))
 (.skip)))
 (.seq (.an [e5 55 5,bQ 56 55,ai 7 56])
 (.seq (.seq (.an [e5 57 3,bQ 58 57,⟨some 59,.bin (.int .eql) (.t 58) (.c (.int .i64 50)),none,[58]⟩])
 (.cond (.t 59)
 (.an [⟨some 60,.hS 1 1 [(.int .i64 0)] [(0,1,(.c (.int .i64 8)))],none,[]⟩,dX 61 3,bQ 62 61,⟨some 63,.call 102 [(.t 60),(.t 62)],none,[60,62]⟩,ai 7 63])
 (.skip)))
 (.seq (.an [o0 64 3,bQ 65 64,ez 66 65,ai 67 7,ez 68 67,xW 69 66 68,o0 70 5,bQ 71 70,ez 72 71,xW 73 69 72,ai 8 73])
 (.seq (.seq (.an [ai 74 8,h' 75 5,bQ 76 75,f_ 77 74 76,ai 78 77,gP 79 8 78,⟨some 80,.dZ 3 (.t 5),(some (78,false)),[5,78]⟩,hR 81 80 78,HL 82 79 81 78,fG 83 78 82])
 (.cond (.t 83)
 (.seq (.an [ec 4])
 (.ret))
 (.skip)))
 (.seq (.seq (.an [o0 84 3,bQ 85 84,ez 86 85,df 87])
 (.block 0 (.loop Ql)))
 (.seq (.an [t_ 4])
 (.ret)))))))))
theorem aa5:dm 97 131 Tryz.f97 Qk [.t 4]:=⟨Tryz.func97,by kernel_rfl⟩
def Qn:a1:=
 .seq (.an [f_ 10 9 8])
 (.seq (.cond (.t 10)
 (.skip)
 (.exit 0))
 (.seq (.block 1 (.seq (.an [kJ 11 7 9,fo 12 11,l0 5,⟨none,.st 5 (.t 5) (.t 12),none,[5,12]⟩])
 (.an [ai 13 3,fo 14 5,⟨some 15,.call 98 [(.t 14)],none,[14]⟩,⟨some 16,.en [(.t 13),(.t 15)],none,[13,15]⟩,ai 3 16])))
 (.an [eY 17 9,ai 9 17])))
def Qm:a1:=
 .seq (.an [hD 1 0,df 2])
 (.seq (.an [df 3])
 (.seq (.seq (.an [o0 6 1,bQ 7 6,ez 8 7,df 9])
 (.block 0 (.loop Qn)))
 (.seq (.an [ai 18 3,eY 19 18,ai 2 19])
 (.ret))))
theorem aa6:dm 98 20 Tryz.f98 Qm [.t 2]:=⟨Tryz.func98,by kernel_rfl⟩
def OO:a1:=
 .seq (.an [ec 4])
 (.seq (.seq (.an [ai 5 0])
 (.block 0 (.seq (.an [tZ 7 5,ai 6 7])
 (.cond (.t 6)
 (.seq (.an [ai 8 1,⟨some 9,.call 104 [(.c (.int .i64 3)),(.t 8)],none,[8]⟩,ai 4 9])
 (.ret))
 (.seq (.an [xS 11 5,ai 10 11])
 (.cond (.t 10)
 (.seq (.an [ai 12 1,⟨some 13,.call 104 [(.c (.int .i64 4)),(.t 12)],none,[12]⟩,ai 4 13])
 (.ret))
 (.seq (.an [xT 15 5,ai 14 15])
 (.cond (.t 14)
 (.seq (.an [ai 16 1,⟨some 17,.call 104 [(.c (.int .i64 5)),(.t 16)],none,[16]⟩,ai 4 17])
 (.ret))
 (.seq (.an [⟨some 19,.bin (.int .eql) (.t 5) (.c (.int .i64 4)),none,[5]⟩,ai 18 19])
 (.cond (.t 18)
 (.seq (.an [ai 20 1,my 21 20,⟨some 22,.bin (.int .leq) (.t 21) (.c (.int .i64 4096)),none,[21]⟩,ai 4 22])
 (.ret))
 (.seq (.an [HS 24 5,ai 23 24])
 (.cond (.t 23)
 (.seq (.an [⟨some 25,.hS 8 1 [(.str [])] [(0,1,(.c (.str [43]))),(1,1,(.c (.str [45]))),(2,1,(.c (.str [42]))),(3,1,(.c (.str [47]))),(4,1,(.c (.str [109,111,100]))),(5,1,(.c (.str [61]))),(6,1,(.c (.str [60]))),(7,1,(.c (.str [60,61])))],none,[]⟩,ai 26 1,⟨some 27,.call 105 [(.t 25),(.t 26)],none,[25,26]⟩,ai 4 27])
 (.ret))
 (.skip)))))))))))))
 (.seq (.an [ai 28 1,⟨some 29,.bin (.str .eql) (.t 28) (.c (.str [])),none,[28]⟩,ai 4 29])
 (.ret)))
theorem Z5:dm 101 30 Tryz.f101 OO [.t 4]:=⟨Tryz.func101,by kernel_rfl⟩
def OQ:a1:=
 .seq (.seq (.an [ai 34 8,ai 35 7,ez 36 35,f_ 37 34 36])
 (.cond (.t 37)
 (.skip)
 (.exit 0)))
 (.block 1 (.draw [ai 38 8,ai 39 7,ai 40 8,⟨some 41,.eW 1 (.t 39) (some (.t 40)) none none,none,[39,40]⟩,ai 42 7,ai 43 8,⟨some 44,.eW 1 (.t 42) none (some (.t 43)) none,none,[42,43]⟩,⟨some 45,.copy 1 (.t 41) (.t 44),none,[41,44]⟩,vK 46 38 45,ai 8 46] []))
def OP:a1:=
 .seq (.an [lp 4])
 (.seq (.seq (.an [ai 9 1,HM 10 9])
 (.cond (.t 10)
 (.an [⟨some 11,.tc 9 (.c (.str [99,97,110,110,111,116,32,98,101,32,110,101,103,97,116,105,118,101])),none,[]⟩,⟨none,.bad,none,[11]⟩])
 (.skip)))
 (.seq (.an [ai 13 0,ez 14 13,⟨some 15,.dC (.int .u64) (.t 14),none,[14]⟩,ai 16 1,⟨some 17,.dC (.int .u64) (.t 16),none,[16]⟩,⟨some 18,.call 106 [(.t 15),(.t 17)],none,[15,17]⟩,ai 12 18,hA 19 12,hB 20 12,ai 5 19,ai 6 20])
 (.seq (.seq (.an [ai 21 5,⟨some 22,.bin (.int .gtr) (.t 21) (.c (.int .u64 0)),none,[21]⟩,ai 23 22,gP 24 6 23,⟨some 25,.bin (.int .gtr) (.t 24) (.c (.int .u64 9223372036854775807)),(some (23,false)),[24,23]⟩,fG 26 23 25])
 (.cond (.t 26)
 (.an [⟨some 27,.tc 9 (.c (.str [116,104,101,32,114,101,115,117,108,116,32,111,102,32,40,108,101,110,40,120,41,32,42,32,99,111,117,110,116,41,32,111,118,101,114,102,108,111,119,115])),none,[]⟩,⟨none,.bad,none,[27]⟩])
 (.skip)))
 (.seq (.an [ai 28 6,⟨some 29,.dC (.int .i64) (.t 28),none,[28]⟩,⟨some 30,.zn 1 [(.int .i64 0)] (.t 29) (.t 29),none,[29,29]⟩,ai 7 30])
 (.seq (.an [ai 31 7,ai 32 0,⟨some 33,.copy 1 (.t 31) (.t 32),none,[31,32]⟩,ai 8 33])
 (.seq (.block 0 (.loop OQ))
 (.seq (.an [ai 47 7,ai 4 47])
 (.ret))))))))
theorem Z6:dm 102 48 Tryz.f102 OP [.t 4]:=⟨Tryz.func102,by kernel_rfl⟩
def OR:a1:=
 .seq (.an [hD 2 0,ec 4])
 (.seq (.seq (.an [ai 5 1])
 (.block 0 (.seq (.an [⟨some 7,.bin (.int .eql) (.t 5) (.c (.int .i64 8)),none,[5]⟩,ai 6 7])
 (.cond (.t 6)
 (.seq (.an [e5 8 2,bQ 9 8,tZ 10 9,ai 4 10])
 (.ret))
 (.seq (.an [⟨some 12,.bin (.int .eql) (.t 5) (.c (.int .i64 9)),none,[5]⟩,ai 11 12])
 (.cond (.t 11)
 (.seq (.an [e5 13 2,bQ 14 13,⟨some 15,.bin (.int .eql) (.t 14) (.c (.int .i64 27)),none,[14]⟩,ai 4 15])
 (.ret))
 (.skip)))))))
 (.seq (.an [e5 16 2,bQ 17 16,⟨some 18,.call 96 [(.t 17)],none,[17]⟩,ai 19 1,DC 20 18 19,ai 4 20])
 (.ret)))
theorem Z7:dm 103 21 Tryz.f103 OR [.t 4]:=⟨Tryz.func103,by kernel_rfl⟩
def OS:a1:=
 .seq (.an [ec 4])
 (.seq (.seq (.an [ai 7 1,my 8 7,⟨some 9,.bin (.int .gtr) (.t 8) (.c (.int .i64 64)),none,[8]⟩,ai 10 9,gP 11 1 10,⟨some 12,.bin (.str .eql) (.t 11) (.c (.str [])),(some (10,false)),[11,10]⟩,fG 13 10 12])
 (.cond (.t 13)
 (.seq (.an [ec 4])
 (.ret))
 (.skip)))
 (.seq (.seq (.an [ai 14 0,HS 15 14])
 (.cond (.t 15)
 (.an [ai 16 1,⟨some 17,.bin (.str .add) (.c (.str [39])) (.t 16),none,[16]⟩,ai 1 17])
 (.skip)))
 (.seq (.an [ai 19 1,⟨some 20,.call 107 [(.t 19)],none,[19]⟩,ai 18 20,hA 21 18,hB 22 18,⟨some 6,.new [(.int .i64 0),(.int .i64 0)],none,[]⟩,ai 5 21,⟨none,.st 2 (.t 6) (.t 22),none,[6,22]⟩])
 (.seq (.an [e5 23 6,bQ 24 23,AG 25 24,ai 26 25,dw 27 5 26,q4 28 27 26,HP 29 28 26,dV 30 26 29,ai 31 30,dw 32 5 31,DI 33 32 31,AJ 34 33 31,hC 35 34 31,dw 36 0 31,DB 37 35 36 31,dV 38 31 37,ai 39 38,dw 40 5 39,DI 41 40 39,sf 42 41 39,hC 43 42 39,mw 44 43 39,dV 45 39 44,ai 46 45,dw 47 5 46,DI 48 47 46,⟨some 49,.dZ 3 (.t 48),(some (46,true)),[48,46]⟩,hC 50 49 46,⟨some 51,.len .str (.t 50),(some (46,true)),[50,46]⟩,⟨some 52,.bin (.int .gtr) (.t 51) (.c (.int .i64 0)),(some (46,true)),[51,46]⟩,dV 53 46 52,ai 54 53,dw 55 5 54,DI 56 55 54,⟨some 57,.fL 4 (.t 56),(some (54,true)),[56,54]⟩,dw 58 1 54,⟨some 59,.call 108 [(.t 57),(.t 58)],(some (54,true)),[57,58,54]⟩,dV 60 54 59,ai 4 60])
 (.ret)))))
theorem Z8:dm 104 61 Tryz.f104 OS [.t 4]:=⟨Tryz.func104,by kernel_rfl⟩
def OT:a1:=
 .seq (.an [ec 4])
 (.seq (.an [ai 5 0,ai 6 1,⟨some 7,.call 109 [(.t 5),(.t 6)],none,[5,6]⟩,DF 8 7,ai 4 8])
 (.ret))
theorem Z9:dm 105 9 Tryz.f105 OT [.t 4]:=⟨Tryz.func105,by kernel_rfl⟩
def OW:a1:=
 .seq (.an [hD 2 0,ec 4])
 (.seq (.seq (.an [e5 5 2,bQ 6 5,HS 7 6])
 (.cond (.t 7)
 (.seq (.an [ai 8 1,se 9 2,bQ 10 9,⟨some 11,.bin (.str .add) (.c (.str [39])) (.t 10),none,[10]⟩,DG 12 8 11,ai 4 12])
 (.ret))
 (.skip)))
 (.seq (.an [ai 13 1,se 14 2,bQ 15 14,DG 16 13 15,ai 4 16])
 (.ret)))
theorem Z_:dm 108 17 Tryz.f108 OW [.t 4]:=⟨Tryz.func108,by kernel_rfl⟩
def OY:a1:=
 .seq (.an [f_ 9 8 7])
 (.seq (.cond (.t 9)
 (.skip)
 (.exit 0))
 (.seq (.block 1 (.seq (.an [ai 10 8,ai 5 10])
 (.seq (.an [ai 11 1,ai 12 0,ai 13 5,sd 14 12 13,bQ 15 14,DG 16 11 15])
 (.cond (.t 16)
 (.seq (.an [ai 17 5,ai 4 17])
 (.ret))
 (.skip)))))
 (.an [eY 18 8,ai 8 18])))
def OX:a1:=
 .seq (.an [df 4])
 (.seq (.seq (.an [ai 6 0,ez 7 6,df 8])
 (.block 0 (.loop OY)))
 (.seq (.an [⟨some 4,.cO (.c (.int .i64 (-1))),none,[]⟩])
 (.ret)))
theorem aaa:dm 109 19 Tryz.f109 OX [.t 4]:=⟨Tryz.func109,by kernel_rfl⟩
def OV:a1:=
 .block 1 (.seq (.an [ai 24 5,dQ 25 24,dX 26 25,bQ 27 26,ai 7 27])
 (.seq (.block 2 (.seq (.an [ai 37 7,ai 38 0,my 39 38,AI 40 37 39,ai 36 40])
 (.cond (.t 36)
 (.exit 0)
 (.seq (.an [ai 42 0,ai 43 7,⟨some 44,.l_ (.t 42) (.t 43),none,[42,43]⟩,⟨some 45,.call 113 [(.c (.str [9,10,13,32])),(.t 44)],none,[44]⟩,DF 46 45,ai 41 46])
 (.cond (.t 41)
 (.an [ai 47 5,dQ 48 47,dX 49 48,bQ 50 49,eY 51 50,dQ 52 47,dX 53 52,⟨none,.st 1 (.t 53) (.t 51),none,[53,51]⟩])
 (.seq (.an [ai 55 5,⟨some 56,.call 114 [(.t 55),(.c (.str [40,42]))],none,[55]⟩,ai 54 56])
 (.cond (.t 54)
 (.an [ai 57 5,⟨some 58,.call 115 [(.t 57)],none,[57]⟩])
 (.seq (.an [ai 28 5,⟨some 29,.call 116 [(.t 28)],none,[28]⟩,AK 8,⟨none,.st 4 (.t 8) (.t 29),none,[8,29]⟩])
 (.seq (.an [ai 30 7,h' 31 8,⟨none,.st 1 (.t 31) (.t 30),none,[31,30]⟩])
 (.an [ai 32 6,AH 33 8,⟨some 34,.hS 1 4 [(.int .i64 0),(.int .i64 0),(.int .i64 0),(.str [])] [(0,4,(.t 33))],none,[33]⟩,⟨some 35,.app 4 (.t 32) (.t 34),none,[32,34]⟩,ai 6 35]))))))))))
 (.seq (.an [ai 59 5,dQ 60 59,h' 61 60,bQ 62 61,vJ 63 62])
 (.cond (.t 63)
 (.seq (.draw [ai 64 5,dQ 65 64,h' 66 65,bQ 67 66,ai 68 7,⟨some 69,.build [(.int .i64 0),(.int .i64 0)] [(0,1,(.t 67)),(1,1,(.t 68))],none,[67,68]⟩,lp 2,⟨none,.st 2 (.t 3) (.t 69),none,[3,69]⟩] [(3,[7])])
 (.ret))
 (.skip)))))
def OU:a1:=
 .seq (.an [lp 2,⟨some 3,.new [(.int .i64 0),(.int .i64 0)],none,[]⟩])
 (.seq (.seq (.an [ai 9 0,my 10 9,⟨some 11,.bin (.int .gtr) (.t 10) (.c (.int .i64 65536)),none,[10]⟩])
 (.cond (.t 11)
 (.seq (.an [⟨some 12,.build [(.int .i64 0),(.int .i64 0)] [(0,1,(.c (.int .i64 3)))],none,[]⟩,lp 2,⟨none,.st 2 (.t 3) (.t 12),none,[3,12]⟩])
 (.ret))
 (.skip)))
 (.seq (.seq (.an [ai 13 0,⟨some 14,.call 112 [(.t 13)],none,[13]⟩,ai 4 14])
 (.seq (.an [ai 15 4,ai 16 0,my 17 16,f_ 18 15 17])
 (.cond (.t 18)
 (.seq (.an [ai 19 4,⟨some 20,.build [(.int .i64 0),(.int .i64 0)] [(0,1,(.c (.int .i64 250))),(1,1,(.t 19))],none,[19]⟩,lp 2,⟨none,.st 2 (.t 3) (.t 20),none,[3,20]⟩])
 (.ret))
 (.skip))))
 (.seq (.an [ai 21 0,⟨some 22,.build [(.str []),(.int .i64 0),(.int .i64 0)] [(0,1,(.t 21))],none,[21]⟩,hD 23 22,ai 5 23])
 (.seq (.an [lp 6])
 (.seq (.skip)
 (.seq (.block 0 (.loop OV))
 (.seq (.an [ai 70 6,⟨some 71,.build [(.int .i64 0),(.int .i64 0)] [],none,[]⟩,ai 2 70,⟨none,.st 2 (.t 3) (.t 71),none,[3,71]⟩])
 (.ret))))))))
theorem Z':dm 107 72 Tryz.f107 OU [.t 2,.iQ 3 2]:=⟨Tryz.func107,by kernel_rfl⟩
def O0:a1:=
 .seq (.an [⟨some 9,.xh (.t 8),none,[8]⟩,hA 10 9])
 (.seq (.cond (.t 10)
 (.skip)
 (.exit 0))
 (.block 1 (.seq (.an [hB 11 9,⟨some 12,.ext (.t 9) 2,none,[9]⟩,ai 3 11,ai 4 12])
 (.seq (.an [ai 13 4,⟨some 14,.bin (.int .eql) (.t 13) (.c (.int .i32 65533)),none,[13]⟩])
 (.cond (.t 14)
 (.seq (.an [ai 16 0,ai 17 3,HT 18 16 17,⟨some 19,.call 117 [(.t 18)],none,[18]⟩,ai 15 19,hA 20 15,hB 21 15,ai 5 20,ai 6 21])
 (.seq (.an [ai 22 6,tZ 23 22])
 (.cond (.t 23)
 (.seq (.an [ai 24 3,ai 2 24])
 (.ret))
 (.skip))))
 (.skip))))))
def OZ:a1:=
 .seq (.an [df 2])
 (.seq (.seq (.an [ai 7 0,⟨some 8,.zN (.t 7),none,[7]⟩])
 (.block 0 (.loop O0)))
 (.seq (.an [ai 25 0,my 26 25,ai 2 26])
 (.ret)))
theorem aab:dm 112 27 Tryz.f112 OZ [.t 2]:=⟨Tryz.func112,by kernel_rfl⟩
def O1:a1:=
 .seq (.an [df 4])
 (.seq (.an [ai 5 0,ai 6 1,⟨some 7,.call 118 [(.t 5),(.t 6)],none,[5,6]⟩,ai 4 7])
 (.ret))
theorem aac:dm 113 8 Tryz.f113 O1 [.t 4]:=⟨Tryz.func113,by kernel_rfl⟩
def O2:a1:=
 .seq (.an [ec 4])
 (.seq (.draw [ai 5 0,dQ 6 5,e5 7 6,bQ 8 7,ai 9 0,dQ 10 9,dX 11 10,bQ 12 11,HT 13 8 12,ai 14 1,⟨some 15,.call 119 [(.t 13),(.t 14)],none,[13,14]⟩,ai 4 15] [(3,[10]),(7,[10])])
 (.ret))
theorem aad:dm 114 16 Tryz.f114 O2 [.t 4]:=⟨Tryz.func114,by kernel_rfl⟩
def O4:a1:=
 .block 1 (.block 2 (.seq (.draw [ai 11 0,dQ 12 11,dX 13 12,bQ 14 13,ai 15 0,dQ 16 15,e5 17 16,bQ 18 17,my 19 18,AI 20 14 19,ai 10 20] [])
 (.cond (.t 10)
 (.seq (.an [ai 21 0,dQ 22 21,h' 23 22,⟨none,.st 1 (.t 23) (.c (.int .i64 253)),none,[23]⟩])
 (.ret))
 (.seq (.an [ai 25 0,⟨some 26,.call 114 [(.t 25),(.c (.str [40,42]))],none,[25]⟩,ai 24 26])
 (.cond (.t 24)
 (.seq (.an [ai 27 2,eY 28 27,ai 2 28])
 (.an [ai 29 0,dQ 30 29,dX 31 30,bQ 32 31,⟨some 33,.bin (.int .add) (.t 32) (.c (.int .i64 2)),none,[32]⟩,dQ 34 29,dX 35 34,⟨none,.st 1 (.t 35) (.t 33),none,[35,33]⟩]))
 (.seq (.an [ai 37 0,⟨some 38,.call 114 [(.t 37),(.c (.str [42,41]))],none,[37]⟩,ai 36 38])
 (.cond (.t 36)
 (.seq (.an [ai 39 2,⟨some 40,.bin (.int .sub) (.t 39) (.c (.int .i64 1)),none,[39]⟩,ai 2 40])
 (.seq (.an [ai 41 0,dQ 42 41,dX 43 42,bQ 44 43,⟨some 45,.bin (.int .add) (.t 44) (.c (.int .i64 2)),none,[44]⟩,dQ 46 41,dX 47 46,⟨none,.st 1 (.t 47) (.t 45),none,[47,45]⟩])
 (.seq (.an [ai 48 2,AG 49 48])
 (.cond (.t 49)
 (.ret)
 (.skip)))))
 (.an [ai 3 0,dQ 4 3,dX 5 4,bQ 6 5,eY 7 6,dQ 8 3,dX 9 8,⟨none,.st 1 (.t 9) (.t 7),none,[9,7]⟩]))))))))
def O3:a1:=
 .seq (.an [df 2])
 (.block 0 (.loop O4))
theorem aae:dm 115 50 Tryz.f115 O3 []:=⟨Tryz.func115,by kernel_rfl⟩
def O6:a1:=
 .seq (.an [f_ 80 79 78])
 (.seq (.cond (.t 80)
 (.skip)
 (.exit 1))
 (.seq (.block 2 (.seq (.an [sd 81 77 79,bQ 82 81,ai 5 82])
 (.seq (.an [ai 83 0,ai 84 5,⟨some 85,.call 114 [(.t 83),(.t 84)],none,[83,84]⟩])
 (.cond (.t 85)
 (.seq (.an [ai 86 0,dQ 87 86,dX 88 87,bQ 89 88,ai 90 5,my 91 90,vK 92 89 91,dQ 93 86,dX 94 93,⟨none,.st 1 (.t 94) (.t 92),none,[94,92]⟩])
 (.seq (.an [ai 95 5,NK 96 95,⟨none,.st 4 (.t 2) (.t 96),none,[2,96]⟩])
 (.ret)))
 (.skip)))))
 (.an [eY 97 79,ai 79 97])))
def O5:a1:=
 .seq (.an [AK 2])
 (.seq (.draw [ai 6 0,dQ 7 6,e5 8 7,bQ 9 8,ai 10 0,dQ 11 10,dX 12 11,bQ 13 12,⟨some 14,.l_ (.t 9) (.t 13),none,[9,13]⟩,ai 3 14] [])
 (.seq (.block 0 (.seq (.an [ai 16 3,⟨some 17,.call 120 [(.t 16)],none,[16]⟩,ai 15 17])
 (.cond (.t 15)
 (.seq (.an [ai 18 0,⟨some 19,.call 121 [(.t 18)],none,[18]⟩,⟨none,.st 4 (.t 2) (.t 19),none,[2,19]⟩])
 (.ret))
 (.seq (.an [ai 21 3,⟨some 22,.bin (.int .eql) (.t 21) (.c (.int .u8 34)),none,[21]⟩,ai 20 22])
 (.cond (.t 20)
 (.seq (.an [ai 23 0,⟨some 24,.call 122 [(.t 23)],none,[23]⟩,⟨none,.st 4 (.t 2) (.t 24),none,[2,24]⟩])
 (.ret))
 (.seq (.an [ai 26 3,⟨some 27,.call 123 [(.t 26)],none,[26]⟩,ai 28 27,gP 29 3 28,⟨some 30,.bin (.int .eql) (.t 29) (.c (.int .u8 95)),(some (28,false)),[29,28]⟩,fG 31 28 30,ai 25 31])
 (.cond (.t 25)
 (.seq (.an [ai 32 0,⟨some 33,.call 124 [(.t 32),(.c (.int .i64 3))],none,[32]⟩,⟨none,.st 4 (.t 2) (.t 33),none,[2,33]⟩])
 (.ret))
 (.seq (.an [ai 35 3,⟨some 36,.call 125 [(.t 35)],none,[35]⟩,ai 34 36])
 (.cond (.t 34)
 (.seq (.an [ai 37 0,⟨some 38,.call 124 [(.t 37),(.c (.int .i64 4))],none,[37]⟩,⟨none,.st 4 (.t 2) (.t 38),none,[2,38]⟩])
 (.ret))
 (.seq (.draw [ai 40 3,⟨some 41,.bin (.int .eql) (.t 40) (.c (.int .u8 39)),none,[40]⟩,ai 42 41,dw 43 0 42,xX 44 43 42,vL 45 44 42,hC 46 45 42,⟨some 47,.bin (.int .add) (.t 46) (.c (.int .i64 1)),(some (42,true)),[46,42]⟩,dw 48 0 42,xX 49 48 42,AJ 50 49 42,hC 51 50 42,⟨some 52,.len .str (.t 51),(some (42,true)),[51,42]⟩,⟨some 53,.bin (.int .lss) (.t 47) (.t 52),(some (42,true)),[47,52,42]⟩,dV 54 42 53,ai 55 54,dw 56 0 55,xX 57 56 55,AJ 58 57 55,hC 59 58 55,dw 60 0 55,xX 61 60 55,vL 62 61 55,hC 63 62 55,⟨some 64,.bin (.int .add) (.t 63) (.c (.int .i64 1)),(some (55,true)),[63,55]⟩,⟨some 65,.l_ (.t 59) (.t 64),(some (55,true)),[59,64,55]⟩,⟨some 66,.call 123 [(.t 65)],(some (55,true)),[65,55]⟩,dV 67 55 66,ai 39 67] [(6,[26]),(11,[26]),(19,[26]),(23,[26])])
 (.cond (.t 39)
 (.seq (.an [ai 68 0,dQ 69 68,dX 70 69,bQ 71 70,eY 72 71,dQ 73 68,dX 74 73,⟨none,.st 1 (.t 74) (.t 72),none,[74,72]⟩])
 (.seq (.an [ai 75 0,⟨some 76,.call 124 [(.t 75),(.c (.int .i64 5))],none,[75]⟩,⟨none,.st 4 (.t 2) (.t 76),none,[2,76]⟩])
 (.ret)))
 (.skip))))))))))))
 (.seq (.seq (.an [⟨some 77,.call 126 [],none,[]⟩,ez 78 77,df 79])
 (.block 1 (.loop O6)))
 (.seq (.an [ai 98 0,dQ 99 98,h' 100 99,⟨none,.st 1 (.t 100) (.c (.int .i64 251)),none,[100]⟩])
 (.seq (.an [HU 101,⟨none,.st 4 (.t 2) (.t 101),none,[2,101]⟩])
 (.ret))))))
theorem aaf:dm 116 102 Tryz.f116 O5 [.iQ 2 4]:=⟨Tryz.func116,by kernel_rfl⟩
def O7:a1:=
 .seq (.an [df 4])
 (.seq (.an [ai 5 0,ai 6 1,⟨some 7,.call 128 [(.t 5),(.t 6)],none,[5,6]⟩,ai 4 7])
 (.ret))
theorem aag:dm 118 8 Tryz.f118 O7 [.t 4]:=⟨Tryz.func118,by kernel_rfl⟩
def c119:a1:=
 .seq (.an [ec 4])
 (.seq (.an [ai 5 0,ai 6 1,⟨some 7,.call 129 [(.t 5),(.t 6)],none,[5,6]⟩,ai 4 7])
 (.ret))
theorem aah:dm 119 8 Tryz.f119 c119 [.t 4]:=⟨Tryz.func119,by kernel_rfl⟩
def O8:a1:=
 .seq (.an [ec 2])
 (.seq (.an [ai 3 0,⟨some 4,.bin (.int .geq) (.t 3) (.c (.int .u8 48)),none,[3]⟩,ai 5 4,dw 6 0 5,⟨some 7,.bin (.int .leq) (.t 6) (.c (.int .u8 57)),(some (5,true)),[6,5]⟩,dV 8 5 7,ai 2 8])
 (.ret))
theorem aai:dm 120 9 Tryz.f120 O8 [.t 2]:=⟨Tryz.func120,by kernel_rfl⟩
def O9:a1:=
 .seq (.an [AK 2])
 (.seq (.an [ai 7 0,⟨some 8,.call 131 [(.t 7),(.c (.func 120 []))],none,[7]⟩,⟨some 9,.call 130 [(.t 8),(.c (.int .i64 10)),(.c (.int .i64 64))],none,[8]⟩,ai 6 9,hA 10 6,hB 11 6,ai 3 10,ai 4 11])
 (.seq (.seq (.an [ai 12 4,⟨some 13,.bin (.lv true 5) (.t 12) (.c .nilIface),none,[12]⟩,ai 14 13,gP 15 3 14,⟨some 16,.bin (.int .gtr) (.t 15) (.c (.int .u64 2147483647)),(some (14,false)),[15,14]⟩,fG 17 14 16])
 (.cond (.t 17)
 (.seq (.an [ai 18 0,dQ 19 18,h' 20 19,⟨none,.st 1 (.t 20) (.c (.int .i64 254)),none,[20]⟩])
 (.seq (.an [HU 21,⟨none,.st 4 (.t 2) (.t 21),none,[2,21]⟩])
 (.ret)))
 (.skip)))
 (.seq (.an [ai 22 3,⟨some 23,.dC (.int .i64) (.t 22),none,[22]⟩,ai 5 23])
 (.seq (.seq (.an [ai 24 5,⟨some 25,.bin (.int .gtr) (.t 24) (.c (.int .i64 1073741823)),none,[24]⟩])
 (.cond (.t 25)
 (.an [ai 26 5,⟨some 27,.bin (.int .sub) (.t 26) (.c (.int .i64 2147483648)),none,[26]⟩,ai 5 27])
 (.skip)))
 (.seq (.an [ai 28 5,⟨some 29,.build [(.int .i64 0),(.int .i64 0),(.int .i64 0),(.str [])] [(0,1,(.c (.int .i64 1))),(1,1,(.t 28))],none,[28]⟩,⟨none,.st 4 (.t 2) (.t 29),none,[2,29]⟩])
 (.ret))))))
theorem aaj:dm 121 30 Tryz.f121 O9 [.iQ 2 4]:=⟨Tryz.func121,by kernel_rfl⟩
def O_:a1:=
 .seq (.seq (.an [ai 12 0,dQ 13 12,h' 14 13,bQ 15 14,AG 16 15])
 (.cond (.t 16)
 (.skip)
 (.exit 0)))
 (.block 1 (.seq (.seq (.draw [ai 17 0,dQ 18 17,dX 19 18,bQ 20 19,ai 21 0,dQ 22 21,e5 23 22,bQ 24 23,my 25 24,AI 26 20 25] [])
 (.cond (.t 26)
 (.seq (.an [ai 27 0,dQ 28 27,h' 29 28,⟨none,.st 1 (.t 29) (.c (.int .i64 252)),none,[29]⟩])
 (.exit 0))
 (.skip)))
 (.seq (.draw [ai 30 0,dQ 31 30,e5 32 31,bQ 33 32,ai 34 0,dQ 35 34,dX 36 35,bQ 37 36,⟨some 38,.l_ (.t 33) (.t 37),none,[33,37]⟩,ai 4 38] [])
 (.block 2 (.seq (.an [ai 51 4,⟨some 52,.bin (.int .eql) (.t 51) (.c (.int .u8 34)),none,[51]⟩,ai 50 52])
 (.cond (.t 50)
 (.seq (.an [ai 53 0,dQ 54 53,dX 55 54,bQ 56 55,eY 57 56,dQ 58 53,dX 59 58,⟨none,.st 1 (.t 59) (.t 57),none,[59,57]⟩])
 (.seq (.seq (.an [ai 60 3,ez 61 60,⟨some 62,.bin (.int .gtr) (.t 61) (.c (.int .i64 4096)),none,[61]⟩])
 (.cond (.t 62)
 (.an [ai 63 0,dQ 64 63,h' 65 64,⟨none,.st 1 (.t 65) (.c (.int .i64 255)),none,[65]⟩])
 (.skip)))
 (.seq (.an [ai 66 3,⟨some 67,.dC .str (.t 66),none,[66]⟩,⟨some 68,.build [(.int .i64 0),(.int .i64 0),(.int .i64 0),(.str [])] [(0,1,(.c (.int .i64 2))),(3,1,(.t 67))],none,[67]⟩,⟨none,.st 4 (.t 2) (.t 68),none,[2,68]⟩])
 (.ret))))
 (.seq (.an [ai 70 4,⟨some 71,.bin (.int .eql) (.t 70) (.c (.int .u8 92)),none,[70]⟩,ai 69 71])
 (.cond (.t 69)
 (.an [ai 72 3,ai 73 0,⟨some 74,.call 132 [(.t 73)],none,[73]⟩,⟨some 75,.hS 1 1 [(.int .u8 0)] [(0,1,(.t 74))],none,[74]⟩,AD 76 72 75,ai 3 76])
 (.seq (.an [ai 78 4,⟨some 79,.bin (.int .lss) (.t 78) (.c (.int .u8 32)),none,[78]⟩,ai 80 79,gP 81 4 80,⟨some 82,.bin (.int .eql) (.t 81) (.c (.int .u8 127)),(some (80,false)),[81,80]⟩,fG 83 80 82,ai 77 83])
 (.cond (.t 77)
 (.an [ai 84 0,dQ 85 84,h' 86 85,⟨none,.st 1 (.t 86) (.c (.int .i64 252)),none,[86]⟩])
 (.seq (.an [ai 39 0,dQ 40 39,dX 41 40,bQ 42 41,eY 43 42,dQ 44 39,dX 45 44,⟨none,.st 1 (.t 45) (.t 43),none,[45,43]⟩])
 (.an [ai 46 3,ai 47 4,⟨some 48,.hS 1 1 [(.int .u8 0)] [(0,1,(.t 47))],none,[47]⟩,AD 49 46 48,ai 3 49]))))))))))))
def O':a1:=
 .seq (.an [AK 2])
 (.seq (.an [ai 5 0,dQ 6 5,dX 7 6,bQ 8 7,eY 9 8,dQ 10 5,dX 11 10,⟨none,.st 1 (.t 11) (.t 9),none,[11,9]⟩])
 (.seq (.an [lp 3])
 (.seq (.block 0 (.loop O_))
 (.seq (.an [HU 87,⟨none,.st 4 (.t 2) (.t 87),none,[2,87]⟩])
 (.ret)))))
theorem aak:dm 122 88 Tryz.f122 O' [.iQ 2 4]:=⟨Tryz.func122,by kernel_rfl⟩
def Pa:a1:=
 .seq (.an [ec 2])
 (.seq (.an [ai 3 0,⟨some 4,.bin (.int .geq) (.t 3) (.c (.int .u8 97)),none,[3]⟩,ai 5 4,dw 6 0 5,⟨some 7,.bin (.int .leq) (.t 6) (.c (.int .u8 122)),(some (5,true)),[6,5]⟩,dV 8 5 7,ai 2 8])
 (.ret))
theorem aal:dm 123 9 Tryz.f123 Pa [.t 2]:=⟨Tryz.func123,by kernel_rfl⟩
def Pb:a1:=
 .seq (.an [AK 4])
 (.seq (.an [ai 6 0,⟨some 7,.call 131 [(.t 6),(.c (.func 133 []))],none,[6]⟩,ai 5 7])
 (.seq (.block 0 (.seq (.an [ai 9 1,xT 10 9,ai 11 10,dw 12 5 11,⟨some 13,.bin (.str .eql) (.t 12) (.c (.str [95])),(some (11,true)),[12,11]⟩,dV 14 11 13,ai 8 14])
 (.cond (.t 8)
 (.seq (.an [ai 15 5,NK 16 15,⟨none,.st 4 (.t 4) (.t 16),none,[4,16]⟩])
 (.ret))
 (.seq (.an [ai 18 1,xT 19 18,ai 20 19,dw 21 5 20,⟨some 22,.bin (.str .add) (.c (.str [32])) (.t 21),(some (20,true)),[21,20]⟩,⟨some 23,.bin (.str .add) (.t 22) (.c (.str [32])),(some (20,true)),[22,20]⟩,⟨some 24,.call 134 [(.c (.str [32,97,110,100,32,98,101,103,105,110,32,101,108,115,101,32,101,110,100,32,101,120,99,101,112,116,105,111,110,32,102,97,108,115,101,32,102,117,110,32,105,102,32,105,110,32,108,101,116,32,109,97,116,99,104,32,109,111,100,32,111,102,32,114,97,105,115,101,32,114,101,99,32,116,104,101,110,32,116,114,117,101,32,116,114,121,32,116,121,112,101,32,119,105,116,104,32])),(.t 23)],(some (20,true)),[23,20]⟩,dV 25 20 24,ai 17 25])
 (.cond (.t 17)
 (.seq (.an [ai 26 5,⟨some 27,.build [(.int .i64 0),(.int .i64 0),(.int .i64 0),(.str [])] [(0,1,(.c (.int .i64 6))),(3,1,(.t 26))],none,[26]⟩,⟨none,.st 4 (.t 4) (.t 27),none,[4,27]⟩])
 (.ret))
 (.seq (.an [ai 29 5,my 30 29,⟨some 31,.bin (.int .gtr) (.t 30) (.c (.int .i64 64)),none,[30]⟩,ai 28 31])
 (.cond (.t 28)
 (.an [ai 32 0,dQ 33 32,h' 34 33,⟨none,.st 1 (.t 34) (.c (.int .i64 255)),none,[34]⟩])
 (.skip))))))))
 (.seq (.an [ai 35 1,ai 36 5,⟨some 37,.build [(.int .i64 0),(.int .i64 0),(.int .i64 0),(.str [])] [(0,1,(.t 35)),(3,1,(.t 36))],none,[35,36]⟩,⟨none,.st 4 (.t 4) (.t 37),none,[4,37]⟩])
 (.ret))))
theorem aam:dm 124 38 Tryz.f124 Pb [.iQ 4 4]:=⟨Tryz.func124,by kernel_rfl⟩
def Pc:a1:=
 .seq (.an [ec 2])
 (.seq (.an [ai 3 0,⟨some 4,.bin (.int .geq) (.t 3) (.c (.int .u8 65)),none,[3]⟩,ai 5 4,dw 6 0 5,⟨some 7,.bin (.int .leq) (.t 6) (.c (.int .u8 90)),(some (5,true)),[6,5]⟩,dV 8 5 7,ai 2 8])
 (.ret))
theorem aan:dm 125 9 Tryz.f125 Pc [.t 2]:=⟨Tryz.func125,by kernel_rfl⟩
def Pd:a1:=
 .seq (.an [lp 0])
 (.seq (.an [⟨some 1,.hS 17 1 [(.str [])] [(0,1,(.c (.str [59,59]))),(1,1,(.c (.str [58,61]))),(2,1,(.c (.str [45,62]))),(3,1,(.c (.str [60,61]))),(4,1,(.c (.str [59]))),(5,1,(.c (.str [40]))),(6,1,(.c (.str [41]))),(7,1,(.c (.str [44]))),(8,1,(.c (.str [61]))),(9,1,(.c (.str [60]))),(10,1,(.c (.str [43]))),(11,1,(.c (.str [45]))),(12,1,(.c (.str [42]))),(13,1,(.c (.str [47]))),(14,1,(.c (.str [124]))),(15,1,(.c (.str [33]))),(16,1,(.c (.str [95])))],none,[]⟩,ai 0 1])
 (.ret))
theorem aao:dm 126 2 Tryz.f126 Pd [.t 0]:=⟨Tryz.func126,by kernel_rfl⟩
def Pe:a1:=
 .seq (.an [ec 4])
 (.seq (.an [ai 5 0,my 6 5,ai 7 1,my 8 7,AI 9 6 8,ai 10 9,dw 11 0 10,dw 12 1 10,⟨some 13,.len .str (.t 12),(some (10,true)),[12,10]⟩,⟨some 14,.r6 (.t 11) none (some (.t 13)) none,(some (10,true)),[11,13,10]⟩,dw 15 1 10,⟨some 16,.bin (.str .eql) (.t 14) (.t 15),(some (10,true)),[14,15,10]⟩,dV 17 10 16,ai 4 17])
 (.ret))
theorem aap:dm 129 18 Tryz.f129 Pe [.t 4]:=⟨Tryz.func129,by kernel_rfl⟩
def Pg:a1:=
 .seq (.seq (.draw [ai 10 0,dQ 11 10,dX 12 11,bQ 13 12,ai 14 0,dQ 15 14,e5 16 15,bQ 17 16,my 18 17,f_ 19 13 18,ai 20 19,dw 21 1 20,dw 22 0 20,xX 23 22 20,AJ 24 23 20,hC 25 24 20,dw 26 0 20,xX 27 26 20,vL 28 27 20,hC 29 28 20,⟨some 30,.l_ (.t 25) (.t 29),(some (20,true)),[25,29,20]⟩,⟨some 31,.l3 (.t 21) [(.t 30)],(some (20,true)),[21,30,20]⟩,dV 32 20 31] [(3,[21]),(7,[21]),(15,[21]),(19,[21])])
 (.cond (.t 32)
 (.skip)
 (.exit 0)))
 (.block 1 (.an [ai 33 0,dQ 34 33,dX 35 34,bQ 36 35,eY 37 36,dQ 38 33,dX 39 38,⟨none,.st 1 (.t 39) (.t 37),none,[39,37]⟩]))
def Pf:a1:=
 .seq (.an [⟨some 4,.cO (.c (.str [])),none,[]⟩])
 (.seq (.an [ai 6 0,dQ 7 6,dX 8 7,bQ 9 8,ai 5 9])
 (.seq (.block 0 (.loop Pg))
 (.seq (.draw [ai 40 0,dQ 41 40,e5 42 41,bQ 43 42,ai 44 5,ai 45 0,dQ 46 45,dX 47 46,bQ 48 47,⟨some 49,.r6 (.t 43) (some (.t 44)) (some (.t 48)) none,none,[43,44,48]⟩,ai 4 49] [])
 (.ret))))
theorem aaq:dm 131 50 Tryz.f131 Pf [.t 4]:=⟨Tryz.func131,by kernel_rfl⟩
def Ph:a1:=
 .seq (.an [⟨some 2,.cO (.c (.int .u8 0)),none,[]⟩])
 (.seq (.an [ai 7 0,dQ 8 7,dX 9 8,bQ 10 9,eY 11 10,dQ 12 7,dX 13 12,⟨none,.st 1 (.t 13) (.t 11),none,[13,11]⟩])
 (.seq (.draw [ai 14 0,dQ 15 14,e5 16 15,bQ 17 16,ai 18 0,dQ 19 18,dX 20 19,bQ 21 20,HT 22 17 21,ai 3 22] [])
 (.seq (.seq (.an [ai 23 3,⟨some 24,.bin (.str .neq) (.t 23) (.c (.str [])),none,[23]⟩])
 (.cond (.t 24)
 (.seq (.an [ai 25 3,⟨some 26,.l_ (.t 25) (.c (.int .i64 0)),none,[25]⟩,⟨some 27,.call 113 [(.c (.str [110,116,34,92])),(.t 26)],none,[26]⟩,ai 4 27])
 (.seq (.an [ai 28 4,DF 29 28])
 (.cond (.t 29)
 (.seq (.an [ai 30 0,dQ 31 30,dX 32 31,bQ 33 32,eY 34 33,dQ 35 30,dX 36 35,⟨none,.st 1 (.t 36) (.t 34),none,[36,34]⟩])
 (.seq (.an [ai 37 4,⟨some 38,.l_ (.c (.str [10,9,34,92])) (.t 37),none,[37]⟩,ai 2 38])
 (.ret)))
 (.skip))))
 (.skip)))
 (.seq (.seq (.an [ai 39 3,my 40 39,⟨some 41,.bin (.int .geq) (.t 40) (.c (.int .i64 3)),none,[40]⟩,ai 42 41,dw 43 3 42,⟨some 44,.l_ (.t 43) (.c (.int .i64 0)),(some (42,true)),[43,42]⟩,⟨some 45,.call 120 [(.t 44)],(some (42,true)),[44,42]⟩,dV 46 42 45,ai 47 46,dw 48 3 47,⟨some 49,.l_ (.t 48) (.c (.int .i64 1)),(some (47,true)),[48,47]⟩,⟨some 50,.call 120 [(.t 49)],(some (47,true)),[49,47]⟩,dV 51 47 50,ai 52 51,dw 53 3 52,⟨some 54,.l_ (.t 53) (.c (.int .i64 2)),(some (52,true)),[53,52]⟩,⟨some 55,.call 120 [(.t 54)],(some (52,true)),[54,52]⟩,dV 56 52 55])
 (.cond (.t 56)
 (.seq (.an [ai 58 3,⟨some 59,.r6 (.t 58) none (some (.c (.int .i64 3))) none,none,[58]⟩,⟨some 60,.call 137 [(.t 59)],none,[59]⟩,ai 57 60,hA 61 57,hB 62 57,ai 5 61,ai 6 62])
 (.seq (.an [ai 63 5,⟨some 64,.bin (.int .lss) (.t 63) (.c (.int .i64 256)),none,[63]⟩])
 (.cond (.t 64)
 (.seq (.an [ai 65 0,dQ 66 65,dX 67 66,bQ 68 67,⟨some 69,.bin (.int .add) (.t 68) (.c (.int .i64 3)),none,[68]⟩,dQ 70 65,dX 71 70,⟨none,.st 1 (.t 71) (.t 69),none,[71,69]⟩])
 (.seq (.an [ai 72 5,⟨some 73,.dC (.int .u8) (.t 72),none,[72]⟩,ai 2 73])
 (.ret)))
 (.skip))))
 (.skip)))
 (.seq (.an [ai 74 0,dQ 75 74,h' 76 75,⟨none,.st 1 (.t 76) (.c (.int .i64 252)),none,[76]⟩])
 (.seq (.an [⟨some 2,.cO (.c (.int .u8 0)),none,[]⟩])
 (.ret)))))))
theorem aar:dm 132 77 Tryz.f132 Ph [.t 2]:=⟨Tryz.func132,by kernel_rfl⟩
def Pj:a1:=
 .seq (.an [ec 2])
 (.seq (.an [ai 3 0,⟨some 4,.call 120 [(.t 3)],none,[3]⟩,ai 5 4,gP 6 0 5,⟨some 7,.call 123 [(.t 6)],(some (5,false)),[6,5]⟩,fG 8 5 7,ai 9 8,gP 10 0 9,⟨some 11,.call 125 [(.t 10)],(some (9,false)),[10,9]⟩,fG 12 9 11,ai 13 12,gP 14 0 13,⟨some 15,.bin (.int .eql) (.t 14) (.c (.int .u8 95)),(some (13,false)),[14,13]⟩,fG 16 13 15,ai 17 16,gP 18 0 17,⟨some 19,.bin (.int .eql) (.t 18) (.c (.int .u8 39)),(some (17,false)),[18,17]⟩,fG 20 17 19,ai 2 20])
 (.ret))
theorem aas:dm 133 21 Tryz.f133 Pj [.t 2]:=⟨Tryz.func133,by kernel_rfl⟩
theorem r0 {f:FuncId} {args:List V} {h:ae} {v:V} (c:cR Tryz.prog f args h fun x ab=>x=v/\ab=h):e4 Tryz.prog f args h v h:=by obtain ⟨x,ab,q,rfl,rfl⟩:=c;exact q
def ou (c:Int):Bool:=decide (48<=c)&&decide (c<=57)
def jo (c:Int):Bool:=decide (97<=c)&&decide (c<=122)
def pk (c:Int):Bool:=decide (65<=c)&&decide (c<=90)
def w9 (c:Int):Bool:=ou c||jo c||pk c||decide (c=95)||decide (c=39)
theorem yh (c:Int) (h:ae):e4 Tryz.prog 120 [.int .u8 c] h (.bool (ou c)) h:=by refine r0 (aai.z rfl (cp ?_));unfold O8;simp +contextual only [↓aj,aC,simprocAttr];rfl
theorem Hb (c:Int) (h:ae):e4 Tryz.prog 123 [.int .u8 c] h (.bool (jo c)) h:=by refine r0 (aal.z rfl (cp ?_));unfold Pa;simp +contextual only [↓aj,aC,simprocAttr];rfl
theorem Sd (c:Int) (h:ae):e4 Tryz.prog 125 [.int .u8 c] h (.bool (pk c)) h:=by refine r0 (aan.z rfl (cp ?_));unfold Pc;simp +contextual only [↓aj,aC,simprocAttr];rfl
theorem aeX (s p:List UInt8) (h:ae):e4 Tryz.prog 129 [.str s,.str p] h (.bool (p.isPrefixOf s)) h:=by
 refine r0 (aap.z rfl (cp ?_));unfold Pe;have aY:(0<=(p.length:Int))=True:=arD (by omega);by_cases ax:p.length<=s.length
 . have aa:((p.length:Int)<=(s.length:Int))=True:=arD (by omega);simp +contextual only [aY,aa,ary,↓aj,aC,simprocAttr];rw [ass,arF,atg,List.prefix_iff_eq_take];exact ⟨fun e=>e.symm,fun e=>e.symm⟩
 . have aa:((p.length:Int)<=(s.length:Int))=False:=arx (by omega);simp +contextual only [aY,aa,ary,↓aj,aC,simprocAttr];rw [eq_comm,<-ar4,atg];exact fun e=>ax e.length_le
theorem aeW (s p:List UInt8) (h:ae):e4 Tryz.prog 119 [.str s,.str p] h (.bool (p.isPrefixOf s)) h:=by refine r0 (aah.z rfl (cp ?_));unfold c119;simp +contextual only [↓aj,aC,simprocAttr];refine hU (aeX s p h) ?_;simp +contextual only [↓aj,aC,simprocAttr]
theorem ake (c:Int) (h:ae):e4 Tryz.prog 133 [.int .u8 c] h (.bool (w9 c)) h:=by refine r0 (aas.z rfl (cp ?_));unfold Pj;simp +contextual only [↓aj,aC,simprocAttr];refine hU (yh c h) ?_;simp +contextual only [↓aj,aC,simprocAttr];refine R5 (.bool (jo c)) (fun aq=>by simp only [aq,↓aj,aC,simprocAttr];exact Hb _ _) ?_;simp +contextual only [↓aj,aC,simprocAttr];refine R5 (.bool (pk c)) (fun aq=>by simp only [aq,↓aj,aC,simprocAttr];exact Sd _ _) ?_;simp +contextual only [↓aj,aC,simprocAttr];rfl
theorem JI (s p:List UInt8) (at':Int) (rest:List V) (b:aM) (cL:Nat) (st:Bool) (h:ae) (ah:h.get b=.bU (.str s::.int .i64 at'::rest) cL st) (aY:0<=at') (aa:at'<=s.length):
 e4 Tryz.prog 114 [.ptr b 0,.str p] h (.bool (p.isPrefixOf (s.drop at'.toNat))) h:=by
 refine r0 (aad.z rfl (cp ?_));unfold O2;have f0:(0<=at')=True:=arD aY;have f1:(at'<=(s.length:Int))=True:=arD aa;simp +contextual only [ah,f0,f1,↓aj,aC,simprocAttr];refine hU (aeW _ p h) ?_;simp +contextual only [ah,f0,f1,↓aj,aC,simprocAttr]
def iL:List UInt8->Int->Option Nat
 | [],_=>none
 | [_],_=>none
 | x::y::r,d=>if x=40/\y=42 then (iL r (d+1)).map (· +2) else if x=42/\y=41 then (if d-1=0 then some 2 else (iL r (d-1)).map (· +2)) else (iL (y::r) d).map (· +1)
theorem ala (r:List UInt8) (d:Int) (h:r≠[]):iL r d=if ([40,42]:List UInt8).isPrefixOf r=true then (iL (r.drop 2) (d+1)).map (· +2) else
 if ([42,41]:List UInt8).isPrefixOf r=true then (if d-1=0 then some 2 else (iL (r.drop 2) (d-1)).map (· +2)) else (iL (r.drop 1) d).map (· +1):=by
 match r,h with
 | [x],_=>simp [iL,List.isPrefixOf]
 | x::y::r,_=>
   have aJ:(([40,42]:List UInt8).isPrefixOf (x::y::r)=true)=(x=40/\y=42):=by simp only [List.isPrefixOf,asx,arp,as3];exact propext ⟨fun q=>⟨q.1.symm,q.2.symm⟩,fun q=>⟨q.1.symm,q.2.symm⟩⟩
   have aR:(([42,41]:List UInt8).isPrefixOf (x::y::r)=true)=(x=42/\y=41):=by simp only [List.isPrefixOf,asx,arp,as3];exact propext ⟨fun q=>⟨q.1.symm,q.2.symm⟩,fun q=>⟨q.1.symm,q.2.symm⟩⟩
   rw [iL];simp only [aJ,aR,as0,asf]
theorem VE {a b:UInt8} {r:List UInt8} (h:([a,b]:List UInt8).isPrefixOf r=true):2<=r.length:=by rw [atg] at h;simpa using h.length_le
def fe (s:List UInt8) (at' e:Int):b6:=.bU [.str s,.int .i64 at',.int .i64 e] 0 false
theorem alb (s:List UInt8) (a0:Nat) (c9:Int) (b:aM) (h:ae) (ah:h.get b=fe s a0 c9) (aY:a0<=s.length) (aU:s.length<=100000) (gE:Old h b):
 cR Tryz.prog 115 [.ptr b 0] h fun x ab=>x=.tuple []/\Mod (fun x=>x=b) h ab/\(match iL (s.drop a0) 0 with
  | some n=>ab.get b=fe s ((a0+n:Nat):Int) c9/\a0+n<=s.length
  | none=>ab.get b=fe s (s.length:Int) 253):=by
 refine aae.z rfl (cp ?_);unfold O3;unfold fe at ah ⊢;simp +contextual only [ah,↓aj,aC,simprocAttr]
 refine fR (fun r ab=>∃(a:Nat) (d:Int),a0<=a/\a<=s.length/\r 0=.ptr b 0/\r 2=.int .i64 d/\ab.get b=.bU [.str s,.int .i64 a,.int .i64 c9] 0 false/\Mod (fun x=>x=b) h ab/\-(a:Int)<=d/\d<=a/\
  iL (s.drop a0) 0=(iL (s.drop a) d).map (· + (a-a0))) (fun r ab=>s.length - ((gq (ab.get b) 1).getD .bad).toN) ?_ ?_
 . refine ⟨a0,0,arv _,aY,?_⟩;simp only [↓aj,aC,simprocAttr];refine ⟨ah,Mod.refl _ _,by omega,by omega,?_⟩;rw [as6];cases iL (s.drop a0) 0<;>rfl
 . rintro r ab ⟨a,d,j3,b3,a_,c2,aF,hm,d0,d1,bB⟩;unfold O4;by_cases gd:(s.length:Int)<=(a:Int)
   . have bs:a=s.length:=by omega
     have aV:iL (s.drop a) d=none:=by rw [bs,atk];rfl
     rw [aV] at bB;simp +contextual only [a_,c2,aF,gd,↓aj,aC,simprocAttr];rw [bB];refine ⟨hm.set (fun _=>rfl) _,?_⟩;simp only [bs,Option.map_none,ea,ar2]
   . have c_:s.drop a≠[]:=by
      intro q;rw [List.drop_eq_nil_iff] at q;omega
     have B0:∀p,e4 Tryz.prog 114 [.ptr b 0,.str p] ab (.bool (p.isPrefixOf (s.drop a))) ab:=fun p=>by have:=JI s p (a:Int) [.int .i64 c9] b 0 false ab aF (by omega) (by omega);simpa using this
     have hZ:=ala (s.drop a) d c_;simp +contextual only [a_,c2,aF,gd,↓aj,aC,simprocAttr];refine hU (B0 _) ?_;cases kZ:([40,42]:List UInt8).isPrefixOf (s.drop a) with
     | true=>
       have ad:=VE kZ;rw [asc] at ad;rw [kZ,arz rfl] at hZ;have bX:IntKind.i64.wrap (d+1)=d+1:=wrap_i64 (by omega) (by omega);have bA:IntKind.i64.wrap ((a:Int)+2)=((a+2:Nat):Int):=by rw [wrap_i64 (by omega) (by omega)];rfl
       simp +contextual only [a_,c2,aF,bX,bA,↓aj,aC,simprocAttr];refine ⟨⟨a+2,d+1,by omega,by omega,rfl,rfl,hm.set (fun _=>rfl) _,by omega,by omega,?_⟩,by omega⟩;rw [bB,hZ,asM,atK];congr 1;funext q;simp only [Function.comp];omega
     | false=>
       rw [kZ,arw (by decide)] at hZ;simp +contextual only [a_,c2,aF,↓aj,aC,simprocAttr];refine hU (B0 _) ?_;cases im:([42,41]:List UInt8).isPrefixOf (s.drop a) with
       | true=>
         have ad:=VE im;rw [asc] at ad;rw [im,arz rfl] at hZ;have bX:IntKind.i64.wrap (d-1)=d-1:=wrap_i64 (by omega) (by omega);have bA:IntKind.i64.wrap ((a:Int)+2)=((a+2:Nat):Int):=by rw [wrap_i64 (by omega) (by omega)];rfl
         by_cases aI:d-1=0
         . rw [arz aI] at hZ;obtain rfl:d=1:=by omega
           have aA:IntKind.i64.wrap 0=0:=rfl;simp +contextual only [a_,c2,aF,aA,bA,↓aj,aC,simprocAttr];rw [bB,hZ];refine ⟨hm.set (fun _=>rfl) _,?_⟩;simp only [asD,ea,ar2];refine ⟨?_,by omega⟩;rw [show a0 + (2 + (a-a0))=a+2 from by omega]
         . rw [arw aI] at hZ;simp +contextual only [a_,c2,aF,bX,bA,aI,↓aj,aC,simprocAttr];refine ⟨⟨a+2,d-1,by omega,by omega,rfl,rfl,hm.set (fun _=>rfl) _,by omega,by omega,?_⟩,by omega⟩;rw [bB,hZ,asM,atK];congr 1;funext q;simp only [Function.comp];omega
       | false=>
         rw [im,arw (by decide)] at hZ;have bA:IntKind.i64.wrap ((a:Int)+1)=((a+1:Nat):Int):=by rw [wrap_i64 (by omega) (by omega)];rfl
         simp +contextual only [a_,c2,aF,bA,↓aj,aC,simprocAttr];refine ⟨⟨a+1,d,by omega,by omega,rfl,rfl,hm.set (fun _=>rfl) _,by omega,by omega,?_⟩,by omega⟩;rw [bB,hZ,asM,atK];congr 1;funext q;simp only [Function.comp];omega
theorem drop_cons {s:List UInt8} {a:Nat} (h:a<s.length):s.drop a=s[a]::s.drop (a+1):=ar3 h
theorem W1 (p:UInt8->Bool):∀l:List UInt8,(l.takeWhile p).length<=l.length
 | []=>by simp
 | x::l=>by
   simp only [as1]
   split
   . simpa using W1 p l
   . simp
theorem Wj (s:List UInt8) (a0:Nat) (c9:Int) (b:aM) (g:FuncId) (p:Int->Bool) (h:ae) (ah:h.get b=fe s a0 c9) (aY:a0<=s.length) (aU:s.length<=100000) (a6:(g=4294967296)=False)
 (ag:∀c h,e4 Tryz.prog g [.int .u8 c] h (.bool (p c)) h):
 cR Tryz.prog 131 [.ptr b 0,.func g []] h fun x ab=>x=.str ((s.drop a0).takeWhile fun c=>p c.toNat)/\Mod (fun x=>x=b) h ab/\ab.get b=fe s ((a0 + ((s.drop a0).takeWhile fun c=>p c.toNat).length:Nat):Int) c9:=by
 refine aaq.z rfl (cp ?_);unfold Pf;unfold fe at ah ⊢;simp +contextual only [ah,↓aj,aC,simprocAttr]
 refine fR (fun r ab=>∃(a:Nat),a0<=a/\a<=s.length/\r 0=.ptr b 0/\r 1=.func g []/\r 5=.int .i64 a0/\ab.get b=.bU [.str s,.int .i64 a,.int .i64 c9] 0 false/\Mod (fun x=>x=b) h ab/\
  ((s.drop a0).takeWhile fun c=>p c.toNat)=(s.drop a0).take (a-a0)++((s.drop a).takeWhile fun c=>p c.toNat)) (fun r ab=>s.length - ((gq (ab.get b) 1).getD .bad).toN) ?_ ?_
 . refine ⟨a0,arv _,aY,?_⟩;simp only [↓aj,aC,simprocAttr];refine ⟨ah,Mod.refl _ _,?_⟩;rw [as6];rfl
 . rintro r ab ⟨a,j3,b3,a_,bH,bK,aF,hm,bB⟩;unfold Pg;have fin:((s.drop a).takeWhile fun c=>p c.toNat)=[]->V.str (((s.drop a0).take (a-a0)))=V.str ((s.drop a0).takeWhile fun c=>p c.toNat)/\Mod (fun x=>x=b) h ab/\b6.bU [V.str s,V.int .i64 a,V.int .i64 c9] 0 false=b6.bU [V.str s,V.int .i64 ((a0 + ((s.drop a0).takeWhile fun c=>p c.toNat).length:Nat):Int),V.int .i64 c9] 0 false:=by
    intro q;rw [q,asS] at bB;rw [bB,ar6,asc];refine ⟨rfl,hm,?_⟩;rw [show a0+min (a-a0) (s.length-a0)=a from by omega]
   have f0:(0<=(a0:Int))=True:=arD (by omega);have f1:((a0:Int)<=(a:Int))=True:=arD (by omega);have f2:((a:Int)<=(s.length:Int))=True:=arD (by omega);have f3:(0<=(a:Int))=True:=arD (by omega);by_cases gd:(a:Int) < (s.length:Int)
   . have aS:a<s.length:=by omega
     rw [drop_cons aS,as1] at bB fin;simp +contextual only [a6,ar5,a_,bH,bK,aF,gd,f0,f1,f2,f3,ars aS,ary,↓aj,aC,simprocAttr];refine hU (ag _ _) ?_;cases mM:p ((s[a]).toNat:Int) with
     | true=>
       rw [mM] at bB;have bA:IntKind.i64.wrap ((a:Int)+1)=((a+1:Nat):Int):=by rw [wrap_i64 (by omega) (by omega)];rfl
       simp +contextual only [mM,a_,bH,bK,aF,gd,f0,f1,f2,f3,bA,ars aS,ary,↓aj,aC,simprocAttr];refine ⟨⟨a+1,by omega,by omega,rfl,hm.set (fun _=>rfl) _,?_⟩,by omega⟩;rw [bB,arz rfl];have sZ:a-a0 < (s.drop a0).length:=by rw [asc];omega
       rw [show a+1-a0=a-a0+1 from by omega,<-List.take_append_getElem sZ,ar_];congr 1;rw [List.getElem_drop];simp only [show a0 + (a-a0)=a from by omega];rfl
     | false=>
       rw [mM] at fin;simp +contextual only [mM,a_,bH,bK,aF,gd,f0,f1,f2,f3,ars aS,ary,↓aj,aC,simprocAttr];exact fin rfl
   . have bs:a=s.length:=by omega
     simp +contextual only [a6,ar5,a_,bH,bK,aF,gd,f0,f1,f2,f3,ary,↓aj,aC,simprocAttr];refine fin ?_;rw [bs,atk];rfl
end
end Go.Proofs.YtgmhjhgoamjeeaaGreatDoor
