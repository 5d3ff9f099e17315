/- The chapter's functions, walked by the abstract machine: plain lemmas, no condition. Printed by a program from longer texts: names made short. -/
import Derived.Test.YtgmhjhgoamjeeaaGreatDoorM6
import Derived.Test.YtgmhjhgoamjeeaaGreatDoorM7
set_option linter.unusedSectionVars false
set_option linter.unusedSimpArgs false
set_option linter.unusedVariables false
set_option maxHeartbeats 64000000
noncomputable section
namespace Go.Proofs.YtgmhjhgoamjeeaaGreatDoor
section
open Go a7
abbrev ad (d aZ:Nat):br:=⟨some d,.bV (.t aZ),none,[aZ]⟩
abbrev bH (d aZ:Nat):br:=⟨some d,.eD (.t aZ),none,[aZ]⟩
abbrev cR (d:Nat):br:=⟨some d,.bV (.c (.bool false)),none,[]⟩
abbrev df (d:Nat):br:=⟨some d,.bV (.c (.int .i64 0)),none,[]⟩
abbrev dn (d aZ:Nat):br:=⟨some d,.len .slice (.t aZ),none,[aZ]⟩
abbrev dA (d aZ:Nat):br:=⟨some d,.fX 5 (.t aZ),none,[aZ]⟩
abbrev dH (d aZ:Nat):br:=⟨some d,.tr (.t aZ),none,[aZ]⟩
abbrev dP (d aZ bD:Nat):br:=⟨some d,.bV (.t aZ),(some (bD,true)),[aZ,bD]⟩
abbrev dQ (d aZ:Nat):br:=⟨some d,.bin (.int .add) (.t aZ) (.c (.int .i64 1)),none,[aZ]⟩
abbrev dZ (d aZ:Nat):br:=⟨some d,.fy 0 (.t aZ),none,[aZ]⟩
abbrev ei (d aZ:Nat):br:=⟨some d,.fy 1 (.t aZ),none,[aZ]⟩
abbrev eo (d aZ bD:Nat):br:=⟨some d,.bin (.int .lss) (.t aZ) (.t bD),none,[aZ,bD]⟩
abbrev eC (d:Nat):br:=⟨some d,.bV (.c .bL),none,[]⟩
abbrev eL (d aZ bD:Nat):br:=⟨some d,.pick (.t aZ) (.t bD) (.c (.bool false)),none,[aZ,bD]⟩
abbrev eQ (d aZ bD:Nat):br:=⟨some d,.pick (.t aZ) (.c (.bool true)) (.t bD),none,[aZ,bD]⟩
abbrev fu (d aZ bD:Nat):br:=⟨some d,.bQ 5 (.t aZ) (.t bD),none,[aZ,bD]⟩
abbrev fS (d aZ bD:Nat):br:=⟨some d,.bV (.t aZ),(some (bD,false)),[aZ,bD]⟩
abbrev ht (d aZ:Nat):br:=⟨some d,.ext (.t aZ) 0,none,[aZ]⟩
abbrev hv (d aZ:Nat):br:=⟨some d,.ext (.t aZ) 1,none,[aZ]⟩
abbrev hx (d aZ bD:Nat):br:=⟨some d,.eD (.t aZ),(some (bD,false)),[aZ,bD]⟩
abbrev hY (d aZ:Nat):br:=⟨some d,.box (.t aZ),none,[aZ]⟩
abbrev hZ (d aZ bD:Nat):br:=⟨some d,.eD (.t aZ),(some (bD,true)),[aZ,bD]⟩
abbrev jb (d aZ:Nat):br:=⟨some d,.fy 4 (.t aZ),none,[aZ]⟩
abbrev jc (d aZ:Nat):br:=⟨some d,.un .not (.t aZ),none,[aZ]⟩
abbrev jd (d aZ:Nat):br:=⟨some d,.fy 3 (.t aZ),none,[aZ]⟩
abbrev jB (d:Nat):br:=⟨some d,.bV (.c (.bool true)),none,[]⟩
abbrev jV (d aZ bD:Nat):br:=⟨some d,.app 5 (.t aZ) (.t bD),none,[aZ,bD]⟩
abbrev j' (d aZ:Nat):br:=⟨some d,.fX 4 (.t aZ),none,[aZ]⟩
abbrev j_ (d aZ:Nat):br:=⟨some d,.bQ 5 (.t aZ) (.c (.int .i64 0)),none,[aZ]⟩
abbrev kq (d aZ bD:Nat):br:=⟨some d,.bQ 1 (.t aZ) (.t bD),none,[aZ,bD]⟩
abbrev lA (d aZ:Nat):br:=⟨some d,.iB 1 5 [(.int .i64 0),(.int .i64 0),(.int .i64 0),(.str []),.bL] [(0,5,(.t aZ))],none,[aZ]⟩
abbrev lB (d aZ:Nat):br:=⟨some d,.len .str (.t aZ),none,[aZ]⟩
abbrev nw (d:Nat):br:=⟨some d,.new [(.int .i64 0),(.int .i64 0),(.int .i64 0),(.str []),.bL],none,[]⟩
abbrev nx (d aZ:Nat):br:=⟨some d,.fy 2 (.t aZ),none,[aZ]⟩
abbrev oi (d aZ:Nat):br:=⟨some d,.bin (.int .eql) (.t aZ) (.c (.int .i64 0)),none,[aZ]⟩
abbrev oj (d aZ bD:Nat):br:=⟨some d,.app 1 (.t aZ) (.t bD),none,[aZ,bD]⟩
abbrev re (d aZ bD:Nat):br:=⟨some d,.bin (.str .eql) (.t aZ) (.t bD),none,[aZ,bD]⟩
abbrev rf (d:Nat):br:=⟨some d,.bV (.c (.int .i64 2)),none,[]⟩
abbrev tX (d aZ bD:Nat):br:=⟨some d,.fy 1 (.t aZ),(some (bD,false)),[aZ,bD]⟩
abbrev tY (d aZ bD:Nat):br:=⟨some d,.un .not (.t aZ),(some (bD,false)),[aZ,bD]⟩
abbrev tZ (d:Nat):br:=⟨some d,.new [(.str []),(.str []),(.int .i64 0),(.int .i64 0),.bL],none,[]⟩
abbrev t' (d aZ bD:Nat):br:=⟨some d,.fy 1 (.t aZ),(some (bD,true)),[aZ,bD]⟩
abbrev vD (d aZ bD:Nat):br:=⟨some d,.len .slice (.t aZ),(some (bD,false)),[aZ,bD]⟩
abbrev vE (d aZ bD er:Nat):br:=⟨some d,.bQ 5 (.t aZ) (.t bD),(some (er,false)),[aZ,bD,er]⟩
abbrev vF (d aZ bD:Nat):br:=⟨some d,.fy 4 (.t aZ),(some (bD,false)),[aZ,bD]⟩
abbrev vG (d aZ:Nat):br:=⟨some d,.bin (.int .eql) (.t aZ) (.c (.int .i64 1)),none,[aZ]⟩
abbrev vH (d:Nat):br:=⟨some d,.new [(.int .i64 0),(.int .i64 0),(.str []),(.int .i64 0)],none,[]⟩
abbrev vI (d aZ:Nat):br:=⟨some d,.ea 5 (.t aZ) (some (.c (.int .i64 1))) none none,none,[aZ]⟩
abbrev vJ (d aZ:Nat):br:=⟨some d,.bin (.int .eql) (.t aZ) (.c (.int .i64 2)),none,[aZ]⟩
abbrev xX (d aZ bD er:Nat):br:=⟨some d,.bin (.int .eql) (.t aZ) (.t bD),(some (er,true)),[aZ,bD,er]⟩
abbrev xY (d aZ bD:Nat):br:=⟨some d,.fX 5 (.t aZ),(some (bD,false)),[aZ,bD]⟩
abbrev xZ (d:Nat):br:=⟨some d,.bV (.c .kI),none,[]⟩
abbrev x0 (d aZ:Nat):br:=⟨some d,.iB 1 1 [.bL] [(0,1,(.t aZ))],none,[aZ]⟩
abbrev x1 (d aZ:Nat):br:=⟨some d,.call 79 [(.t aZ)],none,[aZ]⟩
abbrev x2 (d aZ bD:Nat):br:=⟨some d,.bin (.int .sub) (.t aZ) (.t bD),none,[aZ,bD]⟩
abbrev x3 (d aZ:Nat):br:=⟨some d,.bin (.int .eql) (.t aZ) (.c (.int .i64 3)),none,[aZ]⟩
abbrev x4 (d aZ bD:Nat):br:=⟨some d,.bin (.int .geq) (.t aZ) (.t bD),none,[aZ,bD]⟩
abbrev x5 (d aZ bD:Nat):br:=⟨some d,.tr (.t aZ),(some (bD,true)),[aZ,bD]⟩
abbrev AH (d aZ bD:Nat):br:=⟨some d,.fy 2 (.t aZ),(some (bD,true)),[aZ,bD]⟩
abbrev AI (d aZ bD:Nat):br:=⟨some d,.fy 0 (.t aZ),(some (bD,false)),[aZ,bD]⟩
abbrev AJ (d aZ bD:Nat):br:=⟨some d,.bQ 4 (.t aZ) (.t bD),none,[aZ,bD]⟩
abbrev AK (d aZ:Nat):br:=⟨some d,.call 72 [(.t aZ)],none,[aZ]⟩
abbrev AL (d aZ:Nat):br:=⟨some d,.call 73 [(.t aZ)],none,[aZ]⟩
abbrev AM (d aZ bD:Nat):br:=⟨some d,.fy 4 (.t aZ),(some (bD,true)),[aZ,bD]⟩
abbrev AN (d aZ bD:Nat):br:=⟨some d,.bin (.int .add) (.t aZ) (.t bD),none,[aZ,bD]⟩
abbrev AO (d aZ bD:Nat):br:=⟨some d,.fy 0 (.t aZ),(some (bD,true)),[aZ,bD]⟩
abbrev AP (d:Nat):br:=⟨some d,.new [(.int .i64 0),(.int .i64 0),(.int .i64 0),(.str [])],none,[]⟩
abbrev Ds (d aZ bD er:Nat):br:=⟨some d,.call 47 [(.t aZ),(.t bD),(.t er)],none,[aZ,bD,er]⟩
abbrev Dt (d aZ bD er:Nat):br:=⟨some d,.call 49 [(.t aZ),(.t bD),(.t er)],none,[aZ,bD,er]⟩
abbrev Du (d aZ bD:Nat):br:=⟨some d,.fy 2 (.t aZ),(some (bD,false)),[aZ,bD]⟩
abbrev Dv (d aZ bD:Nat):br:=⟨some d,.nh (.t aZ) (.t bD),none,[aZ,bD]⟩
abbrev Dw (d aZ:Nat):br:=⟨some d,.nh (.t aZ) (.c (.int .i64 0)),none,[aZ]⟩
abbrev Dx (d aZ:Nat):br:=⟨some d,.bin (.int .eql) (.t aZ) (.c (.int .i64 5)),none,[aZ]⟩
abbrev Dy (d aZ bD:Nat):br:=⟨some d,.bin (.int .eql) (.t aZ) (.c (.int .u8 95)),(some (bD,false)),[aZ,bD]⟩
abbrev Dz (d aZ:Nat):br:=⟨some d,.bin (.int .eql) (.t aZ) (.c (.int .i64 15)),none,[aZ]⟩
abbrev DA (d aZ:Nat):br:=⟨some d,.bin (.int .eql) (.t aZ) (.c (.int .i64 46)),none,[aZ]⟩
abbrev DB (d aZ:Nat):br:=⟨some d,.bin (.int .eql) (.t aZ) (.c (.int .i64 47)),none,[aZ]⟩
abbrev DC (d aZ:Nat):br:=⟨some d,.bin (.int .eql) (.t aZ) (.c (.int .i64 50)),none,[aZ]⟩
abbrev DD (d aZ:Nat):br:=⟨some d,.bin (.int .geq) (.t aZ) (.c (.int .i64 0)),none,[aZ]⟩
abbrev DE (d aZ:Nat):br:=⟨some d,.iB 1 4 [(.int .i64 0),(.int .i64 0),(.str []),(.int .i64 0)] [(0,4,(.t aZ))],none,[aZ]⟩
abbrev DF (d aZ bD:Nat):br:=⟨some d,.bQ 4 (.t aZ) (.c (.int .i64 0)),(some (bD,true)),[aZ,bD]⟩
abbrev Hj (d:Nat):br:=⟨some d,.iB 0 5 [(.int .i64 0),(.int .i64 0),(.int .i64 0),(.str []),.bL] [],none,[]⟩
abbrev Hk (d aZ:Nat):br:=⟨some d,.bin (.int .neq) (.t aZ) (.c (.int .i64 0)),none,[aZ]⟩
abbrev Hl (d aZ bD er:Nat):br:=⟨some d,.bQ 5 (.t aZ) (.t bD),(some (er,true)),[aZ,bD,er]⟩
abbrev Hm (d aZ:Nat):br:=⟨some d,.bin (.str .eql) (.t aZ) (.c (.str [])),none,[aZ]⟩
abbrev Hn (d aZ:Nat):br:=⟨some d,.bin (.int .eql) (.t aZ) (.c (.int .i64 4)),none,[aZ]⟩
abbrev Ho (d aZ:Nat):br:=⟨some d,.call 88 [(.t aZ),(.c (.int .u8 97)),(.c (.int .u8 122))],none,[aZ]⟩
abbrev Hp (d aZ:Nat):br:=⟨some d,.bin (.int .geq) (.t aZ) (.c (.int .i64 1)),none,[aZ]⟩
abbrev Hq (d aZ:Nat):br:=⟨some d,.bin (.int .eql) (.t aZ) (.c (.int .i64 45)),none,[aZ]⟩
abbrev Hr (d aZ:Nat):br:=⟨some d,.bin (.int .eql) (.t aZ) (.c (.int .i64 16)),none,[aZ]⟩
abbrev Hs (d aZ:Nat):br:=⟨some d,.bin (.int .eql) (.t aZ) (.c (.int .i64 12)),none,[aZ]⟩
abbrev Ht (d aZ:Nat):br:=⟨some d,.bin (.int .eql) (.t aZ) (.c (.int .i64 14)),none,[aZ]⟩
abbrev Hu (d aZ:Nat):br:=⟨some d,.bin (.int .leq) (.t aZ) (.c (.int .i64 1)),none,[aZ]⟩
abbrev Hv (d aZ:Nat):br:=⟨some d,.bin (.int .sub) (.t aZ) (.c (.int .i64 1)),none,[aZ]⟩
abbrev Hw (d aZ bD:Nat):br:=⟨some d,.looks 111 .bL false (.t aZ) (.t bD),none,[aZ,bD]⟩
abbrev Hx (d aZ bD:Nat):br:=⟨some d,.sg (.t aZ) (some (.t bD)) none none,none,[aZ,bD]⟩
abbrev Hy (d:Nat):br:=⟨some d,.build [(.int .i64 0),(.int .i64 0),(.int .i64 0),(.str [])] [],none,[]⟩
abbrev Nl (d aZ bD:Nat):br:=⟨some d,.look .str (.agg [(.str []),(.str []),(.int .i64 0),(.int .i64 0),.bL]) true (.t aZ) (.t bD),none,[aZ,bD]⟩
abbrev Nn (d aZ bD:Nat):br:=⟨some d,.look .str (.agg [(.str []),(.str []),(.int .i64 0),(.int .i64 0),.bL]) false (.t aZ) (.t bD),none,[aZ,bD]⟩
abbrev No (d aZ bD er kQ:Nat):br:=⟨some d,.build [(.int .i64 0),(.int .i64 0),(.str []),(.int .i64 0)] [(0,1,(.t aZ)),(1,1,(.t bD)),(2,1,(.t er)),(3,1,(.t kQ))],none,[aZ,bD,er,kQ]⟩
abbrev Nd (d:Nat):br:=⟨some d,.build [(.int .i64 0),(.int .i64 0),(.int .i64 0),(.str []),.bL] [(0,1,(.c (.int .i64 10)))],none,[]⟩
abbrev Nf (d aZ bD:Nat):br:=⟨some d,.build [(.int .i64 0),(.int .i64 0),(.str []),(.int .i64 0)] [(0,1,(.c (.int .i64 16))),(2,1,(.t aZ)),(3,1,(.t bD))],none,[aZ,bD]⟩
abbrev Ng (d aZ:Nat):br:=⟨some d,.build [(.int .i64 0),(.int .i64 0),(.str []),(.int .i64 0)] [(0,1,(.t aZ))],none,[aZ]⟩
abbrev Nh (d aZ:Nat):br:=⟨some d,.build [(.int .i64 0),(.int .i64 0),(.str []),(.int .i64 0)] [(0,1,(.t aZ)),(1,1,(.c (.int .i64 1)))],none,[aZ]⟩
abbrev Ni (d aZ bD:Nat):br:=⟨some d,.iB 2 4 [(.int .i64 0),(.int .i64 0),(.str []),(.int .i64 0)] [(0,4,(.t aZ)),(4,4,(.t bD))],none,[aZ,bD]⟩
abbrev Nj (d:Nat):br:=⟨some d,.iB 8 1 [(.str [])] [(0,1,(.c (.str [43]))),(1,1,(.c (.str [45]))),(2,1,(.c (.str [42]))),(3,1,(.c (.str [47]))),(4,1,(.c (.str [109,111,100]))),(5,1,(.c (.str [61]))),(6,1,(.c (.str [60]))),(7,1,(.c (.str [60,61])))],none,[]⟩
abbrev Nk (d aZ:Nat):br:=⟨some d,.build [(.int .i64 0),(.int .i64 0),(.int .i64 0),(.str [])] [(0,1,(.c (.int .i64 7))),(3,1,(.t aZ))],none,[aZ]⟩
structure cE (f n:Nat) (fn:Func) (c:aR) (eJ:List ue):Prop where
 aF:Tryz.prog.funcs[f]? =some fn
 pg:(fn.body,fn.ntmps,Nat.ble fn.ntmps top,Nat.beq f dy,eI Tryz.prog fn.ntmps (fn.body.getD .skip),oY Tryz.prog fn.ntmps fn.results.toList,c.plain)=(some (fn.body.getD .skip),n,true,false,c,eJ,true)
theorem cE.z {f n:Nat} {fn:Func} {c:aR} {eJ:List ue} (Z:cE f n fn c eJ) {args:List V} {h:ag} {K:V->ag->Prop} (aw:Nat.ble args.length n=true) (H:ft Tryz.prog c (bg.bU args) h fun e r ab=>e.ends/\∃ah,lM r ab eJ=some ah/\K (oneOf ah) ab):cr Tryz.prog f args h K:=by have q:=Z.pg;simp only [aq9] at q;obtain ⟨aa,ae,aM,bw,cw,e_,hC⟩:=q;exact abt follows zE Z.aF aa aM bw (by rw [ae];exact aw) cw e_ hC H
theorem cE.d {f n:Nat} {fn:Func} {c:aR} {eJ:List ue} (Z:cE f n fn c eJ) {args:List V} {h:ag} {v:Bool} (aw:Nat.ble args.length n=true) (H:gg Tryz.prog c (bg.bU args) h fun e r ab=>e.ends/\Ext h ab/\lM r ab eJ=some [.bool v]):e4 Tryz.prog f args h (.bool v) h:=by have q:=Z.pg;simp only [aq9] at q;obtain ⟨aa,ae,aM,bw,cw,e_,hC⟩:=q;exact abq follows zE Z.aF aa aM bw (by rw [ae];exact aw) cw e_ hC H
def fU:aR:=
 .seq (.aj [hY 5 2,cR 6])
 (.seq (.seq (.draw [ad 13 0,Hj 14,ad 15 1,dA 17 5,lA 18 17,jV 16 14 15,jV 19 16 18,⟨some 20,.call 15 [(.t 13),(.t 19)],none,[13,19]⟩] [(3,[5,6])])
 (.cond (.t 20)
 (.seq (.aj [⟨some 21,.call 16 [],none,[]⟩,ad 6 21])
 (.ret))
 (.skip)))
 (.seq (.aj [ad 22 1,⟨some 23,.call 17 [(.t 22)],none,[22]⟩,ad 7 23])
 (.seq (.aj [ad 25 0,ad 26 7,dA 27 5,⟨some 28,.call 18 [(.t 25),(.t 26),(.t 27)],none,[25,26,27]⟩,ad 24 28,ht 29 24,hv 30 24,ad 8 29,ad 9 30])
 (.seq (.aj [ad 32 0,ad 33 1,dA 34 5,⟨some 35,.call 19 [(.t 32),(.t 33),(.t 34)],none,[32,33,34]⟩,ad 31 35,ht 36 31,hv 37 31,ad 10 36,ad 11 37])
 (.seq (.aj [ad 38 8,ad 39 10,⟨some 40,.bin (.yv false) (.t 38) (.t 39),none,[38,39]⟩,ad 41 40,dP 42 9 41,dP 43 11 41,xX 44 42 43 41,eL 45 41 44,ad 46 45,dP 47 0 46,dP 48 7 46,⟨some 49,.call 20 [(.t 47),(.t 48)],(some (46,true)),[47,48,46]⟩,dP 50 0 46,dP 51 1 46,⟨some 52,.call 21 [(.t 50),(.t 51)],(some (46,true)),[50,51,46]⟩,xX 53 49 52 46,eL 54 46 53,ad 12 54])
 (.seq (.aj [ad 55 12,ad 56 55,dP 57 7 56,dP 58 1 56,⟨some 59,.call 22 [(.t 57),(.t 58)],(some (56,true)),[57,58,56]⟩,eL 60 56 59,ad 61 60,⟨some 62,.call 16 [],(some (61,true)),[61]⟩,eL 63 61 62,ad 6 63])
 (.ret)))))))
theorem ZX:cE 4 64 Tryz.f4 fU [.t 6]:=⟨Tryz.func4,by kernel_rfl⟩
def v_:aR:=
 .seq (.aj [cR 4])
 (.seq (.aj [ad 5 0,dn 6 5,⟨some 7,.bin (.int .gtr) (.t 6) (.c (.int .i64 12)),none,[6]⟩,ad 8 7,fS 9 1 8,vD 10 9 8,⟨some 11,.bin (.int .gtr) (.t 10) (.c (.int .i64 8)),(some (8,false)),[10,8]⟩,eQ 12 8 11,ad 13 12,fS 14 1 13,⟨some 15,.call 32 [(.t 14),(.c (.int .i64 40))],(some (13,false)),[14,13]⟩,eQ 16 13 15,ad 4 16])
 (.ret))
theorem ZL:cE 15 17 Tryz.f15 v_ [.t 4]:=⟨Tryz.func15,by kernel_rfl⟩
def OP:aR:=
 .seq (.seq (.aj [ad 6 4,ad 7 0,dn 8 7,eo 9 6 8])
 (.cond (.t 9)
 (.skip)
 (.exit 0)))
 (.seq (.block 1 (.seq (.aj [ad 12 0,ad 13 4,fu 14 12 13,dA 15 14,nw 5,⟨none,.st 5 (.t 5) (.t 15),none,[5,15]⟩])
 (.seq (.aj [ad 16 0,ad 17 4,fu 18 16 17,jb 19 18,bH 20 19,⟨some 21,.call 17 [(.t 20)],none,[20]⟩,jb 22 5,⟨none,.st 1 (.t 22) (.t 21),none,[22,21]⟩])
 (.aj [ad 23 3,dA 24 5,lA 25 24,jV 26 23 25,ad 3 26]))))
 (.aj [ad 10 4,dQ 11 10,ad 4 11]))
def uq:aR:=
 .seq (.aj [eC 2])
 (.seq (.aj [eC 3])
 (.seq (.seq (.aj [df 4])
 (.block 0 (.loop OP)))
 (.seq (.aj [ad 27 3,ad 2 27])
 (.ret))))
theorem ZM:cE 17 28 Tryz.f17 uq [.t 2]:=⟨Tryz.func17,by kernel_rfl⟩
def OQ:aR:=
 .seq (.aj [hY 5 2,cR 6,df 7])
 (.seq (.draw [ad 11 0,Hj 12,ad 13 1,dA 15 5,lA 16 15,jV 14 12 13,jV 17 14 16,⟨some 18,.call 46 [(.t 11),(.t 17)],none,[11,17]⟩,ad 10 18,ht 19 10,hv 20 10,ad 8 19,ad 9 20] [(3,[5,6])])
 (.seq (.seq (.aj [ad 21 9,Hk 22 21])
 (.cond (.t 22)
 (.seq (.aj [ad 23 9,cR 6,ad 7 23])
 (.ret))
 (.skip)))
 (.seq (.draw [ad 24 8,ad 25 1,dA 27 5,lA 28 27,⟨some 26,.call 48 [(.t 25)],none,[25]⟩,Ds 29 24 26 28,ad 6 29,df 7] [(2,[4,5])])
 (.ret))))
theorem ZN:cE 18 30 Tryz.f18 OQ [.t 6,.t 7]:=⟨Tryz.func18,by kernel_rfl⟩
def OR:aR:=
 .seq (.aj [hY 5 2,cR 6,df 7])
 (.seq (.draw [ad 9 0,Hj 10,ad 11 1,dA 13 5,lA 14 13,jV 12 10 11,jV 15 12 14,⟨some 16,.call 21 [(.t 9),(.t 15)],none,[9,15]⟩,ad 8 16] [(3,[5,6])])
 (.seq (.seq (.aj [ad 17 8,Hk 18 17])
 (.cond (.t 18)
 (.seq (.aj [ad 19 8,cR 6,ad 7 19])
 (.ret))
 (.skip)))
 (.seq (.draw [ad 20 0,ad 21 1,dA 23 5,lA 24 23,⟨some 22,.call 50 [(.t 21)],none,[21]⟩,Dt 25 20 22 24,ad 6 25,df 7] [(2,[4,5])])
 (.ret))))
theorem ZO:cE 19 26 Tryz.f19 OR [.t 6,.t 7]:=⟨Tryz.func19,by kernel_rfl⟩
def OS:aR:=
 .seq (.aj [df 4])
 (.seq (.aj [ad 8 0,ad 9 1,⟨some 10,.call 46 [(.t 8),(.t 9)],none,[8,9]⟩,ad 7 10,ht 11 7,hv 12 7,ad 5 11,ad 6 12])
 (.seq (.aj [ad 13 6,ad 4 13])
 (.ret)))
theorem ZP:cE 20 14 Tryz.f20 OS [.t 4]:=⟨Tryz.func20,by kernel_rfl⟩
def OT:aR:=
 .seq (.seq (.aj [ad 30 6,ad 31 5,eo 32 30 31])
 (.cond (.t 32)
 (.skip)
 (.exit 2)))
 (.seq (.block 3 (.seq (.draw [ad 35 0,ad 36 6,fu 37 35 36,dZ 38 37,bH 39 38,ad 40 0,ad 41 5,fu 42 40 41,dZ 43 42,bH 44 43,re 45 39 44,ad 46 45,fS 47 0 46,fS 48 6 46,vE 49 47 48 46,tX 50 49 46,hx 51 50 46,fS 52 0 46,fS 53 5 46,vE 54 52 53 46,tX 55 54 46,hx 56 55 46,⟨some 57,.bin (.str .eql) (.t 51) (.t 56),(some (46,false)),[51,56,46]⟩,fS 58 57 46,dP 59 0 58,dP 60 6 58,Hl 61 59 60 58,AH 62 61 58,hZ 63 62 58,dP 64 0 58,dP 65 5 58,Hl 66 64 65 58,AH 67 66 58,hZ 68 67 58,xX 69 63 68 58,⟨some 70,.pick (.t 58) (.t 69) (.c (.bool false)),(some (46,false)),[58,69,46]⟩,eQ 71 46 70] [])
 (.cond (.t 71)
 (.seq (.aj [rf 4])
 (.ret))
 (.skip))))
 (.aj [ad 33 6,dQ 34 33,ad 6 34]))
def OU:aR:=
 .seq (.seq (.aj [ad 8 5,ad 9 0,dn 10 9,eo 11 8 10])
 (.cond (.t 11)
 (.skip)
 (.exit 0)))
 (.seq (.block 1 (.seq (.seq (.aj [ad 14 0,ad 15 5,fu 16 14 15,dZ 17 16,bH 18 17,⟨some 19,.call 51 [(.c (.int .i64 4)),(.t 18)],none,[18]⟩,jc 20 19,ad 21 20,fS 22 0 21,fS 23 5 21,vE 24 22 23 21,vF 25 24 21,hx 26 25 21,vD 27 26 21,⟨some 28,.bin (.int .gtr) (.t 27) (.c (.int .i64 1)),(some (21,false)),[27,21]⟩,eQ 29 21 28])
 (.cond (.t 29)
 (.seq (.aj [rf 4])
 (.ret))
 (.skip)))
 (.seq (.aj [df 6])
 (.block 2 (.loop OT)))))
 (.aj [ad 12 5,dQ 13 12,ad 5 13]))
def OV:aR:=
 .seq (.seq (.aj [ad 72 7,ad 73 1,dn 74 73,eo 75 72 74])
 (.cond (.t 75)
 (.skip)
 (.exit 4)))
 (.seq (.block 5 (.seq (.aj [ad 78 1,ad 79 7,fu 80 78 79,dZ 81 80,bH 82 81,⟨some 83,.bin (.int .lss) (.t 82) (.c (.int .i64 10)),none,[82]⟩,ad 84 83,fS 85 1 84,fS 86 7 84,vE 87 85 86 84,AI 88 87 84,hx 89 88 84,⟨some 90,.bin (.int .gtr) (.t 89) (.c (.int .i64 16)),(some (84,false)),[89,84]⟩,eQ 91 84 90,ad 92 91,fS 93 1 92,fS 94 7 92,vE 95 93 94 92,xY 96 95 92,⟨some 97,.call 40 [(.t 96)],(some (92,false)),[96,92]⟩,tY 98 97 92,eQ 99 92 98])
 (.cond (.t 99)
 (.seq (.aj [rf 4])
 (.ret))
 (.skip))))
 (.aj [ad 76 7,dQ 77 76,ad 7 77]))
def c21:aR:=
 .seq (.aj [df 4])
 (.seq (.seq (.aj [df 5])
 (.block 0 (.loop OU)))
 (.seq (.seq (.aj [df 7])
 (.block 4 (.loop OV)))
 (.seq (.seq (.aj [ad 100 0,ad 101 1,⟨some 102,.call 52 [(.t 100),(.t 101)],none,[100,101]⟩,jc 103 102])
 (.cond (.t 103)
 (.seq (.aj [rf 4])
 (.ret))
 (.skip)))
 (.seq (.aj [df 4])
 (.ret)))))
theorem ZQ:cE 21 104 Tryz.f21 c21 [.t 4]:=⟨Tryz.func21,by kernel_rfl⟩
def OX:aR:=
 .seq (.seq (.aj [ad 11 5,ad 12 0,dn 13 12,eo 14 11 13])
 (.cond (.t 14)
 (.skip)
 (.exit 0)))
 (.seq (.block 1 (.seq (.draw [ad 17 0,ad 18 5,fu 19 17 18,dA 20 19,ad 21 1,ad 22 5,fu 23 21 22,dA 24 23,⟨some 25,.call 53 [(.t 20),(.t 24)],none,[20,24]⟩,jc 26 25] [(3,[8]),(7,[8])])
 (.cond (.t 26)
 (.seq (.aj [cR 4])
 (.ret))
 (.skip))))
 (.aj [ad 15 5,dQ 16 15,ad 5 16]))
def OW:aR:=
 .seq (.aj [cR 4])
 (.seq (.seq (.aj [ad 6 0,dn 7 6,ad 8 1,dn 9 8,⟨some 10,.bin (.int .neq) (.t 7) (.t 9),none,[7,9]⟩])
 (.cond (.t 10)
 (.seq (.aj [cR 4])
 (.ret))
 (.skip)))
 (.seq (.seq (.aj [df 5])
 (.block 0 (.loop OX)))
 (.seq (.aj [jB 4])
 (.ret))))
theorem ZR:cE 22 27 Tryz.f22 OW [.t 4]:=⟨Tryz.func22,by kernel_rfl⟩
def OY:aR:=
 .seq (.aj [cR 4])
 (.seq (.aj [ad 5 0,ad 6 1,⟨some 7,.call 60 [(.t 5),(.t 6)],none,[5,6]⟩,ad 8 1,⟨some 9,.bin (.int .gtr) (.t 7) (.t 8),none,[7,8]⟩,ad 4 9])
 (.ret))
theorem ZS:cE 32 10 Tryz.f32 OY [.t 4]:=⟨Tryz.func32,by kernel_rfl⟩
def OZ:aR:=
 .seq (.aj [hY 1 0,cR 2])
 (.seq (.seq (.aj [dZ 4 1,bH 5 4,⟨some 6,.bin (.int .lss) (.t 5) (.c (.int .i64 10)),none,[5]⟩,ad 7 6,AI 8 1 7,hx 9 8 7,⟨some 10,.bin (.int .gtr) (.t 9) (.c (.int .i64 16)),(some (7,false)),[9,7]⟩,eQ 11 7 10])
 (.cond (.t 11)
 (.seq (.aj [cR 2])
 (.ret))
 (.skip)))
 (.seq (.aj [dA 12 1,⟨some 13,.build [(.int .i64 0),(.int .i64 0),(.int .i64 0),(.str []),.bL] [(0,1,(.c (.int .i64 22)))],none,[]⟩,⟨some 14,.iB 2 5 [(.int .i64 0),(.int .i64 0),(.int .i64 0),(.str []),.bL] [(0,5,(.t 12)),(5,5,(.t 13))],none,[12,13]⟩,⟨some 15,.build [(.int .i64 0),(.int .i64 0),(.int .i64 0),(.str []),.bL] [(0,1,(.c (.int .i64 52))),(4,1,(.t 14))],none,[14]⟩,lA 16 15,⟨some 17,.call 65 [(.t 16)],none,[16]⟩,ad 3 17])
 (.seq (.aj [ad 18 3,⟨some 19,.bin (.int .neq) (.t 18) (.c (.int .i64 2)),none,[18]⟩,ad 2 19])
 (.ret))))
theorem ZT:cE 37 20 Tryz.f37 OZ [.t 2]:=⟨Tryz.func37,by kernel_rfl⟩
def O1:aR:=
 .seq (.seq (.aj [ad 38 5,jb 39 1,bH 40 39,dn 41 40,eo 42 38 41])
 (.cond (.t 42)
 (.skip)
 (.exit 0)))
 (.seq (.block 1 (.seq (.aj [cR 6])
 (.seq (.seq (.aj [ad 45 3,ad 46 5,kq 47 45 46,bH 48 47,⟨some 49,.bin (.int .eql) (.t 48) (.c (.int .i64 8)),none,[48]⟩])
 (.cond (.t 49)
 (.aj [jb 50 1,bH 51 50,ad 52 5,fu 53 51 52,dZ 54 53,bH 55 54,vG 56 55,ad 6 56])
 (.draw [jb 57 1,bH 58 57,ad 59 5,fu 60 58 59,dZ 61 60,bH 62 61,ad 64 3,ad 65 5,kq 66 64 65,bH 67 66,⟨some 63,.call 66 [(.t 62)],none,[62]⟩,⟨some 68,.bin (.int .eql) (.t 63) (.t 67),none,[63,67]⟩,ad 6 68] [(1,[10]),(5,[10]),(9,[10,13])])))
 (.seq (.aj [ad 69 6,jc 70 69,ad 71 70,vF 72 1 71,hx 73 72 71,fS 74 5 71,vE 75 73 74 71,xY 76 75 71,⟨some 77,.call 40 [(.t 76)],(some (71,false)),[76,71]⟩,tY 78 77 71,eQ 79 71 78])
 (.cond (.t 79)
 (.seq (.aj [cR 2])
 (.ret))
 (.skip))))))
 (.aj [ad 43 5,dQ 44 43,ad 5 44]))
def O0:aR:=
 .seq (.aj [hY 1 0,cR 2])
 (.seq (.seq (.aj [dZ 7 1,bH 8 7,⟨some 9,.call 66 [(.t 8)],none,[8]⟩,oi 10 9,ad 11 10,xY 12 1 11,⟨some 13,.call 67 [(.t 12)],(some (11,false)),[12,11]⟩,tY 14 13 11,eQ 15 11 14,ad 16 15,xY 17 1 16,⟨some 18,.call 68 [(.t 17)],(some (16,false)),[17,16]⟩,tY 19 18 16,eQ 20 16 19,ad 21 20,Du 22 1 21,hx 23 22 21,⟨some 24,.bin (.int .lss) (.t 23) (.c (.int .i64 0)),(some (21,false)),[23,21]⟩,eQ 25 21 24,ad 26 25,Du 27 1 26,hx 28 27 26,⟨some 29,.bin (.int .gtr) (.t 28) (.c (.int .i64 65536)),(some (26,false)),[28,26]⟩,eQ 30 26 29])
 (.cond (.t 30)
 (.seq (.aj [cR 2])
 (.ret))
 (.skip)))
 (.seq (.aj [dA 32 1,⟨some 33,.call 69 [(.t 32)],none,[32]⟩,ad 31 33,ht 34 31,hv 35 31,ad 3 34,ad 4 35])
 (.seq (.seq (.aj [ad 36 4,jc 37 36])
 (.cond (.t 37)
 (.seq (.aj [cR 2])
 (.ret))
 (.skip)))
 (.seq (.seq (.aj [df 5])
 (.block 0 (.loop O1)))
 (.seq (.aj [jB 2])
 (.ret))))))
theorem ZU:cE 40 80 Tryz.f40 O0 [.t 2]:=⟨Tryz.func40,by kernel_rfl⟩
def O3:aR:=
 .seq (.aj [eo 20 19 18])
 (.seq (.cond (.t 20)
 (.skip)
 (.exit 0))
 (.seq (.block 1 (.seq (.aj [fu 21 17 19,dA 22 21,nw 9,⟨none,.st 5 (.t 9) (.t 22),none,[9,22]⟩])
 (.seq (.aj [dA 23 9,⟨some 24,.call 37 [(.t 23)],none,[23]⟩,jc 25 24])
 (.cond (.t 25)
 (.seq (.aj [xZ 4,rf 5])
 (.ret))
 (.skip)))))
 (.aj [dQ 26 19,ad 19 26])))
def O2:aR:=
 .seq (.aj [xZ 4,df 5])
 (.seq (.aj [ad 11 0,⟨some 12,.call 70 [(.t 11)],none,[11]⟩,ad 10 12,ht 13 10,hv 14 10,ad 6 13,ad 7 14])
 (.seq (.seq (.aj [ad 15 7,jc 16 15])
 (.cond (.t 16)
 (.seq (.aj [xZ 4,rf 5])
 (.ret))
 (.skip)))
 (.seq (.seq (.aj [ad 17 1,dn 18 17,df 19])
 (.block 0 (.loop O3)))
 (.seq (.seq (.aj [ad 27 6,ad 28 1,⟨some 29,.call 71 [(.t 27),(.t 28)],none,[27,28]⟩,jc 30 29])
 (.cond (.t 30)
 (.seq (.aj [xZ 4,rf 5])
 (.ret))
 (.skip)))
 (.seq (.aj [ad 31 6,ad 4 31,df 5])
 (.ret))))))
theorem ZV:cE 46 32 Tryz.f46 O2 [.t 4,.t 5]:=⟨Tryz.func46,by kernel_rfl⟩
def Ig:aR:=
 .seq (.aj [eo 64 63 62])
 (.seq (.cond (.t 64)
 (.skip)
 (.exit 0))
 (.seq (.block 1 (.seq (.aj [AJ 65 61 63,j' 66 65,vH 16,⟨none,.st 4 (.t 16) (.t 66),none,[16,66]⟩])
 (.aj [ad 67 14,ad 68 67,dP 69 10 68,⟨some 70,.fX 4 (.t 16),(some (68,true)),[16,68]⟩,⟨some 71,.looks 111 (.bool false) false (.t 69) (.t 70),(some (68,true)),[69,70,68]⟩,eL 72 68 71,ad 14 72])))
 (.aj [dQ 73 63,ad 63 73])))
def Ih:aR:=
 .seq (.aj [eo 85 84 83])
 (.seq (.cond (.t 85)
 (.skip)
 (.exit 2))
 (.seq (.block 3 (.seq (.aj [AJ 86 82 84,j' 87 86,vH 18,⟨none,.st 4 (.t 18) (.t 87),none,[18,87]⟩])
 (.seq (.aj [ad 89 2,j' 90 18,⟨some 91,.call 74 [(.t 89),(.t 90)],none,[89,90]⟩,ad 88 91,ht 92 88,hv 93 88,ad 19 92,ad 20 93])
 (.seq (.aj [ad 94 0,ad 95 1,j' 96 18,⟨some 97,.call 75 [(.t 95),(.t 96)],none,[95,96]⟩,ad 98 19,Ds 99 94 97 98])
 (.cond (.t 99)
 (.seq (.aj [jB 6])
 (.ret))
 (.skip))))))
 (.aj [dQ 100 84,ad 84 100])))
def O4:aR:=
 .seq (.aj [cR 6])
 (.seq (.seq (.aj [ad 21 2,dn 22 21,oi 23 22])
 (.cond (.t 23)
 (.seq (.aj [ad 24 1,dn 25 24,oi 26 25,ad 6 26])
 (.ret))
 (.skip)))
 (.seq (.seq (.aj [ad 27 2,j_ 28 27,dA 29 28,AK 30 29,jc 31 30])
 (.cond (.t 31)
 (.seq (.aj [ad 32 2,j_ 33 32,dA 34 33,AL 35 34,vH 7,⟨none,.st 4 (.t 7) (.t 35),none,[7,35]⟩])
 (.seq (.aj [ad 37 2,j' 38 7,⟨some 39,.call 74 [(.t 37),(.t 38)],none,[37,38]⟩,ad 36 39,ht 40 36,hv 41 36,ad 8 40,ad 9 41])
 (.seq (.aj [ad 42 0,ad 43 1,j' 44 7,⟨some 45,.call 75 [(.t 43),(.t 44)],none,[43,44]⟩,ad 46 8,Ds 47 42 45 46,ad 6 47])
 (.ret))))
 (.skip)))
 (.seq (.aj [ad 49 1,⟨some 50,.call 76 [(.t 49)],none,[49]⟩,ad 48 50,ht 51 48,hv 52 48,⟨some 53,.ext (.t 48) 2,none,[48]⟩,nw 11,ad 10 51,⟨none,.st 5 (.t 11) (.t 52),none,[11,52]⟩,ad 12 53])
 (.seq (.aj [eC 13])
 (.seq (.aj [cR 14])
 (.seq (.seq (.aj [ad 54 12])
 (.cond (.t 54)
 (.aj [ad 56 0,dA 57 11,⟨some 58,.call 77 [(.t 56),(.t 57)],none,[56,57]⟩,ad 55 58,ht 59 55,hv 60 55,ad 13 59,ad 14 60])
 (.skip)))
 (.seq (.seq (.aj [ad 61 13,dn 62 61,df 63])
 (.block 0 (.loop Ig)))
 (.seq (.seq (.aj [ad 74 14,jc 75 74])
 (.cond (.t 75)
 (.seq (.draw [ad 76 0,ad 77 1,ad 79 2,vI 80 79,⟨some 78,.call 78 [(.t 77)],none,[77]⟩,Ds 81 76 78 80,ad 6 81] [])
 (.ret))
 (.skip)))
 (.seq (.seq (.aj [ad 82 13,dn 83 82,df 84])
 (.block 2 (.loop Ih)))
 (.seq (.aj [cR 6])
 (.ret)))))))))))
theorem O5:cE 47 101 Tryz.f47 O4 [.t 6]:=⟨Tryz.func47,by kernel_rfl⟩
def O':aR:=
 .seq (.aj [eo 8 7 6])
 (.seq (.cond (.t 8)
 (.skip)
 (.exit 0))
 (.seq (.block 1 (.seq (.aj [ad 9 7,ad 4 9])
 (.aj [ad 10 3,ad 11 0,ad 12 4,ad 13 4,dQ 14 13,ad 15 4,dQ 16 15,⟨some 17,.ea 5 (.t 11) (some (.t 12)) (some (.t 14)) (some (.t 16)),none,[11,12,14,16]⟩,x0 18 17,oj 19 10 18,ad 3 19])))
 (.aj [dQ 20 7,ad 7 20])))
def O9:aR:=
 .seq (.aj [eC 2])
 (.seq (.aj [eC 3])
 (.seq (.seq (.aj [ad 5 0,dn 6 5,df 7])
 (.block 0 (.loop O')))
 (.seq (.aj [ad 21 3,ad 2 21])
 (.ret))))
theorem ZW:cE 48 22 Tryz.f48 O9 [.t 2]:=⟨Tryz.func48,by kernel_rfl⟩
def Ii:aR:=
 .seq (.seq (.aj [ad 42 11,ad 43 1,dn 44 43,eo 45 42 44])
 (.cond (.t 45)
 (.skip)
 (.exit 0)))
 (.seq (.block 1 (.seq (.aj [ad 48 1,ad 49 11,kq 50 48 49,bH 51 50,j_ 52 51,dA 53 52,x1 54 53,jc 55 54])
 (.cond (.t 55)
 (.aj [ad 56 10,ad 57 1,ad 58 11,kq 59 57 58,bH 60 59,j_ 61 60,dA 62 61,lA 63 62,jV 64 56 63,ad 10 64])
 (.skip))))
 (.aj [ad 46 11,dQ 47 46,ad 11 47]))
def Ij:aR:=
 .seq (.seq (.aj [ad 76 14,ad 77 12,dn 78 77,eo 79 76 78,ad 80 79,dP 81 13 80,eL 82 80 81])
 (.cond (.t 82)
 (.skip)
 (.exit 2)))
 (.seq (.block 3 (.aj [ad 85 1,ad 86 12,ad 87 14,AJ 88 86 87,j' 89 88,⟨some 90,.call 84 [(.t 85),(.t 89)],none,[85,89]⟩,ad 13 90]))
 (.aj [ad 83 14,dQ 84 83,ad 14 84]))
def c49:aR:=
 .seq (.aj [cR 6])
 (.seq (.seq (.aj [ad 15 2,dn 16 15,oi 17 16])
 (.cond (.t 17)
 (.seq (.aj [ad 18 1,dn 19 18,oi 20 19,ad 6 20])
 (.ret))
 (.skip)))
 (.seq (.seq (.aj [ad 21 2,j_ 22 21,dA 23 22,x1 24 23,jc 25 24])
 (.cond (.t 25)
 (.seq (.aj [ad 26 2,j_ 27 26,dA 28 27,⟨some 29,.call 80 [(.t 28)],none,[28]⟩,vH 7,⟨none,.st 4 (.t 7) (.t 29),none,[7,29]⟩])
 (.seq (.aj [ad 31 2,j' 32 7,⟨some 33,.call 81 [(.t 31),(.t 32)],none,[31,32]⟩,ad 30 33,ht 34 30,hv 35 30,ad 8 34,ad 9 35])
 (.seq (.aj [ad 36 0,ad 37 1,j' 38 7,⟨some 39,.call 82 [(.t 37),(.t 38)],none,[37,38]⟩,ad 40 8,Dt 41 36 39 40,ad 6 41])
 (.ret))))
 (.skip)))
 (.seq (.aj [eC 10])
 (.seq (.seq (.aj [df 11])
 (.block 0 (.loop Ii)))
 (.seq (.seq (.aj [ad 65 10,dn 66 65,⟨some 67,.bin (.int .gtr) (.t 66) (.c (.int .i64 0)),none,[66]⟩])
 (.cond (.t 67)
 (.seq (.aj [ad 69 0,ad 70 10,j_ 71 70,dA 72 71,⟨some 73,.call 83 [(.t 69),(.t 72)],none,[69,72]⟩,ad 68 73,ht 74 68,hv 75 68,ad 12 74,ad 13 75])
 (.seq (.seq (.aj [df 14])
 (.block 2 (.loop Ij)))
 (.seq (.aj [ad 91 13])
 (.cond (.t 91)
 (.seq (.aj [ad 92 0,ad 93 1,ad 94 2,ad 95 12,⟨some 96,.call 85 [(.t 92),(.t 93),(.t 94),(.t 95)],none,[92,93,94,95]⟩,ad 6 96])
 (.ret))
 (.skip)))))
 (.skip)))
 (.seq (.draw [ad 97 0,ad 98 1,ad 100 2,vI 101 100,⟨some 99,.call 86 [(.t 98)],none,[98]⟩,Dt 102 97 99 101,ad 6 102] [])
 (.ret)))))))
theorem O_:cE 49 103 Tryz.f49 c49 [.t 6]:=⟨Tryz.func49,by kernel_rfl⟩
def Pe:aR:=
 .seq (.seq (.aj [ad 5 4,ad 6 0,dn 7 6,eo 8 5 7])
 (.cond (.t 8)
 (.skip)
 (.exit 0)))
 (.seq (.block 1 (.aj [ad 11 3,ad 12 0,ad 13 4,fu 14 12 13,dA 15 14,lA 16 15,x0 17 16,oj 18 11 17,ad 3 18]))
 (.aj [ad 9 4,dQ 10 9,ad 4 10]))
def Pd:aR:=
 .seq (.aj [eC 2])
 (.seq (.aj [eC 3])
 (.seq (.seq (.aj [df 4])
 (.block 0 (.loop Pe)))
 (.seq (.aj [ad 19 3,ad 2 19])
 (.ret))))
theorem ZY:cE 50 20 Tryz.f50 Pd [.t 2]:=⟨Tryz.func50,by kernel_rfl⟩
def Pf:aR:=
 .seq (.seq (.aj [ad 13 5,ad 14 1,lB 15 14,eo 16 13 15])
 (.cond (.t 16)
 (.skip)
 (.exit 0)))
 (.seq (.block 1 (.seq (.aj [ad 19 1,ad 20 5,Dv 21 19 20,⟨some 22,.call 87 [(.t 21)],none,[21]⟩,jc 23 22])
 (.cond (.t 23)
 (.seq (.aj [cR 4])
 (.ret))
 (.skip))))
 (.aj [ad 17 5,dQ 18 17,ad 5 18]))
def c51:aR:=
 .seq (.aj [cR 4])
 (.seq (.seq (.aj [ad 6 1,Hm 7 6,ad 8 7,fS 9 1 8,⟨some 10,.len .str (.t 9),(some (8,false)),[9,8]⟩,⟨some 11,.bin (.int .gtr) (.t 10) (.c (.int .i64 64)),(some (8,false)),[10,8]⟩,eQ 12 8 11])
 (.cond (.t 12)
 (.seq (.aj [cR 4])
 (.ret))
 (.skip)))
 (.seq (.seq (.aj [df 5])
 (.block 0 (.loop Pf)))
 (.seq (.seq (.aj [ad 24 0])
 (.block 2 (.seq (.aj [Hn 26 24,ad 25 26])
 (.cond (.t 25)
 (.seq (.aj [ad 27 1,Dw 28 27,⟨some 29,.call 88 [(.t 28),(.c (.int .u8 65)),(.c (.int .u8 90))],none,[28]⟩,ad 4 29])
 (.ret))
 (.seq (.aj [Dx 31 24,ad 30 31])
 (.cond (.t 30)
 (.seq (.aj [ad 32 1,Dw 33 32,Ho 34 33,ad 4 34])
 (.ret))
 (.skip)))))))
 (.seq (.aj [ad 35 1,Dw 36 35,Ho 37 36,ad 38 37,fS 39 1 38,⟨some 40,.nh (.t 39) (.c (.int .i64 0)),(some (38,false)),[39,38]⟩,Dy 41 40 38,eQ 42 38 41,ad 43 42,dP 44 1 43,⟨some 45,.bin (.str .neq) (.t 44) (.c (.str [95])),(some (43,true)),[44,43]⟩,eL 46 43 45,ad 47 46,dP 48 1 47,⟨some 49,.call 90 [],(some (47,true)),[47]⟩,⟨some 50,.call 89 [(.t 48),(.t 49)],(some (47,true)),[48,49,47]⟩,⟨some 51,.un .not (.t 50),(some (47,true)),[50,47]⟩,eL 52 47 51,ad 4 52])
 (.ret)))))
theorem ZZ:cE 51 53 Tryz.f51 c51 [.t 4]:=⟨Tryz.func51,by kernel_rfl⟩
def Ph:aR:=
 .seq (.seq (.aj [ad 25 8,ad 26 1,dn 27 26,eo 28 25 27])
 (.cond (.t 28)
 (.skip)
 (.exit 0)))
 (.seq (.block 1 (.seq (.seq (.aj [ad 31 1,ad 32 8,fu 33 31 32,dZ 34 33,bH 35 34,ad 36 5,⟨some 37,.bin (.int .neq) (.t 35) (.t 36),none,[35,36]⟩])
 (.cond (.t 37)
 (.seq (.aj [cR 4])
 (.ret))
 (.skip)))
 (.seq (.aj [ad 38 5,Dz 39 38])
 (.cond (.t 39)
 (.seq (.aj [ad 40 6,ad 41 1,ad 42 8,fu 43 41 42,jb 44 43,bH 45 44,j_ 46 45,dA 47 46,lA 48 47,jV 49 40 48,ad 6 49])
 (.aj [ad 50 7,ad 51 1,ad 52 8,fu 53 51 52,jb 54 53,bH 55 54,⟨some 56,.bQ 5 (.t 55) (.c (.int .i64 1)),none,[55]⟩,dA 57 56,lA 58 57,jV 59 50 58,ad 7 59]))
 (.skip)))))
 (.aj [ad 29 8,dQ 30 29,ad 8 30]))
def Pj:aR:=
 .seq (.seq (.aj [ad 121 15,ad 122 1,dn 123 122,eo 124 121 123])
 (.cond (.t 124)
 (.skip)
 (.exit 4)))
 (.seq (.block 5 (.seq (.draw [ad 127 1,ad 128 15,fu 129 127 128,jd 130 129,bH 131 130,ad 132 1,ad 133 11,fu 134 132 133,jd 135 134,bH 136 135,re 137 131 136,ad 138 137,dP 139 1 138,dP 140 15 138,Hl 141 139 140 138,AM 142 141 138,hZ 143 142 138,⟨some 144,.len .slice (.t 143),(some (138,true)),[143,138]⟩,⟨some 145,.bin (.int .eql) (.t 144) (.c (.int .i64 1)),(some (138,true)),[144,138]⟩,eL 146 138 145] [])
 (.cond (.t 146)
 (.aj [ad 147 14,ad 148 1,ad 149 15,fu 150 148 149,jb 151 150,bH 152 151,j_ 153 152,dA 154 153,lA 155 154,jV 156 147 155,ad 14 156])
 (.skip))))
 (.aj [ad 125 15,dQ 126 125,ad 15 126]))
def Pk:aR:=
 .seq (.seq (.aj [ad 75 11,ad 76 1,dn 77 76,eo 78 75 77])
 (.cond (.t 78)
 (.skip)
 (.exit 2)))
 (.seq (.block 3 (.seq (.aj [ad 82 0,ad 83 1,ad 84 11,fu 85 83 84,jd 86 85,bH 87 86,⟨some 88,.call 93 [(.t 82),(.t 87)],none,[82,87]⟩,ad 81 88,ht 89 81,hv 90 81,tZ 12,⟨none,.st 5 (.t 12) (.t 89),none,[12,89]⟩,ad 13 90])
 (.seq (.seq (.draw [ad 91 13,jc 92 91,ad 93 92,tX 94 12 93,hx 95 94 93,tX 96 9 93,hx 97 96 93,⟨some 98,.bin (.str .neq) (.t 95) (.t 97),(some (93,false)),[95,97,93]⟩,eQ 99 93 98,ad 100 99,vF 101 12 100,hx 102 101 100,vD 103 102 100,fS 104 1 100,fS 105 11 100,vE 106 104 105 100,vF 107 106 100,hx 108 107 100,vD 109 108 100,⟨some 110,.bin (.int .neq) (.t 103) (.t 109),(some (100,false)),[103,109,100]⟩,eQ 111 100 110] [])
 (.cond (.t 111)
 (.seq (.aj [cR 4])
 (.ret))
 (.skip)))
 (.seq (.seq (.draw [ad 112 1,ad 113 11,⟨some 114,.ea 5 (.t 112) none (some (.t 113)) none,none,[112,113]⟩,ad 115 1,ad 116 11,fu 117 115 116,jd 118 117,bH 119 118,⟨some 120,.call 94 [(.t 114),(.t 119)],none,[114,119]⟩] [(7,[8])])
 (.cond (.t 120)
 (.exit 3)
 (.skip)))
 (.seq (.aj [eC 14])
 (.seq (.seq (.aj [df 15])
 (.block 4 (.loop Pj)))
 (.seq (.aj [ad 157 0,ad 158 14,⟨some 159,.call 52 [(.t 157),(.t 158)],none,[157,158]⟩,jc 160 159])
 (.cond (.t 160)
 (.seq (.aj [cR 4])
 (.ret))
 (.skip)))))))))
 (.aj [ad 79 11,dQ 80 79,ad 11 80]))
def Il:aR:=
 .seq (.aj [cR 4])
 (.seq (.aj [ad 16 1,⟨some 17,.call 91 [(.t 16)],none,[16]⟩,ad 1 17])
 (.seq (.seq (.aj [ad 18 1,dn 19 18,oi 20 19])
 (.cond (.t 20)
 (.seq (.aj [jB 4])
 (.ret))
 (.skip)))
 (.seq (.aj [ad 21 1,j_ 22 21,dZ 23 22,bH 24 23,ad 5 24])
 (.seq (.aj [eC 6,eC 7])
 (.seq (.seq (.aj [df 8])
 (.block 0 (.loop Ph)))
 (.seq (.seq (.aj [ad 60 5,⟨some 61,.bin (.int .neq) (.t 60) (.c (.int .i64 16)),none,[60]⟩])
 (.cond (.t 61)
 (.seq (.aj [ad 62 0,ad 63 6,ad 64 7,⟨some 65,.call 92 [(.t 62),(.t 63),(.t 64)],none,[62,63,64]⟩,ad 4 65])
 (.ret))
 (.skip)))
 (.seq (.aj [ad 67 0,ad 68 1,j_ 69 68,jd 70 69,bH 71 70,⟨some 72,.call 93 [(.t 67),(.t 71)],none,[67,71]⟩,ad 66 72,ht 73 66,hv 74 66,tZ 9,⟨none,.st 5 (.t 9) (.t 73),none,[9,73]⟩,ad 10 74])
 (.seq (.seq (.aj [df 11])
 (.block 2 (.loop Pk)))
 (.seq (.aj [jB 4])
 (.ret))))))))))
theorem Pg:cE 52 161 Tryz.f52 Il [.t 4]:=⟨Tryz.func52,by kernel_rfl⟩
def Pl:aR:=
 .seq (.aj [hY 2 0,hY 3 1,cR 4])
 (.seq (.aj [dZ 5 2,bH 6 5,dZ 7 3,bH 8 7,⟨some 9,.bin (.int .eql) (.t 6) (.t 8),none,[6,8]⟩,ad 10 9,t' 11 2 10,hZ 12 11 10,t' 13 3 10,hZ 14 13 10,xX 15 12 14 10,eL 16 10 15,ad 17 16,AH 18 2 17,hZ 19 18 17,AH 20 3 17,hZ 21 20 17,xX 22 19 21 17,eL 23 17 22,ad 24 23,⟨some 25,.fy 3 (.t 2),(some (24,true)),[2,24]⟩,hZ 26 25 24,⟨some 27,.fy 3 (.t 3),(some (24,true)),[3,24]⟩,hZ 28 27 24,⟨some 29,.bin (.str .eql) (.t 26) (.t 28),(some (24,true)),[26,28,24]⟩,eL 30 24 29,ad 31 30,AM 32 2 31,hZ 33 32 31,AM 34 3 31,hZ 35 34 31,⟨some 36,.call 22 [(.t 33),(.t 35)],(some (31,true)),[33,35,31]⟩,eL 37 31 36,ad 4 37])
 (.ret))
theorem Z0:cE 53 38 Tryz.f53 Pl [.t 4]:=⟨Tryz.func53,by kernel_rfl⟩
def Pn:aR:=
 .seq (.seq (.aj [ad 7 6,ad 8 0,dn 9 8,eo 10 7 9,ad 11 10,dP 12 5 11,dP 13 1 11,⟨some 14,.bin (.int .leq) (.t 12) (.t 13),(some (11,true)),[12,13,11]⟩,eL 15 11 14])
 (.cond (.t 15)
 (.skip)
 (.exit 0)))
 (.seq (.block 1 (.seq (.aj [ad 18 5,dQ 19 18,ad 20 0,ad 21 6,fu 22 20 21,jd 23 22,bH 24 23,lB 25 24,⟨some 26,.bin (.int .quo) (.t 25) (.c (.int .i64 100)),none,[25]⟩,AN 27 19 26,ad 5 27])
 (.aj [ad 28 5,ad 29 0,ad 30 6,fu 31 29 30,jb 32 31,bH 33 32,ad 34 1,ad 35 5,x2 36 34 35,⟨some 37,.call 60 [(.t 33),(.t 36)],none,[33,36]⟩,AN 38 28 37,ad 5 38])))
 (.aj [ad 16 6,dQ 17 16,ad 6 17]))
def Pm:aR:=
 .seq (.aj [df 4])
 (.seq (.aj [df 5])
 (.seq (.seq (.aj [df 6])
 (.block 0 (.loop Pn)))
 (.seq (.aj [ad 39 5,ad 4 39])
 (.ret))))
theorem Z1:cE 60 40 Tryz.f60 Pm [.t 4]:=⟨Tryz.func60,by kernel_rfl⟩
def Pp:aR:=
 .seq (.aj [eo 12 11 10])
 (.seq (.cond (.t 12)
 (.skip)
 (.exit 0))
 (.seq (.block 1 (.seq (.aj [fu 13 9 11,dA 14 13,nw 5,⟨none,.st 5 (.t 5) (.t 14),none,[5,14]⟩])
 (.seq (.aj [dZ 15 5,bH 16 15,⟨some 17,.call 96 [(.t 16)],none,[16]⟩,⟨some 18,.bin (.int .neq) (.t 17) (.c (.int .i64 7)),none,[17]⟩,ad 19 18,fS 20 3 19,xY 21 5 19,⟨some 22,.call 97 [(.t 20),(.t 21)],(some (19,false)),[20,21,19]⟩,tY 23 22 19,eQ 24 19 23])
 (.cond (.t 24)
 (.seq (.aj [rf 2])
 (.ret))
 (.skip)))))
 (.aj [dQ 25 11,ad 11 25])))
def Pq:aR:=
 .seq (.aj [eo 29 28 27])
 (.seq (.cond (.t 29)
 (.skip)
 (.exit 2))
 (.seq (.block 3 (.seq (.aj [fu 30 26 28,dA 31 30,nw 7,⟨none,.st 5 (.t 7) (.t 31),none,[7,31]⟩])
 (.seq (.aj [dA 32 7,⟨some 33,.call 98 [(.t 32)],none,[32]⟩,⟨some 34,.bin (.int .gtr) (.t 33) (.c (.int .i64 200)),none,[33]⟩])
 (.cond (.t 34)
 (.seq (.aj [⟨some 2,.bV (.c (.int .i64 260)),none,[]⟩])
 (.ret))
 (.skip)))))
 (.aj [dQ 35 28,ad 28 35])))
def Po:aR:=
 .seq (.aj [df 2])
 (.seq (.aj [⟨some 8,.call 95 [],none,[]⟩,ad 3 8])
 (.seq (.seq (.aj [ad 9 0,dn 10 9,df 11])
 (.block 0 (.loop Pp)))
 (.seq (.seq (.aj [ad 26 0,dn 27 26,df 28])
 (.block 2 (.loop Pq)))
 (.seq (.aj [df 2])
 (.ret)))))
theorem Z2:cE 65 36 Tryz.f65 Po [.t 2]:=⟨Tryz.func65,by kernel_rfl⟩
def Pr:aR:=
 .seq (.aj [df 2])
 (.seq (.block 0 (.seq (.aj [ad 4 0,Hp 5 4,ad 6 5,dP 7 0 6,⟨some 8,.bin (.int .leq) (.t 7) (.c (.int .i64 4)),(some (6,true)),[7,6]⟩,eL 9 6 8,ad 3 9])
 (.cond (.t 3)
 (.seq (.aj [⟨some 2,.bV (.c (.int .i64 1)),none,[]⟩])
 (.ret))
 (.seq (.aj [ad 11 0,⟨some 12,.bin (.int .geq) (.t 11) (.c (.int .i64 10)),none,[11]⟩,ad 13 12,dP 14 0 13,⟨some 15,.bin (.int .leq) (.t 14) (.c (.int .i64 16)),(some (13,true)),[14,13]⟩,eL 16 13 15,ad 10 16])
 (.cond (.t 10)
 (.seq (.aj [rf 2])
 (.ret))
 (.seq (.aj [ad 18 0,⟨some 19,.bin (.int .geq) (.t 18) (.c (.int .i64 20)),none,[18]⟩,ad 20 19,dP 21 0 20,⟨some 22,.bin (.int .leq) (.t 21) (.c (.int .i64 39)),(some (20,true)),[21,20]⟩,eL 23 20 22,ad 17 23])
 (.cond (.t 17)
 (.seq (.aj [⟨some 2,.bV (.c (.int .i64 3)),none,[]⟩])
 (.ret))
 (.seq (.aj [ad 25 0,Hq 26 25,ad 24 26])
 (.cond (.t 24)
 (.seq (.aj [⟨some 2,.bV (.c (.int .i64 4)),none,[]⟩])
 (.ret))
 (.seq (.aj [ad 28 0,DA 29 28,ad 27 29])
 (.cond (.t 27)
 (.seq (.aj [⟨some 2,.bV (.c (.int .i64 5)),none,[]⟩])
 (.ret))
 (.seq (.aj [ad 31 0,DB 32 31,ad 30 32])
 (.cond (.t 30)
 (.seq (.aj [⟨some 2,.bV (.c (.int .i64 6)),none,[]⟩])
 (.ret))
 (.seq (.aj [ad 34 0,⟨some 35,.bin (.int .geq) (.t 34) (.c (.int .i64 50)),none,[34]⟩,ad 36 35,dP 37 0 36,⟨some 38,.bin (.int .leq) (.t 37) (.c (.int .i64 53)),(some (36,true)),[37,36]⟩,eL 39 36 38,ad 33 39])
 (.cond (.t 33)
 (.seq (.aj [⟨some 2,.bV (.c (.int .i64 7)),none,[]⟩])
 (.ret))
 (.skip))))))))))))))))
 (.seq (.aj [df 2])
 (.ret)))
theorem Z3:cE 66 40 Tryz.f66 Pr [.t 2]:=⟨Tryz.func66,by kernel_rfl⟩
def Ps:aR:=
 .seq (.aj [hY 1 0,cR 2])
 (.seq (.seq (.aj [dZ 3 1,bH 4 3])
 (.block 0 (.seq (.aj [vG 6 4,ad 5 6])
 (.cond (.t 5)
 (.seq (.aj [jd 7 1,bH 8 7,⟨some 9,.call 51 [(.c (.int .i64 5)),(.t 8)],none,[8]⟩,ad 2 9])
 (.ret))
 (.seq (.seq (.aj [vJ 11 4,ad 10 11])
 (.cond (.t 10)
 (.skip)
 (.seq (.aj [⟨some 12,.bin (.int .eql) (.t 4) (.c (.int .i64 11)),none,[4]⟩,ad 10 12])
 (.cond (.t 10)
 (.skip)
 (.seq (.aj [⟨some 13,.bin (.int .eql) (.t 4) (.c (.int .i64 24)),none,[4]⟩,ad 10 13])
 (.cond (.t 10)
 (.skip)
 (.seq (.aj [DA 14 4,ad 10 14])
 (.cond (.t 10)
 (.skip)
 (.aj [DC 15 4,ad 10 15])))))))))
 (.cond (.t 10)
 (.seq (.aj [jd 16 1,bH 17 16,⟨some 18,.call 51 [(.c (.int .i64 3)),(.t 17)],none,[17]⟩,ad 2 18])
 (.ret))
 (.seq (.seq (.aj [Hr 20 4,ad 19 20])
 (.cond (.t 19)
 (.skip)
 (.seq (.aj [⟨some 21,.bin (.int .eql) (.t 4) (.c (.int .i64 25)),none,[4]⟩,ad 19 21])
 (.cond (.t 19)
 (.skip)
 (.seq (.aj [DB 22 4,ad 19 22])
 (.cond (.t 19)
 (.skip)
 (.aj [⟨some 23,.bin (.int .eql) (.t 4) (.c (.int .i64 51)),none,[4]⟩,ad 19 23])))))))
 (.cond (.t 19)
 (.seq (.aj [jd 24 1,bH 25 24,⟨some 26,.call 51 [(.c (.int .i64 4)),(.t 25)],none,[25]⟩,ad 2 26])
 (.ret))
 (.seq (.aj [⟨some 28,.bin (.int .eql) (.t 4) (.c (.int .i64 21)),none,[4]⟩,ad 27 28])
 (.cond (.t 27)
 (.seq (.aj [jd 29 1,bH 30 29,lB 31 30,⟨some 32,.bin (.int .leq) (.t 31) (.c (.int .i64 4096)),none,[31]⟩,ad 2 32])
 (.ret))
 (.seq (.aj [⟨some 34,.bin (.int .eql) (.t 4) (.c (.int .i64 38)),none,[4]⟩,ad 33 34])
 (.cond (.t 33)
 (.seq (.draw [jd 35 1,bH 36 35,⟨some 37,.call 99 [],none,[]⟩,⟨some 38,.call 89 [(.t 36),(.t 37)],none,[36,37]⟩,ad 2 38] [(1,[2,3])])
 (.ret))
 (.skip)))))))))))))
 (.seq (.aj [jd 39 1,bH 40 39,Hm 41 40,ad 2 41])
 (.ret)))
theorem Z4:cE 67 42 Tryz.f67 Ps [.t 2]:=⟨Tryz.func67,by kernel_rfl⟩
def Pt:aR:=
 .seq (.aj [hY 1 0,cR 2])
 (.seq (.seq (.aj [dZ 3 1,bH 4 3])
 (.block 0 (.seq (.seq (.aj [Hs 6 4,ad 5 6])
 (.cond (.t 5)
 (.skip)
 (.aj [⟨some 7,.bin (.int .eql) (.t 4) (.c (.int .i64 20)),none,[4]⟩,ad 5 7])))
 (.cond (.t 5)
 (.seq (.aj [ei 8 1,bH 9 8,⟨some 10,.bin (.int .geq) (.t 9) (.c (.int .i64 (-1073741824))),none,[9]⟩,ad 11 10,t' 12 1 11,hZ 13 12 11,⟨some 14,.bin (.int .leq) (.t 13) (.c (.int .i64 1073741823)),(some (11,true)),[13,11]⟩,eL 15 11 14,ad 2 15])
 (.ret))
 (.seq (.seq (.aj [Ht 17 4,ad 16 17])
 (.cond (.t 16)
 (.skip)
 (.aj [⟨some 18,.bin (.int .eql) (.t 4) (.c (.int .i64 23)),none,[4]⟩,ad 16 18])))
 (.cond (.t 16)
 (.seq (.aj [ei 19 1,bH 20 19,oi 21 20,ad 22 21,tX 23 1 22,hx 24 23 22,⟨some 25,.bin (.int .eql) (.t 24) (.c (.int .i64 1)),(some (22,false)),[24,22]⟩,eQ 26 22 25,ad 2 26])
 (.ret))
 (.seq (.aj [DC 28 4,ad 27 28])
 (.cond (.t 27)
 (.seq (.aj [ei 29 1,bH 30 29,DD 31 30,ad 32 31,t' 33 1 32,hZ 34 33 32,⟨some 35,.bin (.int .leq) (.t 34) (.c (.int .i64 64)),(some (32,true)),[34,32]⟩,eL 36 32 35,ad 37 36,t' 38 1 37,hZ 39 38 37,AM 40 1 37,hZ 41 40 37,⟨some 42,.len .slice (.t 41),(some (37,true)),[41,37]⟩,⟨some 43,.bin (.int .lss) (.t 39) (.t 42),(some (37,true)),[39,42,37]⟩,eL 44 37 43,ad 2 44])
 (.ret))
 (.skip)))))))))
 (.seq (.aj [ei 45 1,bH 46 45,oi 47 46,ad 2 47])
 (.ret)))
theorem Z5:cE 68 48 Tryz.f68 Pt [.t 2]:=⟨Tryz.func68,by kernel_rfl⟩
def Pv:aR:=
 .seq (.aj [hY 1 0,eC 2,cR 3])
 (.seq (.aj [jb 5 1,bH 6 5,dn 7 6,ad 4 7])
 (.seq (.seq (.aj [dZ 8 1,bH 9 8])
 (.block 0 (.seq (.aj [vJ 11 9,ad 10 11])
 (.cond (.t 10)
 (.seq (.aj [ad 12 4,⟨some 13,.call 100 [(.c (.int .i64 1)),(.t 12)],none,[12]⟩,ad 14 4,⟨some 15,.bin (.int .leq) (.t 14) (.c (.int .i64 64)),none,[14]⟩,ad 2 13,ad 3 15])
 (.ret))
 (.seq (.seq (.aj [x3 17 9,ad 16 17])
 (.cond (.t 16)
 (.skip)
 (.aj [Hn 18 9,ad 16 18])))
 (.cond (.t 16)
 (.seq (.aj [⟨some 19,.call 100 [(.c (.int .i64 1)),(.c (.int .i64 2))],none,[]⟩,ad 20 4,vJ 21 20,ad 2 19,ad 3 21])
 (.ret))
 (.seq (.aj [Dz 23 9,ad 22 23])
 (.cond (.t 22)
 (.seq (.aj [⟨some 24,.call 100 [(.c (.int .i64 2)),(.c (.int .i64 2))],none,[]⟩,ad 25 4,vJ 26 25,ad 2 24,ad 3 26])
 (.ret))
 (.seq (.aj [Hr 28 9,ad 27 28])
 (.cond (.t 27)
 (.seq (.aj [ad 29 4,⟨some 30,.call 100 [(.c (.int .i64 2)),(.t 29)],none,[29]⟩,ad 31 4,Hu 32 31,ad 2 30,ad 3 32])
 (.ret))
 (.seq (.aj [⟨some 34,.bin (.int .eql) (.t 9) (.c (.int .i64 25)),none,[9]⟩,ad 33 34])
 (.cond (.t 33)
 (.seq (.aj [ad 35 4,⟨some 36,.call 100 [(.c (.int .i64 3)),(.t 35)],none,[35]⟩,ad 37 4,Hu 38 37,ad 2 36,ad 3 38])
 (.ret))
 (.seq (.seq (.aj [⟨some 40,.bin (.int .eql) (.t 9) (.c (.int .i64 26)),none,[9]⟩,ad 39 40])
 (.cond (.t 39)
 (.skip)
 (.seq (.aj [⟨some 41,.bin (.int .eql) (.t 9) (.c (.int .i64 28)),none,[9]⟩,ad 39 41])
 (.cond (.t 39)
 (.skip)
 (.seq (.aj [⟨some 42,.bin (.int .eql) (.t 9) (.c (.int .i64 35)),none,[9]⟩,ad 39 42])
 (.cond (.t 39)
 (.skip)
 (.seq (.aj [⟨some 43,.bin (.int .eql) (.t 9) (.c (.int .i64 37)),none,[9]⟩,ad 39 43])
 (.cond (.t 39)
 (.skip)
 (.aj [⟨some 44,.bin (.int .eql) (.t 9) (.c (.int .i64 38)),none,[9]⟩,ad 39 44])))))))))
 (.cond (.t 39)
 (.seq (.aj [⟨some 45,.call 100 [(.c (.int .i64 3)),(.c (.int .i64 2))],none,[]⟩,ad 46 4,vJ 47 46,ad 2 45,ad 3 47])
 (.ret))
 (.seq (.seq (.aj [⟨some 49,.bin (.int .eql) (.t 9) (.c (.int .i64 34)),none,[9]⟩,ad 48 49])
 (.cond (.t 48)
 (.skip)
 (.seq (.aj [⟨some 50,.bin (.int .eql) (.t 9) (.c (.int .i64 36)),none,[9]⟩,ad 48 50])
 (.cond (.t 48)
 (.skip)
 (.aj [⟨some 51,.bin (.int .eql) (.t 9) (.c (.int .i64 39)),none,[9]⟩,ad 48 51])))))
 (.cond (.t 48)
 (.seq (.aj [⟨some 52,.call 100 [(.c (.int .i64 3)),(.c (.int .i64 1))],none,[]⟩,ad 53 4,vG 54 53,ad 2 52,ad 3 54])
 (.ret))
 (.seq (.aj [⟨some 56,.bin (.int .eql) (.t 9) (.c (.int .i64 31)),none,[9]⟩,ad 55 56])
 (.cond (.t 55)
 (.seq (.aj [⟨some 57,.call 100 [(.c (.int .i64 3)),(.c (.int .i64 3))],none,[]⟩,ad 58 4,x3 59 58,ad 2 57,ad 3 59])
 (.ret))
 (.seq (.seq (.aj [⟨some 61,.bin (.int .eql) (.t 9) (.c (.int .i64 27)),none,[9]⟩,ad 60 61])
 (.cond (.t 60)
 (.skip)
 (.seq (.aj [Hq 62 9,ad 60 62])
 (.cond (.t 60)
 (.skip)
 (.aj [⟨some 63,.bin (.int .eql) (.t 9) (.c (.int .i64 52)),none,[9]⟩,ad 60 63])))))
 (.cond (.t 60)
 (.seq (.aj [⟨some 64,.iB 2 1 [(.int .i64 0)] [(0,1,(.c (.int .i64 2))),(1,1,(.c (.int .i64 3)))],none,[]⟩,ad 65 4,vJ 66 65,ad 2 64,ad 3 66])
 (.ret))
 (.seq (.aj [⟨some 68,.bin (.int .eql) (.t 9) (.c (.int .i64 29)),none,[9]⟩,ad 67 68])
 (.cond (.t 67)
 (.seq (.aj [⟨some 69,.iB 3 1 [(.int .i64 0)] [(0,1,(.c (.int .i64 2))),(1,1,(.c (.int .i64 3))),(2,1,(.c (.int .i64 3)))],none,[]⟩,ad 70 4,x3 71 70,ad 2 69,ad 3 71])
 (.ret))
 (.seq (.aj [⟨some 73,.bin (.int .eql) (.t 9) (.c (.int .i64 30)),none,[9]⟩,ad 72 73])
 (.cond (.t 72)
 (.seq (.aj [ad 74 4,Hv 75 74,⟨some 76,.call 100 [(.c (.int .i64 5)),(.t 75)],none,[75]⟩,⟨some 77,.iB 1 1 [(.int .i64 0)] [(0,1,(.c (.int .i64 3)))],none,[]⟩,oj 78 76 77,ad 79 4,⟨some 80,.bin (.int .geq) (.t 79) (.c (.int .i64 2)),none,[79]⟩,ad 2 78,ad 3 80])
 (.ret))
 (.seq (.seq (.aj [⟨some 82,.bin (.int .eql) (.t 9) (.c (.int .i64 32)),none,[9]⟩,ad 81 82])
 (.cond (.t 81)
 (.skip)
 (.aj [⟨some 83,.bin (.int .eql) (.t 9) (.c (.int .i64 33)),none,[9]⟩,ad 81 83])))
 (.cond (.t 81)
 (.seq (.aj [⟨some 84,.iB 1 1 [(.int .i64 0)] [(0,1,(.c (.int .i64 3)))],none,[]⟩,ad 85 4,Hv 86 85,⟨some 87,.call 100 [(.c (.int .i64 4)),(.t 86)],none,[86]⟩,oj 88 84 87,ad 89 4,⟨some 90,.bin (.int .geq) (.t 89) (.c (.int .i64 2)),none,[89]⟩,ad 2 88,ad 3 90])
 (.ret))
 (.seq (.aj [DA 92 9,ad 91 92])
 (.cond (.t 91)
 (.seq (.draw [ad 94 4,vG 95 94,⟨some 93,.call 100 [(.c (.int .i64 3)),(.c (.int .i64 1))],none,[]⟩,ad 96 95,AM 97 1 96,hZ 98 97 96,⟨some 99,.bQ 5 (.t 98) (.c (.int .i64 0)),(some (96,true)),[98,96]⟩,AO 100 99 96,hZ 101 100 96,⟨some 102,.bin (.int .eql) (.t 101) (.c (.int .i64 27)),(some (96,true)),[101,96]⟩,eL 103 96 102,ad 2 93,ad 3 103] [(5,[13]),(8,[13])])
 (.ret))
 (.seq (.seq (.aj [DB 105 9,ad 104 105])
 (.cond (.t 104)
 (.skip)
 (.aj [⟨some 106,.bin (.int .eql) (.t 9) (.c (.int .i64 51)),none,[9]⟩,ad 104 106])))
 (.cond (.t 104)
 (.seq (.aj [ad 107 4,⟨some 108,.call 100 [(.c (.int .i64 1)),(.t 107)],none,[107]⟩,ad 109 4,Hu 110 109,ad 2 108,ad 3 110])
 (.ret))
 (.seq (.aj [DC 112 9,ad 111 112])
 (.cond (.t 111)
 (.seq (.draw [ei 113 1,bH 114 113,ad 116 4,ei 117 1,bH 118 117,x2 119 116 118,⟨some 115,.call 100 [(.c (.int .i64 8)),(.t 114)],none,[114]⟩,⟨some 120,.call 100 [(.c (.int .i64 6)),(.t 119)],none,[119]⟩,oj 121 115 120,ad 2 121,jB 3] [(1,[6]),(4,[6,7])])
 (.ret))
 (.seq (.aj [⟨some 123,.bin (.int .eql) (.t 9) (.c (.int .i64 53)),none,[9]⟩,ad 122 123])
 (.cond (.t 122)
 (.seq (.aj [ad 124 4,⟨some 125,.call 100 [(.c (.int .i64 5)),(.t 124)],none,[124]⟩,ad 126 4,Hp 127 126,ad 2 125,ad 3 127])
 (.ret))
 (.skip)))))))))))))))))))))))))))))))))))
 (.seq (.aj [ad 128 4,oi 129 128,eC 2,ad 3 129])
 (.ret))))
theorem Z6:cE 69 130 Tryz.f69 Pv [.t 2,.t 3]:=⟨Tryz.func69,by kernel_rfl⟩
def Py:aR:=
 .seq (.aj [eo 19 18 17])
 (.seq (.cond (.t 19)
 (.skip)
 (.exit 0))
 (.seq (.block 1 (.seq (.aj [fu 20 16 18,dA 21 20,tZ 7,⟨none,.st 5 (.t 7) (.t 21),none,[7,21]⟩])
 (.seq (.draw [ad 23 4,dH 24 23,dZ 25 24,bH 26 25,dZ 27 7,bH 28 27,Nl 29 26 28,ad 22 29,ht 30 22,hv 31 22,tZ 8,⟨none,.st 5 (.t 8) (.t 30),none,[8,30]⟩,ad 9 31] [(3,[11]),(5,[11]),(6,[11])])
 (.seq (.aj [ei 32 7,bH 33 32,nx 34 7,bH 35 34,⟨some 36,.build [(.str []),(.int .i64 0)] [(0,1,(.t 33)),(1,1,(.t 35))],none,[33,35]⟩,⟨some 10,.new [(.str []),(.int .i64 0)],none,[]⟩,⟨none,.st 2 (.t 10) (.t 36),none,[10,36]⟩])
 (.seq (.seq (.aj [ad 37 9,ad 38 37,fS 39 5 38,⟨some 40,.fX 2 (.t 10),(some (38,false)),[10,38]⟩,⟨some 41,.looks 152 (.bool false) false (.t 39) (.t 40),(some (38,false)),[39,40,38]⟩,eQ 42 38 41,ad 43 42,vF 44 7 43,hx 45 44 43,vD 46 45 43,⟨some 47,.bin (.int .gtr) (.t 46) (.c (.int .i64 1)),(some (43,false)),[46,43]⟩,eQ 48 43 47,ad 49 48,AI 50 7 49,hx 51 50 49,⟨some 52,.build [(.int .i64 0),(.int .i64 0),(.int .i64 0),(.str []),.bL] [(0,1,(.c (.int .i64 16))),(3,1,(.t 51))],(some (49,false)),[51,49]⟩,⟨some 53,.call 37 [(.t 52)],(some (49,false)),[52,49]⟩,tY 54 53 49,eQ 55 49 54])
 (.cond (.t 55)
 (.seq (.aj [xZ 2,cR 3])
 (.ret))
 (.skip)))
 (.seq (.aj [ad 56 5,⟨some 57,.fX 2 (.t 10),none,[10]⟩,⟨none,.xJ 152 (.t 56) (.t 57) (.c (.bool true)),none,[56,57]⟩])
 (.draw [ad 58 4,dH 59 58,dZ 60 59,bH 61 60,dZ 62 7,bH 63 62,dA 64 7,⟨none,.q5 .str (.t 61) (.t 63) (.t 64),none,[61,63,64]⟩] [(3,[7]),(5,[7]),(6,[7])])))))))
 (.aj [dQ 65 18,ad 18 65])))
def Px:aR:=
 .seq (.aj [xZ 2,cR 3])
 (.seq (.aj [⟨some 11,.tp none,none,[]⟩,ad 12 0,⟨some 13,.build [.kj,.bL] [(0,1,(.t 11)),(1,1,(.t 12))],none,[11,12]⟩,hY 14 13,ad 4 14])
 (.seq (.aj [⟨some 15,.tp none,none,[]⟩,ad 5 15])
 (.seq (.seq (.aj [ad 16 0,dn 17 16,df 18])
 (.block 0 (.loop Py)))
 (.seq (.aj [ad 66 4,ad 2 66,jB 3])
 (.ret)))))
theorem Z7:cE 70 67 Tryz.f70 Px [.t 2,.t 3]:=⟨Tryz.func70,by kernel_rfl⟩
def PA:aR:=
 .seq (.aj [eo 25 24 23])
 (.seq (.cond (.t 25)
 (.skip)
 (.exit 0))
 (.seq (.block 1 (.seq (.aj [fu 26 22 24,dA 27 26,nw 7,⟨none,.st 5 (.t 7) (.t 27),none,[7,27]⟩])
 (.seq (.aj [dA 28 7,AK 29 28,jc 30 29])
 (.cond (.t 30)
 (.aj [ad 31 5,dA 32 7,lA 33 32,jV 34 31 33,ad 5 34])
 (.skip)))))
 (.aj [dQ 35 24,ad 24 35])))
def Im:aR:=
 .seq (.seq (.draw [ad 95 10,j' 96 15,Hw 97 95 96,dn 98 97,jb 99 12,bH 100 99,dn 101 100,eo 102 98 101] [])
 (.cond (.t 102)
 (.skip)
 (.exit 4)))
 (.block 5 (.aj [ad 103 10,j' 104 15,⟨some 106,.iB 1 1 [.bL] [(0,1,(.c .bL))],none,[]⟩,⟨some 107,.zB 111 .bL (.t 103) (.t 104),none,[103,104]⟩,ht 105 107,oj 108 105 106,hv 109 107,⟨none,.yy (.t 103) (.t 109) (.t 108),none,[103,109,108]⟩]))
def Io:aR:=
 .seq (.aj [eo 114 113 112])
 (.seq (.cond (.t 114)
 (.skip)
 (.exit 6))
 (.seq (.block 7 (.seq (.aj [ad 115 113,fu 116 111 113,dA 117 116,nw 17,ad 16 115,⟨none,.st 5 (.t 17) (.t 117),none,[17,117]⟩])
 (.draw [ad 118 10,j' 119 15,Hw 120 118 119,ad 121 16,ad 122 10,j' 123 15,Hw 124 122 123,ad 125 16,kq 126 124 125,bH 127 126,dA 128 17,lA 129 128,jV 130 127 129,kq 131 120 121,⟨none,.st 1 (.t 131) (.t 130),none,[131,130]⟩] [(1,[12,14]),(2,[12,14]),(5,[12]),(6,[12]),(9,[12]),(10,[12])])))
 (.aj [dQ 132 113,ad 113 132])))
def PB:aR:=
 .seq (.aj [eo 57 56 55])
 (.seq (.cond (.t 57)
 (.skip)
 (.exit 2))
 (.seq (.block 3 (.seq (.aj [fu 58 54 56,dA 59 58,nw 12,⟨none,.st 5 (.t 12) (.t 59),none,[12,59]⟩])
 (.seq (.seq (.aj [dZ 60 12,bH 61 60,ad 62 8,⟨some 63,.bin (.int .neq) (.t 61) (.t 62),none,[61,62]⟩])
 (.cond (.t 63)
 (.seq (.aj [cR 4])
 (.ret))
 (.skip)))
 (.seq (.seq (.aj [ad 64 8,Hr 65 64])
 (.cond (.t 65)
 (.seq (.draw [ad 67 0,dH 68 67,dZ 69 68,bH 70 69,jd 71 12,bH 72 71,Nl 73 70 72,ad 66 73,ht 74 66,hv 75 66,tZ 13,⟨none,.st 5 (.t 13) (.t 74),none,[13,74]⟩,ad 14 75] [(3,[11]),(5,[11]),(6,[11])])
 (.seq (.aj [ad 76 14,jc 77 76,ad 78 77,tX 79 13 78,hx 80 79 78,fS 81 9 78,⟨some 82,.bin (.str .neq) (.t 80) (.t 81),(some (78,false)),[80,81,78]⟩,eQ 83 78 82,ad 84 83,vF 85 13 84,hx 86 85 84,vD 87 86 84,vF 88 12 84,hx 89 88 84,vD 90 89 84,⟨some 91,.bin (.int .neq) (.t 87) (.t 90),(some (84,false)),[87,90,84]⟩,eQ 92 84 91])
 (.cond (.t 92)
 (.seq (.aj [cR 4])
 (.ret))
 (.skip))))
 (.skip)))
 (.seq (.aj [dA 93 12,AL 94 93,vH 15,⟨none,.st 4 (.t 15) (.t 94),none,[15,94]⟩])
 (.seq (.block 4 (.loop Im))
 (.seq (.aj [jb 110 12,bH 111 110,dn 112 111,df 113])
 (.block 6 (.loop Io)))))))))
 (.aj [dQ 133 56,ad 56 133])))
def PC:aR:=
 .seq (.aj [eo 143 142 141])
 (.seq (.cond (.t 143)
 (.skip)
 (.exit 10))
 (.seq (.block 11 (.seq (.aj [kq 144 140 142,bH 145 144,ad 21 145])
 (.seq (.aj [ad 146 0,ad 147 21,⟨some 148,.call 71 [(.t 146),(.t 147)],none,[146,147]⟩,jc 149 148])
 (.cond (.t 149)
 (.seq (.aj [cR 4])
 (.ret))
 (.skip)))))
 (.aj [dQ 150 142,ad 142 150])))
def PD:aR:=
 .seq (.aj [⟨some 136,.nq (.t 135),none,[135]⟩,ht 137 136])
 (.seq (.cond (.t 137)
 (.skip)
 (.exit 8))
 (.block 9 (.seq (.aj [⟨some 138,.ys (.t 135),none,[135]⟩,hv 139 138,ad 19 139])
 (.seq (.aj [ad 140 19,dn 141 140,df 142])
 (.block 10 (.loop PC))))))
def Pz:aR:=
 .seq (.aj [cR 4])
 (.seq (.aj [eC 5])
 (.seq (.seq (.aj [ad 22 1,dn 23 22,df 24])
 (.block 0 (.loop PA)))
 (.seq (.seq (.aj [ad 36 5,dn 37 36,oi 38 37])
 (.cond (.t 38)
 (.seq (.aj [jB 4])
 (.ret))
 (.skip)))
 (.seq (.draw [ad 39 5,j_ 40 39,dZ 41 40,bH 42 41,ad 43 0,dH 44 43,dZ 45 44,bH 46 45,ad 47 5,j_ 48 47,jd 49 48,bH 50 49,Nn 51 46 50,⟨some 52,.sV 1 (.t 51),none,[51]⟩,ad 8 42,ad 9 52] [])
 (.seq (.aj [⟨some 53,.tp none,none,[]⟩,ad 10 53])
 (.seq (.seq (.aj [ad 54 5,dn 55 54,df 56])
 (.block 2 (.loop PB)))
 (.seq (.seq (.aj [ad 134 10,⟨some 135,.zX (.t 134),none,[134]⟩])
 (.block 8 (.loop PD)))
 (.seq (.aj [jB 4])
 (.ret)))))))))
theorem Z8:cE 71 151 Tryz.f71 Pz [.t 4]:=⟨Tryz.func71,by kernel_rfl⟩
def PG:aR:=
 .seq (.aj [hY 1 0,cR 2])
 (.seq (.aj [dZ 3 1,bH 4 3,⟨some 5,.bin (.int .eql) (.t 4) (.c (.int .i64 10)),none,[4]⟩,ad 6 5,AI 7 1 6,hx 8 7 6,⟨some 9,.bin (.int .eql) (.t 8) (.c (.int .i64 11)),(some (6,false)),[8,6]⟩,eQ 10 6 9,ad 2 10])
 (.ret))
theorem Z':cE 72 11 Tryz.f72 PG [.t 2]:=⟨Tryz.func72,by kernel_rfl⟩
def PH:aR:=
 .seq (.aj [hY 1 0,vH 2])
 (.seq (.aj [dZ 3 1,bH 4 3,ei 5 1,bH 6 5,jd 7 1,bH 8 7,jb 9 1,bH 10 9,dn 11 10,No 12 4 6 8 11,⟨none,.st 4 (.t 2) (.t 12),none,[2,12]⟩])
 (.ret))
theorem Z_:cE 73 13 Tryz.f73 PH [.ph 2 4]:=⟨Tryz.func73,by kernel_rfl⟩
def PJ:aR:=
 .seq (.aj [eo 21 20 19])
 (.seq (.cond (.t 21)
 (.skip)
 (.exit 1))
 (.seq (.block 2 (.aj [ad 22 6,Nd 23,lA 24 23,jV 25 22 24,ad 6 25]))
 (.aj [dQ 26 20,ad 20 26])))
def PI:aR:=
 .seq (.aj [hY 3 1,eC 4,cR 5])
 (.seq (.aj [eC 6])
 (.seq (.seq (.aj [ad 8 0,j_ 9 8,dA 10 9,nw 7,⟨none,.st 5 (.t 7) (.t 10),none,[7,10]⟩])
 (.block 0 (.seq (.aj [dA 16 7,AK 17 16,ad 15 17])
 (.cond (.t 15)
 (.seq (.aj [jd 18 3,bH 19 18,df 20])
 (.block 1 (.loop PJ)))
 (.seq (.draw [dA 28 7,j' 30 3,AL 29 28,⟨some 31,.bin (.other .neq 111) (.t 29) (.t 30),none,[29,30]⟩,ad 27 31] [(0,[2]),(1,[2,5])])
 (.cond (.t 27)
 (.seq (.aj [eC 4,cR 5])
 (.ret))
 (.aj [ad 11 6,jb 12 7,bH 13 12,jV 14 11 13,ad 6 14])))))))
 (.seq (.aj [ad 32 6,ad 33 0,vI 34 33,jV 35 32 34,ad 4 35,jB 5])
 (.ret))))
theorem aaa:cE 74 36 Tryz.f74 PI [.t 4,.t 5]:=⟨Tryz.func74,by kernel_rfl⟩
def PL:aR:=
 .seq (.aj [eo 13 12 11])
 (.seq (.cond (.t 13)
 (.skip)
 (.exit 0))
 (.seq (.block 1 (.seq (.aj [kq 14 10 12,bH 15 14,ad 7 15])
 (.seq (.aj [ad 17 7,j' 18 3,⟨some 19,.call 74 [(.t 17),(.t 18)],none,[17,18]⟩,ad 16 19,ht 20 16,hv 21 16,ad 8 20,ad 9 21])
 (.seq (.aj [ad 22 9])
 (.cond (.t 22)
 (.aj [ad 23 5,ad 24 8,x0 25 24,oj 26 23 25,ad 5 26])
 (.skip))))))
 (.aj [dQ 27 12,ad 12 27])))
def PK:aR:=
 .seq (.aj [hY 3 1,eC 4])
 (.seq (.aj [eC 5])
 (.seq (.seq (.aj [ad 10 0,dn 11 10,df 12])
 (.block 0 (.loop PL)))
 (.seq (.aj [ad 28 5,ad 4 28])
 (.ret))))
theorem aab:cE 75 29 Tryz.f75 PK [.t 4]:=⟨Tryz.func75,by kernel_rfl⟩
def PN:aR:=
 .seq (.aj [eo 13 12 11])
 (.seq (.cond (.t 13)
 (.skip)
 (.exit 0))
 (.seq (.block 1 (.seq (.aj [kq 14 10 12,bH 15 14,ad 8 15])
 (.seq (.aj [ad 16 8,j_ 17 16,dA 18 17,AK 19 18,jc 20 19])
 (.cond (.t 20)
 (.seq (.aj [ad 21 8,j_ 22 21,dA 23 22,⟨none,.st 5 (.t 6) (.t 23),none,[6,23]⟩])
 (.aj [ad 24 5,dA 25 6,AL 26 25,⟨none,.xJ 111 (.t 24) (.t 26) (.c (.bool true)),none,[24,26]⟩]))
 (.skip)))))
 (.aj [dQ 27 12,ad 12 27])))
def PM:aR:=
 .seq (.aj [⟨some 2,.bV (.c .kj),none,[]⟩,nw 3,cR 4])
 (.seq (.aj [⟨some 9,.tp none,none,[]⟩,ad 5 9])
 (.seq (.aj [nw 6])
 (.seq (.seq (.aj [ad 10 0,dn 11 10,df 12])
 (.block 0 (.loop PN)))
 (.seq (.draw [ad 28 5,dA 29 6,ad 30 5,⟨some 31,.len .map (.t 30),none,[30]⟩,⟨some 32,.bin (.int .gtr) (.t 31) (.c (.int .i64 0)),none,[31]⟩,ad 2 28,⟨none,.st 5 (.t 3) (.t 29),none,[3,29]⟩,ad 4 32] [(1,[3,6])])
 (.ret)))))
theorem aac:cE 76 33 Tryz.f76 PM [.t 2,.ph 3 5,.t 4]:=⟨Tryz.func76,by kernel_rfl⟩
def PQ:aR:=
 .seq (.aj [eo 43 42 41])
 (.seq (.cond (.t 43)
 (.skip)
 (.exit 1))
 (.seq (.block 2 (.seq (.aj [fu 44 40 42,dA 45 44,tZ 9,⟨none,.st 5 (.t 9) (.t 45),none,[9,45]⟩])
 (.seq (.aj [ei 46 9,bH 47 46,ad 48 6,re 49 47 48])
 (.cond (.t 49)
 (.aj [ad 50 7,dZ 51 9,bH 52 51,jb 53 9,bH 54 53,dn 55 54,Nf 56 52 55,DE 57 56,⟨some 58,.app 4 (.t 50) (.t 57),none,[50,57]⟩,ad 7 58])
 (.skip)))))
 (.aj [dQ 59 42,ad 42 59])))
def PO:aR:=
 .seq (.aj [hY 3 1,eC 4,cR 5])
 (.seq (.seq (.aj [dZ 10 3,bH 11 10])
 (.block 0 (.seq (.seq (.aj [⟨some 13,.bin (.int .eql) (.t 11) (.c (.int .i64 13)),none,[11]⟩,ad 12 13])
 (.cond (.t 12)
 (.skip)
 (.aj [Dz 14 11,ad 12 14])))
 (.cond (.t 12)
 (.seq (.aj [dA 15 3,AL 16 15,DE 17 16,ad 4 17,jB 5])
 (.ret))
 (.seq (.aj [Ht 19 11,ad 18 19])
 (.cond (.t 18)
 (.seq (.aj [dZ 20 3,bH 21 20,Ng 22 21,dZ 23 3,bH 24 23,Nh 25 24,Ni 26 22 25,ad 4 26,jB 5])
 (.ret))
 (.seq (.aj [Hs 28 11,ad 27 28])
 (.cond (.t 27)
 (.seq (.aj [eC 4,cR 5])
 (.ret))
 (.skip)))))))))
 (.seq (.draw [ad 29 0,dH 30 29,dZ 31 30,bH 32 31,jd 33 3,bH 34 33,Nn 35 32 34,⟨some 36,.sV 1 (.t 35),none,[35]⟩,ad 6 36] [])
 (.seq (.aj [eC 7])
 (.seq (.seq (.aj [ad 37 0,dH 38 37,ei 39 38,bH 40 39,dn 41 40,df 42])
 (.block 1 (.loop PQ)))
 (.seq (.aj [ad 60 7,ad 61 6,⟨some 62,.bin (.str .neq) (.t 61) (.c (.str [101,120,110])),none,[61]⟩,ad 4 60,ad 5 62])
 (.ret))))))
theorem aad:cE 77 63 Tryz.f77 PO [.t 4,.t 5]:=⟨Tryz.func77,by kernel_rfl⟩
def PS:aR:=
 .seq (.aj [eo 9 8 7])
 (.seq (.cond (.t 9)
 (.skip)
 (.exit 0))
 (.seq (.block 1 (.seq (.aj [kq 10 6 8,bH 11 10,ad 5 11])
 (.seq (.aj [ad 12 5,j_ 13 12,dA 14 13,AK 15 14])
 (.cond (.t 15)
 (.aj [ad 16 3,ad 17 5,vI 18 17,x0 19 18,oj 20 16 19,ad 3 20])
 (.skip)))))
 (.aj [dQ 21 8,ad 8 21])))
def PR:aR:=
 .seq (.aj [eC 2])
 (.seq (.aj [eC 3])
 (.seq (.seq (.aj [ad 6 0,dn 7 6,df 8])
 (.block 0 (.loop PS)))
 (.seq (.aj [ad 22 3,ad 2 22])
 (.ret))))
theorem aae:cE 78 23 Tryz.f78 PR [.t 2]:=⟨Tryz.func78,by kernel_rfl⟩
def PT:aR:=
 .seq (.aj [hY 1 0,cR 2])
 (.seq (.aj [dZ 3 1,bH 4 3,⟨some 5,.bin (.int .eql) (.t 4) (.c (.int .i64 10)),none,[4]⟩,ad 6 5,AI 7 1 6,hx 8 7 6,⟨some 9,.bin (.int .eql) (.t 8) (.c (.int .i64 11)),(some (6,false)),[8,6]⟩,eQ 10 6 9,ad 2 10])
 (.ret))
theorem aaf:cE 79 11 Tryz.f79 PT [.t 2]:=⟨Tryz.func79,by kernel_rfl⟩
def PU:aR:=
 .seq (.aj [hY 1 0,vH 2])
 (.seq (.aj [dZ 3 1,bH 4 3,ei 5 1,bH 6 5,jd 7 1,bH 8 7,jb 9 1,bH 10 9,dn 11 10,No 12 4 6 8 11,⟨none,.st 4 (.t 2) (.t 12),none,[2,12]⟩])
 (.ret))
theorem aag:cE 80 13 Tryz.f80 PU [.ph 2 4]:=⟨Tryz.func80,by kernel_rfl⟩
def PW:aR:=
 .seq (.seq (.aj [ad 14 8,jd 15 3,bH 16 15,eo 17 14 16])
 (.cond (.t 17)
 (.skip)
 (.exit 0)))
 (.seq (.block 1 (.aj [ad 20 7,Nd 21,lA 22 21,jV 23 20 22,ad 7 23]))
 (.aj [ad 18 8,dQ 19 18,ad 8 19]))
def PV:aR:=
 .seq (.aj [hY 3 1,eC 4,cR 5])
 (.seq (.aj [ad 9 0,j_ 10 9,dA 11 10,nw 6,⟨none,.st 5 (.t 6) (.t 11),none,[6,11]⟩])
 (.seq (.aj [eC 7])
 (.seq (.seq (.aj [dA 12 6,x1 13 12])
 (.cond (.t 13)
 (.seq (.seq (.aj [df 8])
 (.block 0 (.loop PW)))
 (.seq (.aj [ad 24 7,ad 25 0,vI 26 25,jV 27 24 26,ad 4 27,jB 5])
 (.ret)))
 (.skip)))
 (.seq (.seq (.draw [dA 28 6,j' 30 3,⟨some 29,.call 80 [(.t 28)],none,[28]⟩,⟨some 31,.bin (.other .neq 124) (.t 29) (.t 30),none,[29,30]⟩] [(0,[2]),(1,[2,4])])
 (.cond (.t 31)
 (.seq (.aj [eC 4,cR 5])
 (.ret))
 (.skip)))
 (.seq (.aj [ad 32 7,jb 33 6,bH 34 33,jV 35 32 34,ad 7 35])
 (.seq (.aj [ad 36 7,ad 37 0,vI 38 37,jV 39 36 38,ad 4 39,jB 5])
 (.ret)))))))
theorem aah:cE 81 40 Tryz.f81 PV [.t 4,.t 5]:=⟨Tryz.func81,by kernel_rfl⟩
def PY:aR:=
 .seq (.seq (.aj [ad 9 6,ad 10 0,dn 11 10,eo 12 9 11])
 (.cond (.t 12)
 (.skip)
 (.exit 0)))
 (.seq (.block 1 (.seq (.draw [ad 16 0,ad 17 6,kq 18 16 17,bH 19 18,j' 20 3,⟨some 21,.call 81 [(.t 19),(.t 20)],none,[19,20]⟩,ad 15 21,ht 22 15,hv 23 15,ad 7 22,ad 8 23] [(3,[5]),(4,[5])])
 (.seq (.aj [ad 24 8])
 (.cond (.t 24)
 (.aj [ad 25 5,ad 26 7,x0 27 26,oj 28 25 27,ad 5 28])
 (.skip)))))
 (.aj [ad 13 6,dQ 14 13,ad 6 14]))
def PX:aR:=
 .seq (.aj [hY 3 1,eC 4])
 (.seq (.aj [eC 5])
 (.seq (.seq (.aj [df 6])
 (.block 0 (.loop PY)))
 (.seq (.aj [ad 29 5,ad 4 29])
 (.ret))))
theorem aai:cE 82 30 Tryz.f82 PX [.t 4]:=⟨Tryz.func82,by kernel_rfl⟩
def P0:aR:=
 .seq (.seq (.aj [ad 36 9,ad 37 0,dn 38 37,eo 39 36 38])
 (.cond (.t 39)
 (.skip)
 (.exit 1)))
 (.seq (.block 2 (.seq (.draw [ad 42 0,ad 43 9,fu 44 42 43,ei 45 44,bH 46 45,ei 47 6,bH 48 47,re 49 46 48] [])
 (.cond (.t 49)
 (.draw [ad 50 8,ad 51 0,ad 52 9,fu 53 51 52,dZ 54 53,bH 55 54,ad 56 0,ad 57 9,fu 58 56 57,jb 59 58,bH 60 59,dn 61 60,Nf 62 55 61,DE 63 62,⟨some 64,.app 4 (.t 50) (.t 63),none,[50,63]⟩,ad 8 64] [(5,[14]),(10,[14])])
 (.skip))))
 (.aj [ad 40 9,dQ 41 40,ad 9 41]))
def PZ:aR:=
 .seq (.aj [hY 3 1,eC 4,cR 5])
 (.seq (.seq (.aj [dZ 10 3,bH 11 10])
 (.block 0 (.seq (.seq (.aj [⟨some 13,.bin (.int .eql) (.t 11) (.c (.int .i64 13)),none,[11]⟩,ad 12 13])
 (.cond (.t 12)
 (.skip)
 (.aj [Dz 14 11,ad 12 14])))
 (.cond (.t 12)
 (.seq (.aj [dA 15 3,⟨some 16,.call 80 [(.t 15)],none,[15]⟩,DE 17 16,ad 4 17,jB 5])
 (.ret))
 (.seq (.aj [Ht 19 11,ad 18 19])
 (.cond (.t 18)
 (.seq (.aj [dZ 20 3,bH 21 20,Ng 22 21,dZ 23 3,bH 24 23,Nh 25 24,Ni 26 22 25,ad 4 26,jB 5])
 (.ret))
 (.seq (.aj [Hs 28 11,ad 27 28])
 (.cond (.t 27)
 (.seq (.aj [eC 4,cR 5])
 (.ret))
 (.skip)))))))))
 (.seq (.aj [ad 30 0,jd 31 3,bH 32 31,⟨some 33,.call 93 [(.t 30),(.t 32)],none,[30,32]⟩,ad 29 33,ht 34 29,hv 35 29,tZ 6,⟨none,.st 5 (.t 6) (.t 34),none,[6,34]⟩,ad 7 35])
 (.seq (.aj [eC 8])
 (.seq (.seq (.aj [df 9])
 (.block 1 (.loop P0)))
 (.seq (.draw [ad 65 8,ei 66 6,bH 67 66,⟨some 68,.bin (.str .neq) (.t 67) (.c (.str [101,120,110])),none,[67]⟩,ad 4 65,ad 5 68] [])
 (.ret))))))
theorem aaj:cE 83 69 Tryz.f83 PZ [.t 4,.t 5]:=⟨Tryz.func83,by kernel_rfl⟩
def P2:aR:=
 .seq (.seq (.aj [ad 6 5,ad 7 0,dn 8 7,eo 9 6 8])
 (.cond (.t 9)
 (.skip)
 (.exit 0)))
 (.seq (.block 1 (.seq (.draw [ad 12 0,ad 13 5,kq 14 12 13,bH 15 14,j_ 16 15,dA 17 16,x1 18 17,jc 19 18,ad 20 19,dP 21 0 20,dP 22 5 20,⟨some 23,.bQ 1 (.t 21) (.t 22),(some (20,true)),[21,22,20]⟩,hZ 24 23 20,⟨some 25,.bQ 5 (.t 24) (.c (.int .i64 0)),(some (20,true)),[24,20]⟩,⟨some 26,.fX 5 (.t 25),(some (20,true)),[25,20]⟩,⟨some 28,.fX 4 (.t 3),(some (20,true)),[3,20]⟩,⟨some 27,.call 80 [(.t 26)],(some (20,true)),[26,20]⟩,⟨some 29,.bin (.other .eql 124) (.t 27) (.t 28),(some (20,true)),[27,28,20]⟩,eL 30 20 29] [(3,[6]),(5,[6]),(12,[16]),(14,[16]),(15,[16,19])])
 (.cond (.t 30)
 (.seq (.aj [jB 4])
 (.ret))
 (.skip))))
 (.aj [ad 10 5,dQ 11 10,ad 5 11]))
def P1:aR:=
 .seq (.aj [hY 3 1,cR 4])
 (.seq (.seq (.aj [df 5])
 (.block 0 (.loop P2)))
 (.seq (.aj [cR 4])
 (.ret)))
theorem aak:cE 84 31 Tryz.f84 P1 [.t 4]:=⟨Tryz.func84,by kernel_rfl⟩
def P4:aR:=
 .seq (.seq (.aj [ad 12 9,ad 13 3,dn 14 13,eo 15 12 14])
 (.cond (.t 15)
 (.skip)
 (.exit 0)))
 (.seq (.block 1 (.seq (.aj [ad 19 2,ad 20 3,ad 21 9,AJ 22 20 21,j' 23 22,⟨some 24,.call 81 [(.t 19),(.t 23)],none,[19,23]⟩,ad 18 24,ht 25 18,hv 26 18,ad 10 25,ad 11 26])
 (.seq (.aj [ad 27 0,ad 28 1,ad 29 3,ad 30 9,AJ 31 29 30,j' 32 31,⟨some 33,.call 82 [(.t 28),(.t 32)],none,[28,32]⟩,ad 34 10,Dt 35 27 33 34])
 (.cond (.t 35)
 (.seq (.aj [jB 8])
 (.ret))
 (.skip)))))
 (.aj [ad 16 9,dQ 17 16,ad 9 17]))
def P3:aR:=
 .seq (.aj [cR 8])
 (.seq (.seq (.aj [df 9])
 (.block 0 (.loop P4)))
 (.seq (.aj [cR 8])
 (.ret)))
theorem aal:cE 85 36 Tryz.f85 P3 [.t 8]:=⟨Tryz.func85,by kernel_rfl⟩
def P6:aR:=
 .seq (.seq (.aj [ad 5 4,ad 6 0,dn 7 6,eo 8 5 7])
 (.cond (.t 8)
 (.skip)
 (.exit 0)))
 (.seq (.block 1 (.seq (.aj [ad 11 0,ad 12 4,kq 13 11 12,bH 14 13,j_ 15 14,dA 16 15,x1 17 16])
 (.cond (.t 17)
 (.aj [ad 18 3,ad 19 0,ad 20 4,kq 21 19 20,bH 22 21,vI 23 22,x0 24 23,oj 25 18 24,ad 3 25])
 (.skip))))
 (.aj [ad 9 4,dQ 10 9,ad 4 10]))
def P5:aR:=
 .seq (.aj [eC 2])
 (.seq (.aj [eC 3])
 (.seq (.seq (.aj [df 4])
 (.block 0 (.loop P6)))
 (.seq (.aj [ad 26 3,ad 2 26])
 (.ret))))
theorem aam:cE 86 27 Tryz.f86 P5 [.t 2]:=⟨Tryz.func86,by kernel_rfl⟩
def Qb:aR:=
 .seq (.seq (.aj [ad 5 4,ad 6 0,dn 7 6,eo 8 5 7])
 (.cond (.t 8)
 (.skip)
 (.exit 0)))
 (.seq (.block 1 (.seq (.aj [ad 11 0,ad 12 4,fu 13 11 12,dA 14 13,x1 15 14,jc 16 15])
 (.cond (.t 16)
 (.aj [ad 17 3,ad 18 0,ad 19 4,fu 20 18 19,dA 21 20,lA 22 21,jV 23 17 22,ad 3 23])
 (.skip))))
 (.aj [ad 9 4,dQ 10 9,ad 4 10]))
def Qa:aR:=
 .seq (.aj [eC 2])
 (.seq (.aj [eC 3])
 (.seq (.seq (.aj [df 4])
 (.block 0 (.loop Qb)))
 (.seq (.aj [ad 24 3,ad 2 24])
 (.ret))))
theorem aar:cE 91 25 Tryz.f91 Qa [.t 2]:=⟨Tryz.func91,by kernel_rfl⟩
def Qc:aR:=
 .seq (.aj [cR 6])
 (.seq (.aj [ad 7 0,ad 8 1,⟨some 9,.call 52 [(.t 7),(.t 8)],none,[7,8]⟩,ad 10 9,dP 11 0 10,dP 12 2 10,⟨some 13,.call 52 [(.t 11),(.t 12)],(some (10,true)),[11,12,10]⟩,eL 14 10 13,ad 6 14])
 (.ret))
theorem aas:cE 92 15 Tryz.f92 Qc [.t 6]:=⟨Tryz.func92,by kernel_rfl⟩
def Qe:aR:=
 .seq (.seq (.aj [ad 7 6,ad 8 0,dn 9 8,eo 10 7 9])
 (.cond (.t 10)
 (.skip)
 (.exit 0)))
 (.seq (.block 1 (.seq (.aj [ad 13 0,ad 14 6,fu 15 13 14,dZ 16 15,bH 17 16,ad 18 1,re 19 17 18])
 (.cond (.t 19)
 (.seq (.aj [ad 20 0,ad 21 6,fu 22 20 21,dA 23 22,⟨none,.st 5 (.t 4) (.t 23),none,[4,23]⟩,jB 5])
 (.ret))
 (.skip))))
 (.aj [ad 11 6,dQ 12 11,ad 6 12]))
def Qd:aR:=
 .seq (.aj [tZ 4,cR 5])
 (.seq (.seq (.aj [df 6])
 (.block 0 (.loop Qe)))
 (.seq (.aj [⟨some 24,.build [(.str []),(.str []),(.int .i64 0),(.int .i64 0),.bL] [],none,[]⟩,⟨none,.st 5 (.t 4) (.t 24),none,[4,24]⟩,cR 5])
 (.ret)))
theorem aat:cE 93 25 Tryz.f93 Qd [.ph 4 5,.t 5]:=⟨Tryz.func93,by kernel_rfl⟩
def Qg:aR:=
 .seq (.seq (.aj [ad 6 5,ad 7 0,dn 8 7,eo 9 6 8])
 (.cond (.t 9)
 (.skip)
 (.exit 0)))
 (.seq (.block 1 (.seq (.aj [ad 12 0,ad 13 5,fu 14 12 13,jd 15 14,bH 16 15,ad 17 1,re 18 16 17])
 (.cond (.t 18)
 (.seq (.aj [jB 4])
 (.ret))
 (.skip))))
 (.aj [ad 10 5,dQ 11 10,ad 5 11]))
def Qf:aR:=
 .seq (.aj [cR 4])
 (.seq (.seq (.aj [df 5])
 (.block 0 (.loop Qg)))
 (.seq (.aj [cR 4])
 (.ret)))
theorem aau:cE 94 19 Tryz.f94 Qf [.t 4]:=⟨Tryz.func94,by kernel_rfl⟩
def Qh:aR:=
 .seq (.aj [df 2])
 (.seq (.block 0 (.seq (.aj [ad 4 0,Hp 5 4,ad 6 5,dP 7 0 6,⟨some 8,.bin (.int .leq) (.t 7) (.c (.int .i64 4)),(some (6,true)),[7,6]⟩,eL 9 6 8,ad 3 9])
 (.cond (.t 3)
 (.seq (.aj [⟨some 2,.bV (.c (.int .i64 1)),none,[]⟩])
 (.ret))
 (.seq (.aj [ad 11 0,⟨some 12,.bin (.int .geq) (.t 11) (.c (.int .i64 10)),none,[11]⟩,ad 13 12,dP 14 0 13,⟨some 15,.bin (.int .leq) (.t 14) (.c (.int .i64 16)),(some (13,true)),[14,13]⟩,eL 16 13 15,ad 10 16])
 (.cond (.t 10)
 (.seq (.aj [rf 2])
 (.ret))
 (.seq (.aj [ad 18 0,⟨some 19,.bin (.int .geq) (.t 18) (.c (.int .i64 20)),none,[18]⟩,ad 20 19,dP 21 0 20,⟨some 22,.bin (.int .leq) (.t 21) (.c (.int .i64 39)),(some (20,true)),[21,20]⟩,eL 23 20 22,ad 17 23])
 (.cond (.t 17)
 (.seq (.aj [⟨some 2,.bV (.c (.int .i64 3)),none,[]⟩])
 (.ret))
 (.seq (.aj [ad 25 0,Hq 26 25,ad 24 26])
 (.cond (.t 24)
 (.seq (.aj [⟨some 2,.bV (.c (.int .i64 4)),none,[]⟩])
 (.ret))
 (.seq (.aj [ad 28 0,DA 29 28,ad 27 29])
 (.cond (.t 27)
 (.seq (.aj [⟨some 2,.bV (.c (.int .i64 5)),none,[]⟩])
 (.ret))
 (.seq (.aj [ad 31 0,DB 32 31,ad 30 32])
 (.cond (.t 30)
 (.seq (.aj [⟨some 2,.bV (.c (.int .i64 6)),none,[]⟩])
 (.ret))
 (.seq (.aj [ad 34 0,⟨some 35,.bin (.int .geq) (.t 34) (.c (.int .i64 50)),none,[34]⟩,ad 36 35,dP 37 0 36,⟨some 38,.bin (.int .leq) (.t 37) (.c (.int .i64 53)),(some (36,true)),[37,36]⟩,eL 39 36 38,ad 33 39])
 (.cond (.t 33)
 (.seq (.aj [⟨some 2,.bV (.c (.int .i64 7)),none,[]⟩])
 (.ret))
 (.skip))))))))))))))))
 (.seq (.aj [df 2])
 (.ret)))
theorem aav:cE 96 40 Tryz.f96 Qh [.t 2]:=⟨Tryz.func96,by kernel_rfl⟩
def Qj:aR:=
 .seq (.aj [eo 88 87 86])
 (.seq (.cond (.t 88)
 (.skip)
 (.exit 0))
 (.seq (.block 1 (.seq (.aj [ad 89 87,fu 90 85 87,dA 91 90,nw 10,ad 9 89,⟨none,.st 5 (.t 10) (.t 91),none,[10,91]⟩])
 (.seq (.aj [ei 92 5,bH 93 92,ad 11 93])
 (.seq (.block 2 (.seq (.aj [ad 95 9,ad 96 7,dn 97 96,eo 98 95 97,ad 94 98])
 (.cond (.t 94)
 (.aj [ad 99 7,ad 100 9,kq 101 99 100,bH 102 101,ad 11 102])
 (.seq (.aj [ad 104 9,ad 105 7,dn 106 105,ad 107 8,AN 108 106 107,x4 109 104 108,ad 103 109])
 (.cond (.t 103)
 (.aj [jb 110 5,bH 111 110,ad 112 9,ad 113 7,dn 114 113,x2 115 112 114,ad 116 8,x2 117 115 116,kq 118 111 117,bH 119 118,ad 11 119])
 (.skip))))))
 (.seq (.aj [dA 120 10,ad 121 11,⟨some 122,.call 103 [(.t 120),(.t 121)],none,[120,121]⟩,jc 123 122,ad 124 123,fS 125 0 124,xY 126 10 124,⟨some 127,.call 97 [(.t 125),(.t 126)],(some (124,false)),[125,126,124]⟩,tY 128 127 124,eQ 129 124 128])
 (.cond (.t 129)
 (.seq (.aj [cR 4])
 (.ret))
 (.skip)))))))
 (.aj [dQ 130 87,ad 87 130])))
def Qi:aR:=
 .seq (.aj [hY 3 1,cR 4])
 (.seq (.aj [ad 13 0,dZ 14 3,bH 15 14,⟨some 16,.look .int (.agg [.bL,(.int .i64 0),(.int .i64 0),(.int .i64 0),.bL,(.int .i64 0),(.int .i64 0),(.int .i64 0)]) true (.t 13) (.t 15),none,[13,15]⟩,ad 12 16,ht 17 12,hv 18 12,⟨some 5,.new [.bL,(.int .i64 0),(.int .i64 0),(.int .i64 0),.bL,(.int .i64 0),(.int .i64 0),(.int .i64 0)],none,[]⟩,⟨none,.st 8 (.t 5) (.t 17),none,[5,17]⟩,ad 6 18])
 (.seq (.seq (.aj [ad 19 6,jc 20 19,ad 21 20,tX 22 3 21,hx 23 22 21,⟨some 24,.fy 5 (.t 5),(some (21,false)),[5,21]⟩,⟨some 25,.uS 2 1 (.t 24) (.c (.int .i64 0)),(some (21,false)),[24,21]⟩,hx 26 25 21,⟨some 27,.bin (.int .lss) (.t 23) (.t 26),(some (21,false)),[23,26,21]⟩,eQ 28 21 27,ad 29 28,tX 30 3 29,hx 31 30 29,⟨some 32,.fy 5 (.t 5),(some (29,false)),[5,29]⟩,⟨some 33,.uS 2 1 (.t 32) (.c (.int .i64 1)),(some (29,false)),[32,29]⟩,hx 34 33 29,⟨some 35,.bin (.int .gtr) (.t 31) (.t 34),(some (29,false)),[31,34,29]⟩,eQ 36 29 35,ad 37 36,Du 38 3 37,hx 39 38 37,⟨some 40,.bin (.int .lss) (.t 39) (.c (.int .i64 0)),(some (37,false)),[39,37]⟩,eQ 41 37 40,ad 42 41,Du 43 3 42,hx 44 43 42,⟨some 45,.bin (.int .gtr) (.t 44) (.c (.int .i64 65536)),(some (42,false)),[44,42]⟩,eQ 46 42 45,ad 47 46,⟨some 48,.fy 7 (.t 5),(some (47,false)),[5,47]⟩,hx 49 48 47,⟨some 50,.fy 3 (.t 3),(some (47,false)),[3,47]⟩,hx 51 50 47,⟨some 52,.call 101 [(.t 49),(.t 51)],(some (47,false)),[49,51,47]⟩,tY 53 52 47,eQ 54 47 53])
 (.cond (.t 54)
 (.seq (.aj [cR 4])
 (.ret))
 (.skip)))
 (.seq (.aj [dZ 55 5,bH 56 55,ad 7 56])
 (.seq (.seq (.aj [dZ 57 3,bH 58 57,DC 59 58])
 (.cond (.t 59)
 (.aj [⟨some 60,.iB 1 1 [(.int .i64 0)] [(0,1,(.c (.int .i64 8)))],none,[]⟩,ei 61 3,bH 62 61,⟨some 63,.call 102 [(.t 60),(.t 62)],none,[60,62]⟩,ad 7 63])
 (.skip)))
 (.seq (.aj [jb 64 3,bH 65 64,dn 66 65,ad 67 7,dn 68 67,x2 69 66 68,jb 70 5,bH 71 70,dn 72 71,x2 73 69 72,ad 8 73])
 (.seq (.seq (.aj [ad 74 8,nx 75 5,bH 76 75,eo 77 74 76,ad 78 77,fS 79 8 78,⟨some 80,.fy 3 (.t 5),(some (78,false)),[5,78]⟩,hx 81 80 78,⟨some 82,.bin (.int .gtr) (.t 79) (.t 81),(some (78,false)),[79,81,78]⟩,eQ 83 78 82])
 (.cond (.t 83)
 (.seq (.aj [cR 4])
 (.ret))
 (.skip)))
 (.seq (.seq (.aj [jb 84 3,bH 85 84,dn 86 85,df 87])
 (.block 0 (.loop Qj)))
 (.seq (.aj [jB 4])
 (.ret)))))))))
theorem aaw:cE 97 131 Tryz.f97 Qi [.t 4]:=⟨Tryz.func97,by kernel_rfl⟩
def Ql:aR:=
 .seq (.aj [eo 10 9 8])
 (.seq (.cond (.t 10)
 (.skip)
 (.exit 0))
 (.seq (.block 1 (.seq (.aj [fu 11 7 9,dA 12 11,nw 5,⟨none,.st 5 (.t 5) (.t 12),none,[5,12]⟩])
 (.aj [ad 13 3,dA 14 5,⟨some 15,.call 98 [(.t 14)],none,[14]⟩,⟨some 16,.ew [(.t 13),(.t 15)],none,[13,15]⟩,ad 3 16])))
 (.aj [dQ 17 9,ad 9 17])))
def Qk:aR:=
 .seq (.aj [hY 1 0,df 2])
 (.seq (.aj [df 3])
 (.seq (.seq (.aj [jb 6 1,bH 7 6,dn 8 7,df 9])
 (.block 0 (.loop Ql)))
 (.seq (.aj [ad 18 3,dQ 19 18,ad 2 19])
 (.ret))))
theorem aax:cE 98 20 Tryz.f98 Qk [.t 2]:=⟨Tryz.func98,by kernel_rfl⟩
def Qm:aR:=
 .seq (.aj [eC 0])
 (.seq (.aj [Nj 1,ad 0 1])
 (.ret))
theorem aay:cE 99 2 Tryz.f99 Qm [.t 0]:=⟨Tryz.func99,by kernel_rfl⟩
def Oc:aR:=
 .seq (.seq (.aj [ad 7 6,ad 8 1,eo 9 7 8])
 (.cond (.t 9)
 (.skip)
 (.exit 0)))
 (.seq (.block 1 (.aj [ad 12 5,ad 13 0,⟨some 14,.iB 1 1 [(.int .i64 0)] [(0,1,(.t 13))],none,[13]⟩,oj 15 12 14,ad 5 15]))
 (.aj [ad 10 6,dQ 11 10,ad 6 11]))
def Ob:aR:=
 .seq (.aj [eC 4])
 (.seq (.aj [eC 5])
 (.seq (.seq (.aj [df 6])
 (.block 0 (.loop Oc)))
 (.seq (.aj [ad 16 5,ad 4 16])
 (.ret))))
theorem Zk:cE 100 17 Tryz.f100 Ob [.t 4]:=⟨Tryz.func100,by kernel_rfl⟩
def Od:aR:=
 .seq (.aj [cR 4])
 (.seq (.seq (.aj [ad 5 0])
 (.block 0 (.seq (.aj [vG 7 5,ad 6 7])
 (.cond (.t 6)
 (.seq (.aj [ad 8 1,⟨some 9,.call 104 [(.c (.int .i64 3)),(.t 8)],none,[8]⟩,ad 4 9])
 (.ret))
 (.seq (.aj [vJ 11 5,ad 10 11])
 (.cond (.t 10)
 (.seq (.aj [ad 12 1,⟨some 13,.call 104 [(.c (.int .i64 4)),(.t 12)],none,[12]⟩,ad 4 13])
 (.ret))
 (.seq (.aj [x3 15 5,ad 14 15])
 (.cond (.t 14)
 (.seq (.aj [ad 16 1,⟨some 17,.call 104 [(.c (.int .i64 5)),(.t 16)],none,[16]⟩,ad 4 17])
 (.ret))
 (.seq (.aj [Hn 19 5,ad 18 19])
 (.cond (.t 18)
 (.seq (.aj [ad 20 1,lB 21 20,⟨some 22,.bin (.int .leq) (.t 21) (.c (.int .i64 4096)),none,[21]⟩,ad 4 22])
 (.ret))
 (.seq (.aj [Dx 24 5,ad 23 24])
 (.cond (.t 23)
 (.seq (.aj [Nj 25,ad 26 1,⟨some 27,.call 105 [(.t 25),(.t 26)],none,[25,26]⟩,ad 4 27])
 (.ret))
 (.skip)))))))))))))
 (.seq (.aj [ad 28 1,Hm 29 28,ad 4 29])
 (.ret)))
theorem Zl:cE 101 30 Tryz.f101 Od [.t 4]:=⟨Tryz.func101,by kernel_rfl⟩
def Of:aR:=
 .seq (.seq (.aj [ad 34 8,ad 35 7,dn 36 35,eo 37 34 36])
 (.cond (.t 37)
 (.skip)
 (.exit 0)))
 (.block 1 (.draw [ad 38 8,ad 39 7,ad 40 8,⟨some 41,.ea 1 (.t 39) (some (.t 40)) none none,none,[39,40]⟩,ad 42 7,ad 43 8,⟨some 44,.ea 1 (.t 42) none (some (.t 43)) none,none,[42,43]⟩,⟨some 45,.copy 1 (.t 41) (.t 44),none,[41,44]⟩,AN 46 38 45,ad 8 46] []))
def Oe:aR:=
 .seq (.aj [eC 4])
 (.seq (.seq (.aj [ad 9 1,⟨some 10,.bin (.int .lss) (.t 9) (.c (.int .i64 0)),none,[9]⟩])
 (.cond (.t 10)
 (.aj [⟨some 11,.ta 9 (.c (.str [99,97,110,110,111,116,32,98,101,32,110,101,103,97,116,105,118,101])),none,[]⟩,⟨none,.bad,none,[11]⟩])
 (.skip)))
 (.seq (.aj [ad 13 0,dn 14 13,⟨some 15,.cl (.int .u64) (.t 14),none,[14]⟩,ad 16 1,⟨some 17,.cl (.int .u64) (.t 16),none,[16]⟩,⟨some 18,.call 106 [(.t 15),(.t 17)],none,[15,17]⟩,ad 12 18,ht 19 12,hv 20 12,ad 5 19,ad 6 20])
 (.seq (.seq (.aj [ad 21 5,⟨some 22,.bin (.int .gtr) (.t 21) (.c (.int .u64 0)),none,[21]⟩,ad 23 22,fS 24 6 23,⟨some 25,.bin (.int .gtr) (.t 24) (.c (.int .u64 9223372036854775807)),(some (23,false)),[24,23]⟩,eQ 26 23 25])
 (.cond (.t 26)
 (.aj [⟨some 27,.ta 9 (.c (.str [116,104,101,32,114,101,115,117,108,116,32,111,102,32,40,108,101,110,40,120,41,32,42,32,99,111,117,110,116,41,32,111,118,101,114,102,108,111,119,115])),none,[]⟩,⟨none,.bad,none,[27]⟩])
 (.skip)))
 (.seq (.aj [ad 28 6,⟨some 29,.cl (.int .i64) (.t 28),none,[28]⟩,⟨some 30,.zC 1 [(.int .i64 0)] (.t 29) (.t 29),none,[29,29]⟩,ad 7 30])
 (.seq (.aj [ad 31 7,ad 32 0,⟨some 33,.copy 1 (.t 31) (.t 32),none,[31,32]⟩,ad 8 33])
 (.seq (.block 0 (.loop Of))
 (.seq (.aj [ad 47 7,ad 4 47])
 (.ret))))))))
theorem Zm:cE 102 48 Tryz.f102 Oe [.t 4]:=⟨Tryz.func102,by kernel_rfl⟩
def Og:aR:=
 .seq (.aj [hY 2 0,cR 4])
 (.seq (.seq (.aj [ad 5 1])
 (.block 0 (.seq (.aj [⟨some 7,.bin (.int .eql) (.t 5) (.c (.int .i64 8)),none,[5]⟩,ad 6 7])
 (.cond (.t 6)
 (.seq (.aj [dZ 8 2,bH 9 8,vG 10 9,ad 4 10])
 (.ret))
 (.seq (.aj [⟨some 12,.bin (.int .eql) (.t 5) (.c (.int .i64 9)),none,[5]⟩,ad 11 12])
 (.cond (.t 11)
 (.seq (.aj [dZ 13 2,bH 14 13,⟨some 15,.bin (.int .eql) (.t 14) (.c (.int .i64 27)),none,[14]⟩,ad 4 15])
 (.ret))
 (.skip)))))))
 (.seq (.aj [dZ 16 2,bH 17 16,⟨some 18,.call 96 [(.t 17)],none,[17]⟩,ad 19 1,⟨some 20,.bin (.int .eql) (.t 18) (.t 19),none,[18,19]⟩,ad 4 20])
 (.ret)))
theorem Zn:cE 103 21 Tryz.f103 Og [.t 4]:=⟨Tryz.func103,by kernel_rfl⟩
def Oh:aR:=
 .seq (.aj [cR 4])
 (.seq (.seq (.aj [ad 7 1,lB 8 7,⟨some 9,.bin (.int .gtr) (.t 8) (.c (.int .i64 64)),none,[8]⟩,ad 10 9,fS 11 1 10,⟨some 12,.bin (.str .eql) (.t 11) (.c (.str [])),(some (10,false)),[11,10]⟩,eQ 13 10 12])
 (.cond (.t 13)
 (.seq (.aj [cR 4])
 (.ret))
 (.skip)))
 (.seq (.seq (.aj [ad 14 0,Dx 15 14])
 (.cond (.t 15)
 (.aj [ad 16 1,⟨some 17,.bin (.str .add) (.c (.str [39])) (.t 16),none,[16]⟩,ad 1 17])
 (.skip)))
 (.seq (.aj [ad 19 1,⟨some 20,.call 107 [(.t 19)],none,[19]⟩,ad 18 20,ht 21 18,hv 22 18,⟨some 6,.new [(.int .i64 0),(.int .i64 0)],none,[]⟩,ad 5 21,⟨none,.st 2 (.t 6) (.t 22),none,[6,22]⟩])
 (.seq (.aj [dZ 23 6,bH 24 23,oi 25 24,ad 26 25,dP 27 5 26,⟨some 28,.len .slice (.t 27),(some (26,true)),[27,26]⟩,⟨some 29,.bin (.int .eql) (.t 28) (.c (.int .i64 1)),(some (26,true)),[28,26]⟩,eL 30 26 29,ad 31 30,dP 32 5 31,DF 33 32 31,AO 34 33 31,hZ 35 34 31,dP 36 0 31,xX 37 35 36 31,eL 38 31 37,ad 39 38,dP 40 5 39,DF 41 40 39,AH 42 41 39,hZ 43 42 39,⟨some 44,.bin (.int .eql) (.t 43) (.c (.int .i64 0)),(some (39,true)),[43,39]⟩,eL 45 39 44,ad 46 45,dP 47 5 46,DF 48 47 46,⟨some 49,.fy 3 (.t 48),(some (46,true)),[48,46]⟩,hZ 50 49 46,⟨some 51,.len .str (.t 50),(some (46,true)),[50,46]⟩,⟨some 52,.bin (.int .gtr) (.t 51) (.c (.int .i64 0)),(some (46,true)),[51,46]⟩,eL 53 46 52,ad 54 53,dP 55 5 54,DF 56 55 54,⟨some 57,.fX 4 (.t 56),(some (54,true)),[56,54]⟩,dP 58 1 54,⟨some 59,.call 108 [(.t 57),(.t 58)],(some (54,true)),[57,58,54]⟩,eL 60 54 59,ad 4 60])
 (.ret)))))
theorem Zo:cE 104 61 Tryz.f104 Oh [.t 4]:=⟨Tryz.func104,by kernel_rfl⟩
def Oi:aR:=
 .seq (.aj [cR 4])
 (.seq (.aj [ad 5 0,ad 6 1,⟨some 7,.call 109 [(.t 5),(.t 6)],none,[5,6]⟩,DD 8 7,ad 4 8])
 (.ret))
theorem Zp:cE 105 9 Tryz.f105 Oi [.t 4]:=⟨Tryz.func105,by kernel_rfl⟩
def Ol:aR:=
 .seq (.aj [hY 2 0,cR 4])
 (.seq (.seq (.aj [dZ 5 2,bH 6 5,Dx 7 6])
 (.cond (.t 7)
 (.seq (.aj [ad 8 1,jd 9 2,bH 10 9,⟨some 11,.bin (.str .add) (.c (.str [39])) (.t 10),none,[10]⟩,re 12 8 11,ad 4 12])
 (.ret))
 (.skip)))
 (.seq (.aj [ad 13 1,jd 14 2,bH 15 14,re 16 13 15,ad 4 16])
 (.ret)))
theorem Zr:cE 108 17 Tryz.f108 Ol [.t 4]:=⟨Tryz.func108,by kernel_rfl⟩
def On:aR:=
 .seq (.aj [eo 9 8 7])
 (.seq (.cond (.t 9)
 (.skip)
 (.exit 0))
 (.seq (.block 1 (.seq (.aj [ad 10 8,ad 5 10])
 (.seq (.aj [ad 11 1,ad 12 0,ad 13 5,kq 14 12 13,bH 15 14,re 16 11 15])
 (.cond (.t 16)
 (.seq (.aj [ad 17 5,ad 4 17])
 (.ret))
 (.skip)))))
 (.aj [dQ 18 8,ad 8 18])))
def Om:aR:=
 .seq (.aj [df 4])
 (.seq (.seq (.aj [ad 6 0,dn 7 6,df 8])
 (.block 0 (.loop On)))
 (.seq (.aj [⟨some 4,.bV (.c (.int .i64 (-1))),none,[]⟩])
 (.ret)))
theorem Zs:cE 109 19 Tryz.f109 Om [.t 4]:=⟨Tryz.func109,by kernel_rfl⟩
def P7:aR:=
 .seq (.aj [cR 2])
 (.seq (.aj [ad 3 0,Ho 4 3,ad 5 4,fS 6 0 5,⟨some 7,.call 88 [(.t 6),(.c (.int .u8 65)),(.c (.int .u8 90))],(some (5,false)),[6,5]⟩,eQ 8 5 7,ad 9 8,fS 10 0 9,⟨some 11,.call 88 [(.t 10),(.c (.int .u8 48)),(.c (.int .u8 57))],(some (9,false)),[10,9]⟩,eQ 12 9 11,ad 13 12,fS 14 0 13,Dy 15 14 13,eQ 16 13 15,ad 17 16,fS 18 0 17,⟨some 19,.bin (.int .eql) (.t 18) (.c (.int .u8 39)),(some (17,false)),[18,17]⟩,eQ 20 17 19,ad 2 20])
 (.ret))
theorem aan:cE 87 21 Tryz.f87 P7 [.t 2]:=⟨Tryz.func87,by kernel_rfl⟩
def P8:aR:=
 .seq (.aj [cR 6])
 (.seq (.aj [ad 7 0,ad 8 1,x4 9 7 8,ad 10 9,dP 11 0 10,dP 12 2 10,⟨some 13,.bin (.int .leq) (.t 11) (.t 12),(some (10,true)),[11,12,10]⟩,eL 14 10 13,ad 6 14])
 (.ret))
theorem aao:cE 88 15 Tryz.f88 P8 [.t 6]:=⟨Tryz.func88,by kernel_rfl⟩
def P':aR:=
 .seq (.seq (.aj [ad 6 5,ad 7 1,dn 8 7,eo 9 6 8])
 (.cond (.t 9)
 (.skip)
 (.exit 0)))
 (.seq (.block 1 (.seq (.aj [ad 12 1,ad 13 5,kq 14 12 13,bH 15 14,ad 16 0,re 17 15 16])
 (.cond (.t 17)
 (.seq (.aj [jB 4])
 (.ret))
 (.skip))))
 (.aj [ad 10 5,dQ 11 10,ad 5 11]))
def P9:aR:=
 .seq (.aj [cR 4])
 (.seq (.seq (.aj [df 5])
 (.block 0 (.loop P')))
 (.seq (.aj [cR 4])
 (.ret)))
theorem aap:cE 89 18 Tryz.f89 P9 [.t 4]:=⟨Tryz.func89,by kernel_rfl⟩
def P_:aR:=
 .seq (.aj [eC 0])
 (.seq (.aj [⟨some 1,.iB 20 1 [(.str [])] [(0,1,(.c (.str [97,110,100]))),(1,1,(.c (.str [98,101,103,105,110]))),(2,1,(.c (.str [101,108,115,101]))),(3,1,(.c (.str [101,110,100]))),(4,1,(.c (.str [101,120,99,101,112,116,105,111,110]))),(5,1,(.c (.str [102,97,108,115,101]))),(6,1,(.c (.str [102,117,110]))),(7,1,(.c (.str [105,102]))),(8,1,(.c (.str [105,110]))),(9,1,(.c (.str [108,101,116]))),(10,1,(.c (.str [109,97,116,99,104]))),(11,1,(.c (.str [109,111,100]))),(12,1,(.c (.str [111,102]))),(13,1,(.c (.str [114,97,105,115,101]))),(14,1,(.c (.str [114,101,99]))),(15,1,(.c (.str [116,104,101,110]))),(16,1,(.c (.str [116,114,117,101]))),(17,1,(.c (.str [116,114,121]))),(18,1,(.c (.str [116,121,112,101]))),(19,1,(.c (.str [119,105,116,104])))],none,[]⟩,ad 0 1])
 (.ret))
theorem aaq:cE 90 2 Tryz.f90 P_ [.t 0]:=⟨Tryz.func90,by kernel_rfl⟩
def Ok:aR:=
 .block 1 (.seq (.aj [ad 24 5,dH 25 24,ei 26 25,bH 27 26,ad 7 27])
 (.seq (.block 2 (.seq (.aj [ad 37 7,ad 38 0,lB 39 38,x4 40 37 39,ad 36 40])
 (.cond (.t 36)
 (.exit 0)
 (.seq (.aj [ad 42 0,ad 43 7,Dv 44 42 43,⟨some 45,.call 113 [(.c (.str [9,10,13,32])),(.t 44)],none,[44]⟩,DD 46 45,ad 41 46])
 (.cond (.t 41)
 (.aj [ad 47 5,dH 48 47,ei 49 48,bH 50 49,dQ 51 50,dH 52 47,ei 53 52,⟨none,.st 1 (.t 53) (.t 51),none,[53,51]⟩])
 (.seq (.aj [ad 55 5,⟨some 56,.call 114 [(.t 55),(.c (.str [40,42]))],none,[55]⟩,ad 54 56])
 (.cond (.t 54)
 (.aj [ad 57 5,⟨some 58,.call 115 [(.t 57)],none,[57]⟩])
 (.seq (.aj [ad 28 5,⟨some 29,.call 116 [(.t 28)],none,[28]⟩,AP 8,⟨none,.st 4 (.t 8) (.t 29),none,[8,29]⟩])
 (.seq (.aj [ad 30 7,nx 31 8,⟨none,.st 1 (.t 31) (.t 30),none,[31,30]⟩])
 (.aj [ad 32 6,j' 33 8,⟨some 34,.iB 1 4 [(.int .i64 0),(.int .i64 0),(.int .i64 0),(.str [])] [(0,4,(.t 33))],none,[33]⟩,⟨some 35,.app 4 (.t 32) (.t 34),none,[32,34]⟩,ad 6 35]))))))))))
 (.seq (.aj [ad 59 5,dH 60 59,nx 61 60,bH 62 61,Hk 63 62])
 (.cond (.t 63)
 (.seq (.draw [ad 64 5,dH 65 64,nx 66 65,bH 67 66,ad 68 7,⟨some 69,.build [(.int .i64 0),(.int .i64 0)] [(0,1,(.t 67)),(1,1,(.t 68))],none,[67,68]⟩,eC 2,⟨none,.st 2 (.t 3) (.t 69),none,[3,69]⟩] [(3,[7])])
 (.ret))
 (.skip)))))
def Oj:aR:=
 .seq (.aj [eC 2,⟨some 3,.new [(.int .i64 0),(.int .i64 0)],none,[]⟩])
 (.seq (.seq (.aj [ad 9 0,lB 10 9,⟨some 11,.bin (.int .gtr) (.t 10) (.c (.int .i64 65536)),none,[10]⟩])
 (.cond (.t 11)
 (.seq (.aj [⟨some 12,.build [(.int .i64 0),(.int .i64 0)] [(0,1,(.c (.int .i64 3)))],none,[]⟩,eC 2,⟨none,.st 2 (.t 3) (.t 12),none,[3,12]⟩])
 (.ret))
 (.skip)))
 (.seq (.seq (.aj [ad 13 0,⟨some 14,.call 112 [(.t 13)],none,[13]⟩,ad 4 14])
 (.seq (.aj [ad 15 4,ad 16 0,lB 17 16,eo 18 15 17])
 (.cond (.t 18)
 (.seq (.aj [ad 19 4,⟨some 20,.build [(.int .i64 0),(.int .i64 0)] [(0,1,(.c (.int .i64 250))),(1,1,(.t 19))],none,[19]⟩,eC 2,⟨none,.st 2 (.t 3) (.t 20),none,[3,20]⟩])
 (.ret))
 (.skip))))
 (.seq (.aj [ad 21 0,⟨some 22,.build [(.str []),(.int .i64 0),(.int .i64 0)] [(0,1,(.t 21))],none,[21]⟩,hY 23 22,ad 5 23])
 (.seq (.aj [eC 6])
 (.seq (.skip)
 (.seq (.block 0 (.loop Ok))
 (.seq (.aj [ad 70 6,⟨some 71,.build [(.int .i64 0),(.int .i64 0)] [],none,[]⟩,ad 2 70,⟨none,.st 2 (.t 3) (.t 71),none,[3,71]⟩])
 (.ret))))))))
theorem Zq:cE 107 72 Tryz.f107 Oj [.t 2,.ph 3 2]:=⟨Tryz.func107,by kernel_rfl⟩
def Oq:aR:=
 .seq (.aj [⟨some 9,.xj (.t 8),none,[8]⟩,ht 10 9])
 (.seq (.cond (.t 10)
 (.skip)
 (.exit 0))
 (.block 1 (.seq (.aj [hv 11 9,⟨some 12,.ext (.t 9) 2,none,[9]⟩,ad 3 11,ad 4 12])
 (.seq (.aj [ad 13 4,⟨some 14,.bin (.int .eql) (.t 13) (.c (.int .i32 65533)),none,[13]⟩])
 (.cond (.t 14)
 (.seq (.aj [ad 16 0,ad 17 3,Hx 18 16 17,⟨some 19,.call 117 [(.t 18)],none,[18]⟩,ad 15 19,ht 20 15,hv 21 15,ad 5 20,ad 6 21])
 (.seq (.aj [ad 22 6,vG 23 22])
 (.cond (.t 23)
 (.seq (.aj [ad 24 3,ad 2 24])
 (.ret))
 (.skip))))
 (.skip))))))
def Oo:aR:=
 .seq (.aj [df 2])
 (.seq (.seq (.aj [ad 7 0,⟨some 8,.zY (.t 7),none,[7]⟩])
 (.block 0 (.loop Oq)))
 (.seq (.aj [ad 25 0,lB 26 25,ad 2 26])
 (.ret)))
theorem Zt:cE 112 27 Tryz.f112 Oo [.t 2]:=⟨Tryz.func112,by kernel_rfl⟩
def Ot:aR:=
 .seq (.aj [df 4])
 (.seq (.aj [ad 5 0,ad 6 1,⟨some 7,.call 118 [(.t 5),(.t 6)],none,[5,6]⟩,ad 4 7])
 (.ret))
theorem Zu:cE 113 8 Tryz.f113 Ot [.t 4]:=⟨Tryz.func113,by kernel_rfl⟩
def Ou:aR:=
 .seq (.aj [cR 4])
 (.seq (.draw [ad 5 0,dH 6 5,dZ 7 6,bH 8 7,ad 9 0,dH 10 9,ei 11 10,bH 12 11,Hx 13 8 12,ad 14 1,⟨some 15,.call 119 [(.t 13),(.t 14)],none,[13,14]⟩,ad 4 15] [(3,[10]),(7,[10])])
 (.ret))
theorem Zv:cE 114 16 Tryz.f114 Ou [.t 4]:=⟨Tryz.func114,by kernel_rfl⟩
def Ow:aR:=
 .block 1 (.block 2 (.seq (.draw [ad 11 0,dH 12 11,ei 13 12,bH 14 13,ad 15 0,dH 16 15,dZ 17 16,bH 18 17,lB 19 18,x4 20 14 19,ad 10 20] [])
 (.cond (.t 10)
 (.seq (.aj [ad 21 0,dH 22 21,nx 23 22,⟨none,.st 1 (.t 23) (.c (.int .i64 253)),none,[23]⟩])
 (.ret))
 (.seq (.aj [ad 25 0,⟨some 26,.call 114 [(.t 25),(.c (.str [40,42]))],none,[25]⟩,ad 24 26])
 (.cond (.t 24)
 (.seq (.aj [ad 27 2,dQ 28 27,ad 2 28])
 (.aj [ad 29 0,dH 30 29,ei 31 30,bH 32 31,⟨some 33,.bin (.int .add) (.t 32) (.c (.int .i64 2)),none,[32]⟩,dH 34 29,ei 35 34,⟨none,.st 1 (.t 35) (.t 33),none,[35,33]⟩]))
 (.seq (.aj [ad 37 0,⟨some 38,.call 114 [(.t 37),(.c (.str [42,41]))],none,[37]⟩,ad 36 38])
 (.cond (.t 36)
 (.seq (.aj [ad 39 2,Hv 40 39,ad 2 40])
 (.seq (.aj [ad 41 0,dH 42 41,ei 43 42,bH 44 43,⟨some 45,.bin (.int .add) (.t 44) (.c (.int .i64 2)),none,[44]⟩,dH 46 41,ei 47 46,⟨none,.st 1 (.t 47) (.t 45),none,[47,45]⟩])
 (.seq (.aj [ad 48 2,oi 49 48])
 (.cond (.t 49)
 (.ret)
 (.skip)))))
 (.aj [ad 3 0,dH 4 3,ei 5 4,bH 6 5,dQ 7 6,dH 8 3,ei 9 8,⟨none,.st 1 (.t 9) (.t 7),none,[9,7]⟩]))))))))
def Ov:aR:=
 .seq (.aj [df 2])
 (.block 0 (.loop Ow))
theorem Zw:cE 115 50 Tryz.f115 Ov []:=⟨Tryz.func115,by kernel_rfl⟩
def Oy:aR:=
 .seq (.aj [eo 80 79 78])
 (.seq (.cond (.t 80)
 (.skip)
 (.exit 1))
 (.seq (.block 2 (.seq (.aj [kq 81 77 79,bH 82 81,ad 5 82])
 (.seq (.aj [ad 83 0,ad 84 5,⟨some 85,.call 114 [(.t 83),(.t 84)],none,[83,84]⟩])
 (.cond (.t 85)
 (.seq (.aj [ad 86 0,dH 87 86,ei 88 87,bH 89 88,ad 90 5,lB 91 90,AN 92 89 91,dH 93 86,ei 94 93,⟨none,.st 1 (.t 94) (.t 92),none,[94,92]⟩])
 (.seq (.aj [ad 95 5,Nk 96 95,⟨none,.st 4 (.t 2) (.t 96),none,[2,96]⟩])
 (.ret)))
 (.skip)))))
 (.aj [dQ 97 79,ad 79 97])))
def Ox:aR:=
 .seq (.aj [AP 2])
 (.seq (.draw [ad 6 0,dH 7 6,dZ 8 7,bH 9 8,ad 10 0,dH 11 10,ei 12 11,bH 13 12,Dv 14 9 13,ad 3 14] [])
 (.seq (.block 0 (.seq (.aj [ad 16 3,⟨some 17,.call 120 [(.t 16)],none,[16]⟩,ad 15 17])
 (.cond (.t 15)
 (.seq (.aj [ad 18 0,⟨some 19,.call 121 [(.t 18)],none,[18]⟩,⟨none,.st 4 (.t 2) (.t 19),none,[2,19]⟩])
 (.ret))
 (.seq (.aj [ad 21 3,⟨some 22,.bin (.int .eql) (.t 21) (.c (.int .u8 34)),none,[21]⟩,ad 20 22])
 (.cond (.t 20)
 (.seq (.aj [ad 23 0,⟨some 24,.call 122 [(.t 23)],none,[23]⟩,⟨none,.st 4 (.t 2) (.t 24),none,[2,24]⟩])
 (.ret))
 (.seq (.aj [ad 26 3,⟨some 27,.call 123 [(.t 26)],none,[26]⟩,ad 28 27,fS 29 3 28,Dy 30 29 28,eQ 31 28 30,ad 25 31])
 (.cond (.t 25)
 (.seq (.aj [ad 32 0,⟨some 33,.call 124 [(.t 32),(.c (.int .i64 3))],none,[32]⟩,⟨none,.st 4 (.t 2) (.t 33),none,[2,33]⟩])
 (.ret))
 (.seq (.aj [ad 35 3,⟨some 36,.call 125 [(.t 35)],none,[35]⟩,ad 34 36])
 (.cond (.t 34)
 (.seq (.aj [ad 37 0,⟨some 38,.call 124 [(.t 37),(.c (.int .i64 4))],none,[37]⟩,⟨none,.st 4 (.t 2) (.t 38),none,[2,38]⟩])
 (.ret))
 (.seq (.draw [ad 40 3,⟨some 41,.bin (.int .eql) (.t 40) (.c (.int .u8 39)),none,[40]⟩,ad 42 41,dP 43 0 42,x5 44 43 42,t' 45 44 42,hZ 46 45 42,⟨some 47,.bin (.int .add) (.t 46) (.c (.int .i64 1)),(some (42,true)),[46,42]⟩,dP 48 0 42,x5 49 48 42,AO 50 49 42,hZ 51 50 42,⟨some 52,.len .str (.t 51),(some (42,true)),[51,42]⟩,⟨some 53,.bin (.int .lss) (.t 47) (.t 52),(some (42,true)),[47,52,42]⟩,eL 54 42 53,ad 55 54,dP 56 0 55,x5 57 56 55,AO 58 57 55,hZ 59 58 55,dP 60 0 55,x5 61 60 55,t' 62 61 55,hZ 63 62 55,⟨some 64,.bin (.int .add) (.t 63) (.c (.int .i64 1)),(some (55,true)),[63,55]⟩,⟨some 65,.nh (.t 59) (.t 64),(some (55,true)),[59,64,55]⟩,⟨some 66,.call 123 [(.t 65)],(some (55,true)),[65,55]⟩,eL 67 55 66,ad 39 67] [(6,[26]),(11,[26]),(19,[26]),(23,[26])])
 (.cond (.t 39)
 (.seq (.aj [ad 68 0,dH 69 68,ei 70 69,bH 71 70,dQ 72 71,dH 73 68,ei 74 73,⟨none,.st 1 (.t 74) (.t 72),none,[74,72]⟩])
 (.seq (.aj [ad 75 0,⟨some 76,.call 124 [(.t 75),(.c (.int .i64 5))],none,[75]⟩,⟨none,.st 4 (.t 2) (.t 76),none,[2,76]⟩])
 (.ret)))
 (.skip))))))))))))
 (.seq (.seq (.aj [⟨some 77,.call 126 [],none,[]⟩,dn 78 77,df 79])
 (.block 1 (.loop Oy)))
 (.seq (.aj [ad 98 0,dH 99 98,nx 100 99,⟨none,.st 1 (.t 100) (.c (.int .i64 251)),none,[100]⟩])
 (.seq (.aj [Hy 101,⟨none,.st 4 (.t 2) (.t 101),none,[2,101]⟩])
 (.ret))))))
theorem Zx:cE 116 102 Tryz.f116 Ox [.ph 2 4]:=⟨Tryz.func116,by kernel_rfl⟩
def Oz:aR:=
 .seq (.aj [df 4])
 (.seq (.aj [ad 5 0,ad 6 1,⟨some 7,.call 128 [(.t 5),(.t 6)],none,[5,6]⟩,ad 4 7])
 (.ret))
theorem Zy:cE 118 8 Tryz.f118 Oz [.t 4]:=⟨Tryz.func118,by kernel_rfl⟩
def c119:aR:=
 .seq (.aj [cR 4])
 (.seq (.aj [ad 5 0,ad 6 1,⟨some 7,.call 129 [(.t 5),(.t 6)],none,[5,6]⟩,ad 4 7])
 (.ret))
theorem Zz:cE 119 8 Tryz.f119 c119 [.t 4]:=⟨Tryz.func119,by kernel_rfl⟩
def OB:aR:=
 .seq (.aj [cR 2])
 (.seq (.aj [ad 3 0,⟨some 4,.bin (.int .geq) (.t 3) (.c (.int .u8 48)),none,[3]⟩,ad 5 4,dP 6 0 5,⟨some 7,.bin (.int .leq) (.t 6) (.c (.int .u8 57)),(some (5,true)),[6,5]⟩,eL 8 5 7,ad 2 8])
 (.ret))
theorem ZA:cE 120 9 Tryz.f120 OB [.t 2]:=⟨Tryz.func120,by kernel_rfl⟩
def OC:aR:=
 .seq (.aj [AP 2])
 (.seq (.aj [ad 7 0,⟨some 8,.call 131 [(.t 7),(.c (.func 120 []))],none,[7]⟩,⟨some 9,.call 130 [(.t 8),(.c (.int .i64 10)),(.c (.int .i64 64))],none,[8]⟩,ad 6 9,ht 10 6,hv 11 6,ad 3 10,ad 4 11])
 (.seq (.seq (.aj [ad 12 4,⟨some 13,.bin (.lL true 5) (.t 12) (.c .nilIface),none,[12]⟩,ad 14 13,fS 15 3 14,⟨some 16,.bin (.int .gtr) (.t 15) (.c (.int .u64 2147483647)),(some (14,false)),[15,14]⟩,eQ 17 14 16])
 (.cond (.t 17)
 (.seq (.aj [ad 18 0,dH 19 18,nx 20 19,⟨none,.st 1 (.t 20) (.c (.int .i64 254)),none,[20]⟩])
 (.seq (.aj [Hy 21,⟨none,.st 4 (.t 2) (.t 21),none,[2,21]⟩])
 (.ret)))
 (.skip)))
 (.seq (.aj [ad 22 3,⟨some 23,.cl (.int .i64) (.t 22),none,[22]⟩,ad 5 23])
 (.seq (.seq (.aj [ad 24 5,⟨some 25,.bin (.int .gtr) (.t 24) (.c (.int .i64 1073741823)),none,[24]⟩])
 (.cond (.t 25)
 (.aj [ad 26 5,⟨some 27,.bin (.int .sub) (.t 26) (.c (.int .i64 2147483648)),none,[26]⟩,ad 5 27])
 (.skip)))
 (.seq (.aj [ad 28 5,⟨some 29,.build [(.int .i64 0),(.int .i64 0),(.int .i64 0),(.str [])] [(0,1,(.c (.int .i64 1))),(1,1,(.t 28))],none,[28]⟩,⟨none,.st 4 (.t 2) (.t 29),none,[2,29]⟩])
 (.ret))))))
theorem ZB:cE 121 30 Tryz.f121 OC [.ph 2 4]:=⟨Tryz.func121,by kernel_rfl⟩
def OE:aR:=
 .seq (.seq (.aj [ad 12 0,dH 13 12,nx 14 13,bH 15 14,oi 16 15])
 (.cond (.t 16)
 (.skip)
 (.exit 0)))
 (.block 1 (.seq (.seq (.draw [ad 17 0,dH 18 17,ei 19 18,bH 20 19,ad 21 0,dH 22 21,dZ 23 22,bH 24 23,lB 25 24,x4 26 20 25] [])
 (.cond (.t 26)
 (.seq (.aj [ad 27 0,dH 28 27,nx 29 28,⟨none,.st 1 (.t 29) (.c (.int .i64 252)),none,[29]⟩])
 (.exit 0))
 (.skip)))
 (.seq (.draw [ad 30 0,dH 31 30,dZ 32 31,bH 33 32,ad 34 0,dH 35 34,ei 36 35,bH 37 36,Dv 38 33 37,ad 4 38] [])
 (.block 2 (.seq (.aj [ad 51 4,⟨some 52,.bin (.int .eql) (.t 51) (.c (.int .u8 34)),none,[51]⟩,ad 50 52])
 (.cond (.t 50)
 (.seq (.aj [ad 53 0,dH 54 53,ei 55 54,bH 56 55,dQ 57 56,dH 58 53,ei 59 58,⟨none,.st 1 (.t 59) (.t 57),none,[59,57]⟩])
 (.seq (.seq (.aj [ad 60 3,dn 61 60,⟨some 62,.bin (.int .gtr) (.t 61) (.c (.int .i64 4096)),none,[61]⟩])
 (.cond (.t 62)
 (.aj [ad 63 0,dH 64 63,nx 65 64,⟨none,.st 1 (.t 65) (.c (.int .i64 255)),none,[65]⟩])
 (.skip)))
 (.seq (.aj [ad 66 3,⟨some 67,.cl .str (.t 66),none,[66]⟩,⟨some 68,.build [(.int .i64 0),(.int .i64 0),(.int .i64 0),(.str [])] [(0,1,(.c (.int .i64 2))),(3,1,(.t 67))],none,[67]⟩,⟨none,.st 4 (.t 2) (.t 68),none,[2,68]⟩])
 (.ret))))
 (.seq (.aj [ad 70 4,⟨some 71,.bin (.int .eql) (.t 70) (.c (.int .u8 92)),none,[70]⟩,ad 69 71])
 (.cond (.t 69)
 (.aj [ad 72 3,ad 73 0,⟨some 74,.call 132 [(.t 73)],none,[73]⟩,⟨some 75,.iB 1 1 [(.int .u8 0)] [(0,1,(.t 74))],none,[74]⟩,oj 76 72 75,ad 3 76])
 (.seq (.aj [ad 78 4,⟨some 79,.bin (.int .lss) (.t 78) (.c (.int .u8 32)),none,[78]⟩,ad 80 79,fS 81 4 80,⟨some 82,.bin (.int .eql) (.t 81) (.c (.int .u8 127)),(some (80,false)),[81,80]⟩,eQ 83 80 82,ad 77 83])
 (.cond (.t 77)
 (.aj [ad 84 0,dH 85 84,nx 86 85,⟨none,.st 1 (.t 86) (.c (.int .i64 252)),none,[86]⟩])
 (.seq (.aj [ad 39 0,dH 40 39,ei 41 40,bH 42 41,dQ 43 42,dH 44 39,ei 45 44,⟨none,.st 1 (.t 45) (.t 43),none,[45,43]⟩])
 (.aj [ad 46 3,ad 47 4,⟨some 48,.iB 1 1 [(.int .u8 0)] [(0,1,(.t 47))],none,[47]⟩,oj 49 46 48,ad 3 49]))))))))))))
def OD:aR:=
 .seq (.aj [AP 2])
 (.seq (.aj [ad 5 0,dH 6 5,ei 7 6,bH 8 7,dQ 9 8,dH 10 5,ei 11 10,⟨none,.st 1 (.t 11) (.t 9),none,[11,9]⟩])
 (.seq (.aj [eC 3])
 (.seq (.block 0 (.loop OE))
 (.seq (.aj [Hy 87,⟨none,.st 4 (.t 2) (.t 87),none,[2,87]⟩])
 (.ret)))))
theorem ZC:cE 122 88 Tryz.f122 OD [.ph 2 4]:=⟨Tryz.func122,by kernel_rfl⟩
def OF:aR:=
 .seq (.aj [cR 2])
 (.seq (.aj [ad 3 0,⟨some 4,.bin (.int .geq) (.t 3) (.c (.int .u8 97)),none,[3]⟩,ad 5 4,dP 6 0 5,⟨some 7,.bin (.int .leq) (.t 6) (.c (.int .u8 122)),(some (5,true)),[6,5]⟩,eL 8 5 7,ad 2 8])
 (.ret))
theorem ZD:cE 123 9 Tryz.f123 OF [.t 2]:=⟨Tryz.func123,by kernel_rfl⟩
def OG:aR:=
 .seq (.aj [AP 4])
 (.seq (.aj [ad 6 0,⟨some 7,.call 131 [(.t 6),(.c (.func 133 []))],none,[6]⟩,ad 5 7])
 (.seq (.block 0 (.seq (.aj [ad 9 1,x3 10 9,ad 11 10,dP 12 5 11,⟨some 13,.bin (.str .eql) (.t 12) (.c (.str [95])),(some (11,true)),[12,11]⟩,eL 14 11 13,ad 8 14])
 (.cond (.t 8)
 (.seq (.aj [ad 15 5,Nk 16 15,⟨none,.st 4 (.t 4) (.t 16),none,[4,16]⟩])
 (.ret))
 (.seq (.aj [ad 18 1,x3 19 18,ad 20 19,dP 21 5 20,⟨some 22,.bin (.str .add) (.c (.str [32])) (.t 21),(some (20,true)),[21,20]⟩,⟨some 23,.bin (.str .add) (.t 22) (.c (.str [32])),(some (20,true)),[22,20]⟩,⟨some 24,.call 134 [(.c (.str [32,97,110,100,32,98,101,103,105,110,32,101,108,115,101,32,101,110,100,32,101,120,99,101,112,116,105,111,110,32,102,97,108,115,101,32,102,117,110,32,105,102,32,105,110,32,108,101,116,32,109,97,116,99,104,32,109,111,100,32,111,102,32,114,97,105,115,101,32,114,101,99,32,116,104,101,110,32,116,114,117,101,32,116,114,121,32,116,121,112,101,32,119,105,116,104,32])),(.t 23)],(some (20,true)),[23,20]⟩,eL 25 20 24,ad 17 25])
 (.cond (.t 17)
 (.seq (.aj [ad 26 5,⟨some 27,.build [(.int .i64 0),(.int .i64 0),(.int .i64 0),(.str [])] [(0,1,(.c (.int .i64 6))),(3,1,(.t 26))],none,[26]⟩,⟨none,.st 4 (.t 4) (.t 27),none,[4,27]⟩])
 (.ret))
 (.seq (.aj [ad 29 5,lB 30 29,⟨some 31,.bin (.int .gtr) (.t 30) (.c (.int .i64 64)),none,[30]⟩,ad 28 31])
 (.cond (.t 28)
 (.aj [ad 32 0,dH 33 32,nx 34 33,⟨none,.st 1 (.t 34) (.c (.int .i64 255)),none,[34]⟩])
 (.skip))))))))
 (.seq (.aj [ad 35 1,ad 36 5,⟨some 37,.build [(.int .i64 0),(.int .i64 0),(.int .i64 0),(.str [])] [(0,1,(.t 35)),(3,1,(.t 36))],none,[35,36]⟩,⟨none,.st 4 (.t 4) (.t 37),none,[4,37]⟩])
 (.ret))))
theorem ZE:cE 124 38 Tryz.f124 OG [.ph 4 4]:=⟨Tryz.func124,by kernel_rfl⟩
def OH:aR:=
 .seq (.aj [cR 2])
 (.seq (.aj [ad 3 0,⟨some 4,.bin (.int .geq) (.t 3) (.c (.int .u8 65)),none,[3]⟩,ad 5 4,dP 6 0 5,⟨some 7,.bin (.int .leq) (.t 6) (.c (.int .u8 90)),(some (5,true)),[6,5]⟩,eL 8 5 7,ad 2 8])
 (.ret))
theorem ZF:cE 125 9 Tryz.f125 OH [.t 2]:=⟨Tryz.func125,by kernel_rfl⟩
def OI:aR:=
 .seq (.aj [eC 0])
 (.seq (.aj [⟨some 1,.iB 17 1 [(.str [])] [(0,1,(.c (.str [59,59]))),(1,1,(.c (.str [58,61]))),(2,1,(.c (.str [45,62]))),(3,1,(.c (.str [60,61]))),(4,1,(.c (.str [59]))),(5,1,(.c (.str [40]))),(6,1,(.c (.str [41]))),(7,1,(.c (.str [44]))),(8,1,(.c (.str [61]))),(9,1,(.c (.str [60]))),(10,1,(.c (.str [43]))),(11,1,(.c (.str [45]))),(12,1,(.c (.str [42]))),(13,1,(.c (.str [47]))),(14,1,(.c (.str [124]))),(15,1,(.c (.str [33]))),(16,1,(.c (.str [95])))],none,[]⟩,ad 0 1])
 (.ret))
theorem ZG:cE 126 2 Tryz.f126 OI [.t 0]:=⟨Tryz.func126,by kernel_rfl⟩
def OJ:aR:=
 .seq (.aj [cR 4])
 (.seq (.aj [ad 5 0,lB 6 5,ad 7 1,lB 8 7,x4 9 6 8,ad 10 9,dP 11 0 10,dP 12 1 10,⟨some 13,.len .str (.t 12),(some (10,true)),[12,10]⟩,⟨some 14,.sg (.t 11) none (some (.t 13)) none,(some (10,true)),[11,13,10]⟩,dP 15 1 10,⟨some 16,.bin (.str .eql) (.t 14) (.t 15),(some (10,true)),[14,15,10]⟩,eL 17 10 16,ad 4 17])
 (.ret))
theorem ZH:cE 129 18 Tryz.f129 OJ [.t 4]:=⟨Tryz.func129,by kernel_rfl⟩
def OL:aR:=
 .seq (.seq (.draw [ad 10 0,dH 11 10,ei 12 11,bH 13 12,ad 14 0,dH 15 14,dZ 16 15,bH 17 16,lB 18 17,eo 19 13 18,ad 20 19,dP 21 1 20,dP 22 0 20,x5 23 22 20,AO 24 23 20,hZ 25 24 20,dP 26 0 20,x5 27 26 20,t' 28 27 20,hZ 29 28 20,⟨some 30,.nh (.t 25) (.t 29),(some (20,true)),[25,29,20]⟩,⟨some 31,.qb (.t 21) [(.t 30)],(some (20,true)),[21,30,20]⟩,eL 32 20 31] [(3,[21]),(7,[21]),(15,[21]),(19,[21])])
 (.cond (.t 32)
 (.skip)
 (.exit 0)))
 (.block 1 (.aj [ad 33 0,dH 34 33,ei 35 34,bH 36 35,dQ 37 36,dH 38 33,ei 39 38,⟨none,.st 1 (.t 39) (.t 37),none,[39,37]⟩]))
def OK:aR:=
 .seq (.aj [⟨some 4,.bV (.c (.str [])),none,[]⟩])
 (.seq (.aj [ad 6 0,dH 7 6,ei 8 7,bH 9 8,ad 5 9])
 (.seq (.block 0 (.loop OL))
 (.seq (.draw [ad 40 0,dH 41 40,dZ 42 41,bH 43 42,ad 44 5,ad 45 0,dH 46 45,ei 47 46,bH 48 47,⟨some 49,.sg (.t 43) (some (.t 44)) (some (.t 48)) none,none,[43,44,48]⟩,ad 4 49] [])
 (.ret))))
theorem ZI:cE 131 50 Tryz.f131 OK [.t 4]:=⟨Tryz.func131,by kernel_rfl⟩
def OM:aR:=
 .seq (.aj [⟨some 2,.bV (.c (.int .u8 0)),none,[]⟩])
 (.seq (.aj [ad 7 0,dH 8 7,ei 9 8,bH 10 9,dQ 11 10,dH 12 7,ei 13 12,⟨none,.st 1 (.t 13) (.t 11),none,[13,11]⟩])
 (.seq (.draw [ad 14 0,dH 15 14,dZ 16 15,bH 17 16,ad 18 0,dH 19 18,ei 20 19,bH 21 20,Hx 22 17 21,ad 3 22] [])
 (.seq (.seq (.aj [ad 23 3,⟨some 24,.bin (.str .neq) (.t 23) (.c (.str [])),none,[23]⟩])
 (.cond (.t 24)
 (.seq (.aj [ad 25 3,Dw 26 25,⟨some 27,.call 113 [(.c (.str [110,116,34,92])),(.t 26)],none,[26]⟩,ad 4 27])
 (.seq (.aj [ad 28 4,DD 29 28])
 (.cond (.t 29)
 (.seq (.aj [ad 30 0,dH 31 30,ei 32 31,bH 33 32,dQ 34 33,dH 35 30,ei 36 35,⟨none,.st 1 (.t 36) (.t 34),none,[36,34]⟩])
 (.seq (.aj [ad 37 4,⟨some 38,.nh (.c (.str [10,9,34,92])) (.t 37),none,[37]⟩,ad 2 38])
 (.ret)))
 (.skip))))
 (.skip)))
 (.seq (.seq (.aj [ad 39 3,lB 40 39,⟨some 41,.bin (.int .geq) (.t 40) (.c (.int .i64 3)),none,[40]⟩,ad 42 41,dP 43 3 42,⟨some 44,.nh (.t 43) (.c (.int .i64 0)),(some (42,true)),[43,42]⟩,⟨some 45,.call 120 [(.t 44)],(some (42,true)),[44,42]⟩,eL 46 42 45,ad 47 46,dP 48 3 47,⟨some 49,.nh (.t 48) (.c (.int .i64 1)),(some (47,true)),[48,47]⟩,⟨some 50,.call 120 [(.t 49)],(some (47,true)),[49,47]⟩,eL 51 47 50,ad 52 51,dP 53 3 52,⟨some 54,.nh (.t 53) (.c (.int .i64 2)),(some (52,true)),[53,52]⟩,⟨some 55,.call 120 [(.t 54)],(some (52,true)),[54,52]⟩,eL 56 52 55])
 (.cond (.t 56)
 (.seq (.aj [ad 58 3,⟨some 59,.sg (.t 58) none (some (.c (.int .i64 3))) none,none,[58]⟩,⟨some 60,.call 137 [(.t 59)],none,[59]⟩,ad 57 60,ht 61 57,hv 62 57,ad 5 61,ad 6 62])
 (.seq (.aj [ad 63 5,⟨some 64,.bin (.int .lss) (.t 63) (.c (.int .i64 256)),none,[63]⟩])
 (.cond (.t 64)
 (.seq (.aj [ad 65 0,dH 66 65,ei 67 66,bH 68 67,⟨some 69,.bin (.int .add) (.t 68) (.c (.int .i64 3)),none,[68]⟩,dH 70 65,ei 71 70,⟨none,.st 1 (.t 71) (.t 69),none,[71,69]⟩])
 (.seq (.aj [ad 72 5,⟨some 73,.cl (.int .u8) (.t 72),none,[72]⟩,ad 2 73])
 (.ret)))
 (.skip))))
 (.skip)))
 (.seq (.aj [ad 74 0,dH 75 74,nx 76 75,⟨none,.st 1 (.t 76) (.c (.int .i64 252)),none,[76]⟩])
 (.seq (.aj [⟨some 2,.bV (.c (.int .u8 0)),none,[]⟩])
 (.ret)))))))
theorem ZJ:cE 132 77 Tryz.f132 OM [.t 2]:=⟨Tryz.func132,by kernel_rfl⟩
def ON:aR:=
 .seq (.aj [cR 2])
 (.seq (.aj [ad 3 0,⟨some 4,.call 120 [(.t 3)],none,[3]⟩,ad 5 4,fS 6 0 5,⟨some 7,.call 123 [(.t 6)],(some (5,false)),[6,5]⟩,eQ 8 5 7,ad 9 8,fS 10 0 9,⟨some 11,.call 125 [(.t 10)],(some (9,false)),[10,9]⟩,eQ 12 9 11,ad 13 12,fS 14 0 13,Dy 15 14 13,eQ 16 13 15,ad 17 16,fS 18 0 17,⟨some 19,.bin (.int .eql) (.t 18) (.c (.int .u8 39)),(some (17,false)),[18,17]⟩,eQ 20 17 19,ad 2 20])
 (.ret))
theorem ZK:cE 133 21 Tryz.f133 ON [.t 2]:=⟨Tryz.func133,by kernel_rfl⟩
theorem oX {f:FuncId} {args:List V} {h:ag} {v:V} (c:cr Tryz.prog f args h fun x ab=>x=v/\ab=h):e4 Tryz.prog f args h v h:=by obtain ⟨x,ab,q,rfl,rfl⟩:=c;exact q
def nF (c:Int):Bool:=decide (48<=c)&&decide (c<=57)
def hJ (c:Int):Bool:=decide (97<=c)&&decide (c<=122)
def nN (c:Int):Bool:=decide (65<=c)&&decide (c<=90)
def u1 (c:Int):Bool:=nF c||hJ c||nN c||decide (c=95)||decide (c=39)
def oe (c a b:Int):Bool:=decide (a<=c)&&decide (c<=b)
theorem yl (c:Int) (h:ag):e4 Tryz.prog 120 [.int .u8 c] h (.bool (nF c)) h:=by refine oX (ZA.z rfl (cm ?_));unfold OB;simp +contextual only [↓af,an,simprocAttr];rfl
theorem GZ (c:Int) (h:ag):e4 Tryz.prog 123 [.int .u8 c] h (.bool (hJ c)) h:=by refine oX (ZD.z rfl (cm ?_));unfold OF;simp +contextual only [↓af,an,simprocAttr];rfl
theorem RU (c:Int) (h:ag):e4 Tryz.prog 125 [.int .u8 c] h (.bool (nN c)) h:=by refine oX (ZF.z rfl (cm ?_));unfold OH;simp +contextual only [↓af,an,simprocAttr];rfl
theorem Ao (c a b:Int) (h:ag):e4 Tryz.prog 88 [.int .u8 c,.int .u8 a,.int .u8 b] h (.bool (oe c a b)) h:=by refine oX (aao.z rfl (cm ?_));unfold P8;simp +contextual only [↓af,an,simprocAttr];rfl
theorem adU (s p:List UInt8) (h:ag):e4 Tryz.prog 129 [.str s,.str p] h (.bool (p.isPrefixOf s)) h:=by
 refine oX (ZH.z rfl (cm ?_));unfold OJ;have a1:(0<=(p.length:Int))=True:=aqh (by omega);by_cases aw:p.length<=s.length
 . have aa:((p.length:Int)<=(s.length:Int))=True:=aqh (by omega);simp +contextual only [a1,aa,aqc,↓af,an,simprocAttr];rw [aqX,aqg,ar0,List.prefix_iff_eq_take];exact ⟨fun e=>e.symm,fun e=>e.symm⟩
 . have aa:((p.length:Int)<=(s.length:Int))=False:=ap_ (by omega);simp +contextual only [a1,aa,aqc,↓af,an,simprocAttr];rw [eq_comm,<-aqF,ar0];exact fun e=>aw e.length_le
theorem adT (s p:List UInt8) (h:ag):e4 Tryz.prog 119 [.str s,.str p] h (.bool (p.isPrefixOf s)) h:=by refine oX (Zz.z rfl (cm ?_));unfold c119;simp +contextual only [↓af,an,simprocAttr];refine gr (adU s p h) ?_;simp +contextual only [↓af,an,simprocAttr]
theorem ai_ (c:Int) (h:ag):e4 Tryz.prog 133 [.int .u8 c] h (.bool (u1 c)) h:=by refine oX (ZK.z rfl (cm ?_));unfold ON;simp +contextual only [↓af,an,simprocAttr];refine gr (yl c h) ?_;simp +contextual only [↓af,an,simprocAttr];refine ET (.bool (hJ c)) (fun av=>by simp only [av,↓af,an,simprocAttr];exact GZ _ _) ?_;simp +contextual only [↓af,an,simprocAttr];refine ET (.bool (nN c)) (fun av=>by simp only [av,↓af,an,simprocAttr];exact RU _ _) ?_;simp +contextual only [↓af,an,simprocAttr];rfl
theorem XD (c:Int) (h:ag):e4 Tryz.prog 87 [.int .u8 c] h (.bool (oe c 97 122||oe c 65 90||oe c 48 57||decide (c=95)||decide (c=39))) h:=by refine oX (aan.z rfl (cm ?_));unfold P7;simp +contextual only [↓af,an,simprocAttr];refine gr (Ao c _ _ h) ?_;simp +contextual only [↓af,an,simprocAttr];refine ET (.bool (oe c 65 90)) (fun av=>by simp only [av,↓af,an,simprocAttr];exact Ao _ _ _ _) ?_;simp +contextual only [↓af,an,simprocAttr];refine ET (.bool (oe c 48 57)) (fun av=>by simp only [av,↓af,an,simprocAttr];exact Ao _ _ _ _) ?_;simp +contextual only [↓af,an,simprocAttr]
theorem Jm (s p:List UInt8) (at':Int) (rest:List V) (b:aQ) (cI:Nat) (st:Bool) (h:ag) (ak:h.get b=.bU (.str s::.int .i64 at'::rest) cI st) (a1:0<=at') (aa:at'<=s.length):
 e4 Tryz.prog 114 [.ptr b 0,.str p] h (.bool (p.isPrefixOf (s.drop at'.toNat))) h:=by
 refine oX (Zv.z rfl (cm ?_));unfold Ou;have f0:(0<=at')=True:=aqh a1;have f1:(at'<=(s.length:Int))=True:=aqh aa;simp +contextual only [ak,f0,f1,↓af,an,simprocAttr];refine gr (adT _ p h) ?_;simp +contextual only [ak,f0,f1,↓af,an,simprocAttr]
def iZ:List UInt8->Int->Option Nat
 | [],_=>none
 | [_],_=>none
 | x::y::r,d=>if x=40/\y=42 then (iZ r (d+1)).map (· +2) else if x=42/\y=41 then (if d-1=0 then some 2 else (iZ r (d-1)).map (· +2)) else (iZ (y::r) d).map (· +1)
theorem aj1 (r:List UInt8) (d:Int) (h:r≠[]):iZ r d=if ([40,42]:List UInt8).isPrefixOf r=true then (iZ (r.drop 2) (d+1)).map (· +2) else
 if ([42,41]:List UInt8).isPrefixOf r=true then (if d-1=0 then some 2 else (iZ (r.drop 2) (d-1)).map (· +2)) else (iZ (r.drop 1) d).map (· +1):=by
 match r,h with
 | [x],_=>simp [iZ,List.isPrefixOf]
 | x::y::r,_=>
   have ax:(([40,42]:List UInt8).isPrefixOf (x::y::r)=true)=(x=40/\y=42):=by simp only [List.isPrefixOf,aq1,ap2,arO];exact propext ⟨fun q=>⟨q.1.symm,q.2.symm⟩,fun q=>⟨q.1.symm,q.2.symm⟩⟩
   have aH:(([42,41]:List UInt8).isPrefixOf (x::y::r)=true)=(x=42/\y=41):=by simp only [List.isPrefixOf,aq1,ap2,arO];exact propext ⟨fun q=>⟨q.1.symm,q.2.symm⟩,fun q=>⟨q.1.symm,q.2.symm⟩⟩
   rw [iZ];simp only [ax,aH,arH,ara]
theorem Vj {a b:UInt8} {r:List UInt8} (h:([a,b]:List UInt8).isPrefixOf r=true):2<=r.length:=by rw [ar0] at h;simpa using h.length_le
def fs (s:List UInt8) (at' e:Int):b8:=.bU [.str s,.int .i64 at',.int .i64 e] 0 false
theorem aj2 (s:List UInt8) (a0:Nat) (cA:Int) (b:aQ) (h:ag) (ak:h.get b=fs s a0 cA) (a1:a0<=s.length) (aO:s.length<=100000) (gv:Old h b):
 cr Tryz.prog 115 [.ptr b 0] h fun x ab=>x=.tuple []/\Mod (fun x=>x=b) h ab/\(match iZ (s.drop a0) 0 with
  | some n=>ab.get b=fs s ((a0+n:Nat):Int) cA/\a0+n<=s.length
  | none=>ab.get b=fs s (s.length:Int) 253):=by
 refine Zw.z rfl (cm ?_);unfold Ov;unfold fs at ak ⊢;simp +contextual only [ak,↓af,an,simprocAttr]
 refine ek (fun r ab=>∃(a:Nat) (d:Int),a0<=a/\a<=s.length/\r 0=.ptr b 0/\r 2=.int .i64 d/\ab.get b=.bU [.str s,.int .i64 a,.int .i64 cA] 0 false/\Mod (fun x=>x=b) h ab/\-(a:Int)<=d/\d<=a/\
  iZ (s.drop a0) 0=(iZ (s.drop a) d).map (· + (a-a0))) (fun r ab=>s.length - ((gX (ab.get b) 1).getD .bad).toN) ?_ ?_
 . refine ⟨a0,0,ap7 _,a1,?_⟩;simp only [↓af,an,simprocAttr];refine ⟨ak,Mod.refl _ _,by omega,by omega,?_⟩;rw [ar6];cases iZ (s.drop a0) 0<;>rfl
 . rintro r ab ⟨a,d,nX,cd,aU,b',aL,hm,d0,d1,bx⟩;unfold Ow;by_cases gF:(s.length:Int)<=(a:Int)
   . have bp:a=s.length:=by omega
     have aW:iZ (s.drop a) d=none:=by rw [bp,ase];rfl
     rw [aW] at bx;simp +contextual only [aU,b',aL,gF,↓af,an,simprocAttr];rw [bx];refine ⟨hm.set (fun _=>rfl) _,?_⟩;simp only [bp,Option.map_none,ej,aqB]
   . have cK:s.drop a≠[]:=by
      intro q;rw [List.drop_eq_nil_iff] at q;omega
     have B0:∀p,e4 Tryz.prog 114 [.ptr b 0,.str p] ab (.bool (p.isPrefixOf (s.drop a))) ab:=fun p=>by have:=Jm s p (a:Int) [.int .i64 cA] b 0 false ab aL (by omega) (by omega);simpa using this
     have ij:=aj1 (s.drop a) d cK;simp +contextual only [aU,b',aL,gF,↓af,an,simprocAttr];refine gr (B0 _) ?_;cases k6:([40,42]:List UInt8).isPrefixOf (s.drop a) with
     | true=>
       have ae:=Vj k6;rw [aqG] at ae;rw [k6,aqf rfl] at ij;have bT:IntKind.i64.wrap (d+1)=d+1:=wrap_i64 (by omega) (by omega);have bN:IntKind.i64.wrap ((a:Int)+2)=((a+2:Nat):Int):=by rw [wrap_i64 (by omega) (by omega)];rfl
       simp +contextual only [aU,b',aL,bT,bN,↓af,an,simprocAttr];refine ⟨⟨a+2,d+1,by omega,by omega,rfl,rfl,hm.set (fun _=>rfl) _,by omega,by omega,?_⟩,by omega⟩;rw [bx,ij,arn,asx];congr 1;funext q;simp only [Function.comp];omega
     | false=>
       rw [k6,aqa (by decide)] at ij;simp +contextual only [aU,b',aL,↓af,an,simprocAttr];refine gr (B0 _) ?_;cases iE:([42,41]:List UInt8).isPrefixOf (s.drop a) with
       | true=>
         have ae:=Vj iE;rw [aqG] at ae;rw [iE,aqf rfl] at ij;have bT:IntKind.i64.wrap (d-1)=d-1:=wrap_i64 (by omega) (by omega);have bN:IntKind.i64.wrap ((a:Int)+2)=((a+2:Nat):Int):=by rw [wrap_i64 (by omega) (by omega)];rfl
         by_cases aq:d-1=0
         . rw [aqf aq] at ij;obtain rfl:d=1:=by omega
           have aC:IntKind.i64.wrap 0=0:=rfl;simp +contextual only [aU,b',aL,aC,bN,↓af,an,simprocAttr];rw [bx,ij];refine ⟨hm.set (fun _=>rfl) _,?_⟩;simp only [arL,ej,aqB];refine ⟨?_,by omega⟩;rw [show a0 + (2 + (a-a0))=a+2 from by omega]
         . rw [aqa aq] at ij;simp +contextual only [aU,b',aL,bT,bN,aq,↓af,an,simprocAttr];refine ⟨⟨a+2,d-1,by omega,by omega,rfl,rfl,hm.set (fun _=>rfl) _,by omega,by omega,?_⟩,by omega⟩;rw [bx,ij,arn,asx];congr 1;funext q;simp only [Function.comp];omega
       | false=>
         rw [iE,aqa (by decide)] at ij;have bN:IntKind.i64.wrap ((a:Int)+1)=((a+1:Nat):Int):=by rw [wrap_i64 (by omega) (by omega)];rfl
         simp +contextual only [aU,b',aL,bN,↓af,an,simprocAttr];refine ⟨⟨a+1,d,by omega,by omega,rfl,rfl,hm.set (fun _=>rfl) _,by omega,by omega,?_⟩,by omega⟩;rw [bx,ij,arn,asx];congr 1;funext q;simp only [Function.comp];omega
theorem drop_cons {s:List UInt8} {a:Nat} (h:a<s.length):s.drop a=s[a]::s.drop (a+1):=aqz h
theorem WC (p:UInt8->Bool):∀l:List UInt8,(l.takeWhile p).length<=l.length
 | []=>by simp
 | x::l=>by
   simp only [arI]
   split
   . simpa using WC p l
   . simp
theorem V2 (s:List UInt8) (a0:Nat) (cA:Int) (b:aQ) (g:FuncId) (p:Int->Bool) (h:ag) (ak:h.get b=fs s a0 cA) (a1:a0<=s.length) (aO:s.length<=100000) (a6:(g=4294967296)=False)
 (ai:∀c h,e4 Tryz.prog g [.int .u8 c] h (.bool (p c)) h):
 cr Tryz.prog 131 [.ptr b 0,.func g []] h fun x ab=>x=.str ((s.drop a0).takeWhile fun c=>p c.toNat)/\Mod (fun x=>x=b) h ab/\ab.get b=fs s ((a0 + ((s.drop a0).takeWhile fun c=>p c.toNat).length:Nat):Int) cA:=by
 refine ZI.z rfl (cm ?_);unfold OK;unfold fs at ak ⊢;simp +contextual only [ak,↓af,an,simprocAttr]
 refine ek (fun r ab=>∃(a:Nat),a0<=a/\a<=s.length/\r 0=.ptr b 0/\r 1=.func g []/\r 5=.int .i64 a0/\ab.get b=.bU [.str s,.int .i64 a,.int .i64 cA] 0 false/\Mod (fun x=>x=b) h ab/\
  ((s.drop a0).takeWhile fun c=>p c.toNat)=(s.drop a0).take (a-a0)++((s.drop a).takeWhile fun c=>p c.toNat)) (fun r ab=>s.length - ((gX (ab.get b) 1).getD .bad).toN) ?_ ?_
 . refine ⟨a0,ap7 _,a1,?_⟩;simp only [↓af,an,simprocAttr];refine ⟨ak,Mod.refl _ _,?_⟩;rw [ar6];rfl
 . rintro r ab ⟨a,nX,cd,aU,a8,bS,aL,hm,bx⟩;unfold OL;have fin:((s.drop a).takeWhile fun c=>p c.toNat)=[]->V.str (((s.drop a0).take (a-a0)))=V.str ((s.drop a0).takeWhile fun c=>p c.toNat)/\Mod (fun x=>x=b) h ab/\b8.bU [V.str s,V.int .i64 a,V.int .i64 cA] 0 false=b8.bU [V.str s,V.int .i64 ((a0 + ((s.drop a0).takeWhile fun c=>p c.toNat).length:Nat):Int),V.int .i64 cA] 0 false:=by
    intro q;rw [q,aq7] at bx;rw [bx,aqw,aqG];refine ⟨rfl,hm,?_⟩;rw [show a0+min (a-a0) (s.length-a0)=a from by omega]
   have f0:(0<=(a0:Int))=True:=aqh (by omega);have f1:((a0:Int)<=(a:Int))=True:=aqh (by omega);have f2:((a:Int)<=(s.length:Int))=True:=aqh (by omega);have f3:(0<=(a:Int))=True:=aqh (by omega);by_cases gF:(a:Int) < (s.length:Int)
   . have aN:a<s.length:=by omega
     rw [drop_cons aN,arI] at bx fin;simp +contextual only [a6,aqD,aU,a8,bS,aL,gF,f0,f1,f2,f3,ap4 aN,aqc,↓af,an,simprocAttr];refine gr (ai _ _) ?_;cases m':p ((s[a]).toNat:Int) with
     | true=>
       rw [m'] at bx;have bN:IntKind.i64.wrap ((a:Int)+1)=((a+1:Nat):Int):=by rw [wrap_i64 (by omega) (by omega)];rfl
       simp +contextual only [m',aU,a8,bS,aL,gF,f0,f1,f2,f3,bN,ap4 aN,aqc,↓af,an,simprocAttr];refine ⟨⟨a+1,by omega,by omega,rfl,hm.set (fun _=>rfl) _,?_⟩,by omega⟩;rw [bx,aqf rfl];have uN:a-a0 < (s.drop a0).length:=by rw [aqG];omega
       rw [show a+1-a0=a-a0+1 from by omega,<-List.take_append_getElem uN,arf];congr 1;rw [List.getElem_drop];simp only [show a0 + (a-a0)=a from by omega];rfl
     | false=>
       rw [m'] at fin;simp +contextual only [m',aU,a8,bS,aL,gF,f0,f1,f2,f3,ap4 aN,aqc,↓af,an,simprocAttr];exact fin rfl
   . have bp:a=s.length:=by omega
     simp +contextual only [a6,aqD,aU,a8,bS,aL,gF,f0,f1,f2,f3,aqc,↓af,an,simprocAttr];refine fin ?_;rw [bp,ase];rfl
end
end Go.Proofs.YtgmhjhgoamjeeaaGreatDoor
