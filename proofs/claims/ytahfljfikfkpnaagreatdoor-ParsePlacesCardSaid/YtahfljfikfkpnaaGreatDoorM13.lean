/- The chapter's functions, walked by the abstract machine: plain lemmas, no condition. Printed by a program from longer texts: names made short. -/
import Derived.Test.YtahfljfikfkpnaaGreatDoorM8
import Derived.Test.YtahfljfikfkpnaaGreatDoorM12
import Derived.Test.YtahfljfikfkpnaaGreatDoorM9
set_option linter.unusedSectionVars false
set_option linter.unusedSimpArgs false
set_option linter.unusedVariables false
set_option maxHeartbeats 64000000
noncomputable section
namespace Go.Proofs.YtahfljfikfkpnaaGreatDoor
section
open Go bf
def Rj:bL:=
 .seq (.seq (.ax [aj 25 7,aj 26 5,iN 27 26,kM 28 25 27])
 (.cond (.t 28)
 (.skip)
 (.exit 0)))
 (.seq (.block 1 (.seq (.seq (.ax [aj 31 5,aj 32 7,DO 33 31 32,iB 34 33,cF 35 34,HK 36 35 0,aj 37 36,iO 38 5 37,iO 39 7 37,⟨some 40,.fy 4 (.t 38) (.t 39),(some (37,false)),[38,39,37]⟩,AU 41 40 37,ob 42 41 37,iO 43 0 37,⟨some 44,.len .str (.t 43),(some (37,false)),[43,37]⟩,⟨some 45,.bin (.int .geq) (.t 42) (.t 44),(some (37,false)),[42,44,37]⟩,il 46 37 45])
 (.cond (.t 46)
 (.seq (.ax [hF 2])
 (.ret))
 (.skip)))
 (.ax [aj 47 4,aj 48 5,aj 49 7,DO 50 48 49,iB 51 50,cF 52 51,uG 53 47 52,⟨none,.st 1 (.t 53) (.c (.bool true)),none,[53]⟩])))
 (.ax [aj 29 7,hV 30 29 1,aj 7 30]))
def Rk:bL:=
 .seq (.seq (.ax [aj 115 10,aj 116 8,iN 117 116,kM 118 115 117])
 (.cond (.t 118)
 (.skip)
 (.exit 2)))
 (.seq (.block 3 (.seq (.draw [aj 121 8,aj 122 10,uH 123 121 122,eX 124 123,aj 125 8,aj 126 10,uH 127 125 126,iB 128 127,cF 129 128,aj 130 4,DK 131 124 129 130 14,qE 132 131,aj 133 132,iO 134 10 133,⟨some 135,.bin (.int .gtr) (.t 134) (.c (.int .i64 0)),(some (133,false)),[134,133]⟩,iO 136 135 133,fC 137 8 136,fC 138 10 136,⟨some 139,.fy 5 (.t 137) (.t 138),(some (136,true)),[137,138,136]⟩,⟨some 140,.hI 2 (.t 139),(some (136,true)),[139,136]⟩,j8 141 140 136,fC 142 8 136,fC 143 10 136,⟨some 144,.bin (.int .sub) (.t 143) (.c (.int .i64 1)),(some (136,true)),[143,136]⟩,⟨some 145,.fy 5 (.t 142) (.t 144),(some (136,true)),[142,144,136]⟩,⟨some 146,.hI 2 (.t 145),(some (136,true)),[145,136]⟩,j8 147 146 136,⟨some 148,.bin (.int .leq) (.t 141) (.t 147),(some (136,true)),[141,147,136]⟩,⟨some 149,.pick (.t 136) (.t 148) (.c (.bool false)),(some (133,false)),[136,148,133]⟩,il 150 133 149] [(3,[10]),(8,[10]),(20,[30]),(26,[30])] [10] [121,122,123,124,125,126,127,128,129,130,131,132,133,134,135,136,137,138,139,140,141,142,143,144,145,146,147,148,149,150])
 (.cond (.t 150)
 (.seq (.ax [hF 2])
 (.ret))
 (.skip))))
 (.ax [aj 119 10,hV 120 119 1,aj 10 120]))
def c5:bL:=
 .seq (.ax [hF 2])
 (.seq (.ax [⟨some 11,.call 12 [],none,[]⟩,aj 3 11])
 (.seq (.seq (.ax [aj 12 0,lE 13 12,sP 14 13 3000])
 (.cond (.t 14)
 (.seq (.ax [aj 15 3,aj 2 15])
 (.ret))
 (.skip)))
 (.seq (.ax [aj 16 0,lE 17 16,hV 18 17 1,⟨some 19,.xV 1 [(.bool false)] (.t 18) (.t 18),none,[18,18]⟩,aj 4 19])
 (.seq (.ax [aj 21 0,c8 22 21 13,aj 20 22,pC 23 20,pD 24 20,AW 6,aj 5 23,⟨none,.st 2 (.t 6) (.t 24),none,[6,24]⟩])
 (.seq (.seq (.ax [ht 7 0])
 (.block 0 (.loop Rj)))
 (.seq (.ax [aj 54 4,aj 55 0,lE 56 55,uG 57 54 56,⟨none,.st 1 (.t 57) (.c (.bool true)),none,[57]⟩])
 (.seq (.ax [aj 59 0,c8 60 59 9,aj 58 60,pC 61 58,pD 62 58,AW 9,aj 8 61,⟨none,.st 2 (.t 9) (.t 62),none,[9,62]⟩])
 (.seq (.seq (.ax [jD 63 6,cF 64 63,AR 65 64 0])
 (.cond (.t 65)
 (.seq (.ax [aj 66 3,aj 67 66,⟨some 68,.iH 2 (.t 9),(some (67,true)),[9,67]⟩,⟨some 69,.iH 2 (.t 6),(some (67,true)),[6,67]⟩,⟨some 70,.bin (.other .eql 30) (.t 68) (.t 69),(some (67,true)),[68,69,67]⟩,hW 71 67 70,aj 72 71,fC 73 8 72,⟨some 74,.len .slice (.t 73),(some (72,true)),[73,72]⟩,yO 75 74 72 0,hW 76 72 75,aj 2 76])
 (.ret))
 (.skip)))
 (.seq (.seq (.ax [jD 77 9,cF 78 77,AR 79 78 0])
 (.cond (.t 79)
 (.seq (.ax [aj 80 3,aj 81 80,fC 82 8 81,⟨some 83,.len .slice (.t 82),(some (81,true)),[82,81]⟩,yO 84 83 81 0,hW 85 81 84,aj 86 85,uE 87 9 86,j8 88 87 86,yO 89 88 86 270,fC 90 89 86,⟨some 91,.hI 0 (.t 9),(some (90,false)),[9,90]⟩,ob 92 91 90,⟨some 93,.bin (.int .eql) (.t 92) (.c (.int .i64 271)),(some (90,false)),[92,90]⟩,⟨some 94,.pick (.t 90) (.c (.bool true)) (.t 93),(some (86,true)),[90,93,86]⟩,hW 95 86 94,aj 96 95,uF 97 9 96,j8 98 97 96,⟨some 99,.bin (.int .geq) (.t 98) (.c (.int .i64 0)),(some (96,true)),[98,96]⟩,hW 100 96 99,aj 101 100,uF 102 9 101,j8 103 102 101,fC 104 0 101,DQ 105 104 101,⟨some 106,.bin (.int .leq) (.t 103) (.t 105),(some (101,true)),[103,105,101]⟩,hW 107 101 106,aj 108 107,fC 109 4 108,uF 110 9 108,j8 111 110 108,⟨some 112,.fy 1 (.t 109) (.t 111),(some (108,true)),[109,111,108]⟩,j8 113 112 108,hW 114 108 113,aj 2 114])
 (.ret))
 (.skip)))
 (.seq (.seq (.ax [ht 10 0])
 (.block 2 (.loop Rk)))
 (.seq (.ax [aj 151 3,aj 152 151,fC 153 8 152,AT 154 153 152 15,yO 155 154 152 0,hW 156 152 155,aj 2 156])
 (.ret))))))))))))
theorem aaQ:dJ 5 157 Tryz.f5 c5 [.t 2]:=⟨Tryz.func5,by kernel_rfl⟩
def Qx:bL:=
 .seq (.seq (.ax [aj 27 7,qC 28 3,cF 29 28,iN 30 29,kM 31 27 30])
 (.cond (.t 31)
 (.skip)
 (.exit 0)))
 (.seq (.block 1 (.seq (.draw [qC 34 3,cF 35 34,aj 36 7,uH 37 35 36,eX 38 37,iB 39 3,cF 40 39,aj 41 2,DK 42 38 40 41 14,qE 43 42] [(1,[8]),(4,[8]),(6,[8])] [8] [34,35,36,37,38,39,40,41,42,43])
 (.cond (.t 43)
 (.seq (.ax [hF 6])
 (.ret))
 (.skip))))
 (.ax [aj 32 7,hV 33 32 1,aj 7 33]))
def Qr:bL:=
 .seq (.ax [oZ 3 0,hF 6])
 (.seq (.seq (.ax [iB 8 3,cF 9 8,aj 10 1,kM 11 9 10,aj 12 11,AU 13 3 12,ob 14 13 12,iO 15 2 12,⟨some 16,.len .slice (.t 15),(some (12,false)),[15,12]⟩,⟨some 17,.bin (.int .geq) (.t 14) (.t 16),(some (12,false)),[14,16,12]⟩,il 18 12 17,aj 19 18,iO 20 2 19,AU 21 3 19,ob 22 21 19,⟨some 23,.fy 1 (.t 20) (.t 22),(some (19,false)),[20,22,19]⟩,ob 24 23 19,DR 25 24 19,il 26 19 25])
 (.cond (.t 26)
 (.seq (.ax [hF 6])
 (.ret))
 (.skip)))
 (.seq (.seq (.ax [ht 7 0])
 (.block 0 (.loop Qx)))
 (.seq (.ax [AV 6])
 (.ret))))
theorem aac:dJ 14 44 Tryz.f14 Qr [.t 6]:=⟨Tryz.func14,by kernel_rfl⟩
def QB:bL:=
 .seq (.ax [kM 12 11 10])
 (.seq (.cond (.t 12)
 (.skip)
 (.exit 0))
 (.seq (.block 1 (.seq (.ax [uH 13 9 11,eX 14 13,eW 5,⟨none,.st 5 (.t 5) (.t 14),none,[5,14]⟩])
 (.seq (.ax [jD 15 5,cF 16 15,c8 17 16 38,AR 18 17 7,aj 19 18,iO 20 3 19,⟨some 21,.iH 5 (.t 5),(some (19,false)),[5,19]⟩,HP 22 20 21 19 39,DR 23 22 19,il 24 19 23])
 (.cond (.t 24)
 (.seq (.ax [ht 2 2])
 (.ret))
 (.skip)))))
 (.ax [hV 25 11 1,aj 11 25])))
def QC:bL:=
 .seq (.ax [kM 29 28 27])
 (.seq (.cond (.t 29)
 (.skip)
 (.exit 2))
 (.seq (.block 3 (.seq (.ax [uH 30 26 28,eX 31 30,eW 7,⟨none,.st 5 (.t 7) (.t 31),none,[7,31]⟩])
 (.seq (.ax [eX 32 7,c8 33 32 40,sP 34 33 200])
 (.cond (.t 34)
 (.seq (.ax [ht 2 260])
 (.ret))
 (.skip)))))
 (.ax [hV 35 28 1,aj 28 35])))
def Qy:bL:=
 .seq (.ax [ht 2 0])
 (.seq (.ax [⟨some 8,.call 37 [],none,[]⟩,aj 3 8])
 (.seq (.seq (.ax [aj 9 0,iN 10 9,ht 11 0])
 (.block 0 (.loop QB)))
 (.seq (.seq (.ax [aj 26 0,iN 27 26,ht 28 0])
 (.block 2 (.loop QC)))
 (.seq (.ax [ht 2 0])
 (.ret)))))
theorem aaf:dJ 15 36 Tryz.f15 Qy [.t 2]:=⟨Tryz.func15,by kernel_rfl⟩
def Q6:bL:=
 .seq (.ax [ht 2 0])
 (.seq (.block 0 (.seq (.ax [aj 4 0,sO 5 4 1,aj 6 5,fC 7 0 6,DG 8 7 6 4,hW 9 6 8,aj 3 9])
 (.cond (.t 3)
 (.seq (.ax [ht 2 1])
 (.ret))
 (.seq (.ax [aj 11 0,sO 12 11 10,aj 13 12,fC 14 0 13,DG 15 14 13 16,hW 16 13 15,aj 10 16])
 (.cond (.t 10)
 (.seq (.ax [ht 2 2])
 (.ret))
 (.seq (.ax [aj 18 0,sO 19 18 20,aj 20 19,fC 21 0 20,DG 22 21 20 39,hW 23 20 22,aj 17 23])
 (.cond (.t 17)
 (.seq (.ax [ht 2 3])
 (.ret))
 (.seq (.ax [aj 25 0,jV 26 25 45,aj 24 26])
 (.cond (.t 24)
 (.seq (.ax [ht 2 4])
 (.ret))
 (.seq (.ax [aj 28 0,jV 29 28 46,aj 27 29])
 (.cond (.t 27)
 (.seq (.ax [ht 2 5])
 (.ret))
 (.seq (.ax [aj 31 0,jV 32 31 47,aj 30 32])
 (.cond (.t 30)
 (.seq (.ax [ht 2 6])
 (.ret))
 (.seq (.ax [aj 34 0,sO 35 34 50,aj 36 35,fC 37 0 36,DG 38 37 36 53,hW 39 36 38,aj 33 39])
 (.cond (.t 33)
 (.seq (.ax [ht 2 7])
 (.ret))
 (.skip))))))))))))))))
 (.seq (.ax [ht 2 0])
 (.ret)))
theorem aaE:dJ 38 40 Tryz.f38 Q6 [.t 2]:=⟨Tryz.func38,by kernel_rfl⟩
def Q8:bL:=
 .seq (.ax [kM 88 87 86])
 (.seq (.cond (.t 88)
 (.skip)
 (.exit 0))
 (.seq (.block 1 (.seq (.ax [aj 89 87,uH 90 85 87,eX 91 90,eW 10,aj 9 89,⟨none,.st 5 (.t 10) (.t 91),none,[10,91]⟩])
 (.seq (.ax [fk 92 5,cF 93 92,aj 11 93])
 (.seq (.block 2 (.seq (.ax [aj 95 9,aj 96 7,iN 97 96,kM 98 95 97,aj 94 98])
 (.cond (.t 94)
 (.ax [aj 99 7,aj 100 9,uG 101 99 100,cF 102 101,aj 11 102])
 (.seq (.ax [aj 104 9,aj 105 7,iN 106 105,aj 107 8,⟨some 108,.bin (.int .add) (.t 106) (.t 107),none,[106,107]⟩,AQ 109 104 108,aj 103 109])
 (.cond (.t 103)
 (.ax [qC 110 5,cF 111 110,aj 112 9,aj 113 7,iN 114 113,DH 115 112 114,aj 116 8,DH 117 115 116,uG 118 111 117,cF 119 118,aj 11 119])
 (.skip))))))
 (.seq (.ax [eX 120 10,aj 121 11,iY 122 120 121 88,qE 123 122,aj 124 123,iO 125 0 124,⟨some 126,.iH 5 (.t 10),(some (124,false)),[10,124]⟩,HP 127 125 126 124 39,DR 128 127 124,il 129 124 128])
 (.cond (.t 129)
 (.seq (.ax [hF 4])
 (.ret))
 (.skip)))))))
 (.ax [hV 130 87 1,aj 87 130])))
def Q7:bL:=
 .seq (.ax [oZ 3 1,hF 4])
 (.seq (.ax [aj 13 0,jD 14 3,cF 15 14,⟨some 16,.look .int (.agg [.cn,(.int .i64 0),(.int .i64 0),(.int .i64 0),.cn,(.int .i64 0),(.int .i64 0),(.int .i64 0)]) true (.t 13) (.t 15),none,[13,15]⟩,aj 12 16,pC 17 12,pD 18 12,⟨some 5,.new [.cn,(.int .i64 0),(.int .i64 0),(.int .i64 0),.cn,(.int .i64 0),(.int .i64 0),(.int .i64 0)],none,[]⟩,⟨none,.st 8 (.t 5) (.t 17),none,[5,17]⟩,aj 6 18])
 (.seq (.seq (.ax [aj 19 6,qE 20 19,aj 21 20,⟨some 22,.hI 1 (.t 3),(some (21,false)),[3,21]⟩,ob 23 22 21,⟨some 24,.hI 5 (.t 5),(some (21,false)),[5,21]⟩,⟨some 25,.vk 2 1 (.t 24) (.c (.int .i64 0)),(some (21,false)),[24,21]⟩,ob 26 25 21,⟨some 27,.bin (.int .lss) (.t 23) (.t 26),(some (21,false)),[23,26,21]⟩,il 28 21 27,aj 29 28,⟨some 30,.hI 1 (.t 3),(some (29,false)),[3,29]⟩,ob 31 30 29,⟨some 32,.hI 5 (.t 5),(some (29,false)),[5,29]⟩,⟨some 33,.vk 2 1 (.t 32) (.c (.int .i64 1)),(some (29,false)),[32,29]⟩,ob 34 33 29,⟨some 35,.bin (.int .gtr) (.t 31) (.t 34),(some (29,false)),[31,34,29]⟩,il 36 29 35,aj 37 36,AU 38 3 37,ob 39 38 37,⟨some 40,.bin (.int .lss) (.t 39) (.c (.int .i64 0)),(some (37,false)),[39,37]⟩,il 41 37 40,aj 42 41,AU 43 3 42,ob 44 43 42,⟨some 45,.bin (.int .gtr) (.t 44) (.c (.int .i64 65536)),(some (42,false)),[44,42]⟩,il 46 42 45,aj 47 46,⟨some 48,.hI 7 (.t 5),(some (47,false)),[5,47]⟩,ob 49 48 47,⟨some 50,.hI 3 (.t 3),(some (47,false)),[3,47]⟩,ob 51 50 47,HP 52 49 51 47 86,DR 53 52 47,il 54 47 53])
 (.cond (.t 54)
 (.seq (.ax [hF 4])
 (.ret))
 (.skip)))
 (.seq (.ax [jD 55 5,cF 56 55,aj 7 56])
 (.seq (.seq (.ax [jD 57 3,cF 58 57,jV 59 58 50])
 (.cond (.t 59)
 (.ax [⟨some 60,.kx 1 1 [(.int .i64 0)] [(0,1,(.c (.int .i64 8)))],none,[]⟩,fk 61 3,cF 62 61,iY 63 60 62 87,aj 7 63])
 (.skip)))
 (.seq (.ax [qC 64 3,cF 65 64,iN 66 65,aj 67 7,iN 68 67,DH 69 66 68,qC 70 5,cF 71 70,iN 72 71,DH 73 69 72,aj 8 73])
 (.seq (.seq (.ax [aj 74 8,iB 75 5,cF 76 75,kM 77 74 76,aj 78 77,iO 79 8 78,⟨some 80,.hI 3 (.t 5),(some (78,false)),[5,78]⟩,ob 81 80 78,⟨some 82,.bin (.int .gtr) (.t 79) (.t 81),(some (78,false)),[79,81,78]⟩,il 83 78 82])
 (.cond (.t 83)
 (.seq (.ax [hF 4])
 (.ret))
 (.skip)))
 (.seq (.seq (.ax [qC 84 3,cF 85 84,iN 86 85,ht 87 0])
 (.block 0 (.loop Q8)))
 (.seq (.ax [AV 4])
 (.ret)))))))))
theorem aaF:dJ 39 131 Tryz.f39 Q7 [.t 4]:=⟨Tryz.func39,by kernel_rfl⟩
def Rx:bL:=
 .seq (.ax [hF 4])
 (.seq (.seq (.ax [aj 5 0])
 (.block 0 (.seq (.ax [jV 7 5 1,aj 6 7])
 (.cond (.t 6)
 (.seq (.ax [aj 8 1,⟨some 9,.call 134 [(.c (.int .i64 3)),(.t 8)],none,[8]⟩,aj 4 9])
 (.ret))
 (.seq (.ax [jV 11 5 2,aj 10 11])
 (.cond (.t 10)
 (.seq (.ax [aj 12 1,⟨some 13,.call 134 [(.c (.int .i64 4)),(.t 12)],none,[12]⟩,aj 4 13])
 (.ret))
 (.seq (.ax [jV 15 5 3,aj 14 15])
 (.cond (.t 14)
 (.seq (.ax [aj 16 1,⟨some 17,.call 134 [(.c (.int .i64 5)),(.t 16)],none,[16]⟩,aj 4 17])
 (.ret))
 (.seq (.ax [jV 19 5 4,aj 18 19])
 (.cond (.t 18)
 (.seq (.ax [aj 20 1,lE 21 20,⟨some 22,.bin (.int .leq) (.t 21) (.c (.int .i64 4096)),none,[21]⟩,aj 4 22])
 (.ret))
 (.seq (.ax [jV 24 5 5,aj 23 24])
 (.cond (.t 23)
 (.seq (.ax [⟨some 25,.kx 8 1 [(.str [])] [(0,1,(.c (.str [43]))),(1,1,(.c (.str [45]))),(2,1,(.c (.str [42]))),(3,1,(.c (.str [47]))),(4,1,(.c (.str [109,111,100]))),(5,1,(.c (.str [61]))),(6,1,(.c (.str [60]))),(7,1,(.c (.str [60,61])))],none,[]⟩,aj 26 1,iY 27 25 26 135,aj 4 27])
 (.ret))
 (.skip)))))))))))))
 (.seq (.ax [aj 28 1,⟨some 29,.bin (.str .eql) (.t 28) (.c (.str [])),none,[28]⟩,aj 4 29])
 (.ret)))
theorem aa0:dJ 86 30 Tryz.f86 Rx [.t 4]:=⟨Tryz.func86,by kernel_rfl⟩
def Rz:bL:=
 .seq (.seq (.ax [aj 34 8,aj 35 7,iN 36 35,kM 37 34 36])
 (.cond (.t 37)
 (.skip)
 (.exit 0)))
 (.block 1 (.draw [aj 38 8,aj 39 7,aj 40 8,⟨some 41,.e6 1 (.t 39) (some (.t 40)) none none,none,[39,40]⟩,aj 42 7,aj 43 8,⟨some 44,.e6 1 (.t 42) none (some (.t 43)) none,none,[42,43]⟩,⟨some 45,.copy 1 (.t 41) (.t 44),none,[41,44]⟩,⟨some 46,.bin (.int .add) (.t 38) (.t 45),none,[38,45]⟩,aj 8 46] [] [] []))
def Ry:bL:=
 .seq (.ax [oc 4])
 (.seq (.seq (.ax [aj 9 1,HK 10 9 0])
 (.cond (.t 10)
 (.ax [⟨some 11,.si 9 (.c (.str [99,97,110,110,111,116,32,98,101,32,110,101,103,97,116,105,118,101])),none,[]⟩,⟨none,.cB (.t 11),none,[11]⟩])
 (.skip)))
 (.seq (.ax [aj 13 0,iN 14 13,⟨some 15,.j' (.int .u64) (.t 14),none,[14]⟩,aj 16 1,⟨some 17,.j' (.int .u64) (.t 16),none,[16]⟩,iY 18 15 17 136,aj 12 18,pC 19 12,pD 20 12,aj 5 19,aj 6 20])
 (.seq (.seq (.ax [aj 21 5,⟨some 22,.bin (.int .gtr) (.t 21) (.c (.int .u64 0)),none,[21]⟩,aj 23 22,iO 24 6 23,⟨some 25,.bin (.int .gtr) (.t 24) (.c (.int .u64 9223372036854775807)),(some (23,false)),[24,23]⟩,il 26 23 25])
 (.cond (.t 26)
 (.ax [⟨some 27,.si 9 (.c (.str [116,104,101,32,114,101,115,117,108,116,32,111,102,32,40,108,101,110,40,120,41,32,42,32,99,111,117,110,116,41,32,111,118,101,114,102,108,111,119,115])),none,[]⟩,⟨none,.cB (.t 27),none,[27]⟩])
 (.skip)))
 (.seq (.ax [aj 28 6,⟨some 29,.j' (.int .i64) (.t 28),none,[28]⟩,⟨some 30,.xV 1 [(.int .i64 0)] (.t 29) (.t 29),none,[29,29]⟩,aj 7 30])
 (.seq (.ax [aj 31 7,aj 32 0,⟨some 33,.copy 1 (.t 31) (.t 32),none,[31,32]⟩,aj 8 33])
 (.seq (.block 0 (.loop Rz))
 (.seq (.ax [aj 47 7,aj 4 47])
 (.ret))))))))
theorem aa1:dJ 87 48 Tryz.f87 Ry [.t 4]:=⟨Tryz.func87,by kernel_rfl⟩
def RA:bL:=
 .seq (.ax [oZ 2 0,hF 4])
 (.seq (.seq (.ax [aj 5 1])
 (.block 0 (.seq (.ax [jV 7 5 8,aj 6 7])
 (.cond (.t 6)
 (.seq (.ax [jD 8 2,cF 9 8,jV 10 9 1,aj 4 10])
 (.ret))
 (.seq (.ax [jV 12 5 9,aj 11 12])
 (.cond (.t 11)
 (.seq (.ax [jD 13 2,cF 14 13,jV 15 14 27,aj 4 15])
 (.ret))
 (.skip)))))))
 (.seq (.ax [jD 16 2,cF 17 16,c8 18 17 38,aj 19 1,⟨some 20,.bin (.int .eql) (.t 18) (.t 19),none,[18,19]⟩,aj 4 20])
 (.ret)))
theorem aa2:dJ 88 21 Tryz.f88 RA [.t 4]:=⟨Tryz.func88,by kernel_rfl⟩
def Qo:bL:=
 .seq (.ax [hF 4])
 (.seq (.seq (.ax [aj 7 1,lE 8 7,sP 9 8 64,aj 10 9,iO 11 1 10,⟨some 12,.bin (.str .eql) (.t 11) (.c (.str [])),(some (10,false)),[11,10]⟩,il 13 10 12])
 (.cond (.t 13)
 (.seq (.ax [hF 4])
 (.ret))
 (.skip)))
 (.seq (.seq (.ax [aj 14 0,jV 15 14 5])
 (.cond (.t 15)
 (.ax [aj 16 1,⟨some 17,.bin (.str .add) (.c (.str [39])) (.t 16),none,[16]⟩,aj 1 17])
 (.skip)))
 (.seq (.ax [aj 19 1,c8 20 19 13,aj 18 20,pC 21 18,pD 22 18,AW 6,aj 5 21,⟨none,.st 2 (.t 6) (.t 22),none,[6,22]⟩])
 (.seq (.ax [jD 23 6,cF 24 23,jV 25 24 0,aj 26 25,fC 27 5 26,⟨some 28,.len .slice (.t 27),(some (26,true)),[27,26]⟩,yO 29 28 26 1,hW 30 26 29,aj 31 30,fC 32 5 31,DP 33 32 31,uE 34 33 31,j8 35 34 31,fC 36 0 31,⟨some 37,.bin (.int .eql) (.t 35) (.t 36),(some (31,true)),[35,36,31]⟩,hW 38 31 37,aj 39 38,fC 40 5 39,DP 41 40 39,⟨some 42,.hI 2 (.t 41),(some (39,true)),[41,39]⟩,j8 43 42 39,yO 44 43 39 0,hW 45 39 44,aj 46 45,fC 47 5 46,DP 48 47 46,⟨some 49,.hI 3 (.t 48),(some (46,true)),[48,46]⟩,j8 50 49 46,DQ 51 50 46,⟨some 52,.bin (.int .gtr) (.t 51) (.c (.int .i64 0)),(some (46,true)),[51,46]⟩,hW 53 46 52,aj 54 53,fC 55 5 54,DP 56 55 54,⟨some 57,.iH 4 (.t 56),(some (54,true)),[56,54]⟩,fC 58 1 54,⟨some 59,.call 164 [(.t 57),(.t 58)],(some (54,true)),[57,58,54]⟩,hW 60 54 59,aj 4 60])
 (.ret)))))
theorem Z7:dJ 134 61 Tryz.f134 Qo [.t 4]:=⟨Tryz.func134,by kernel_rfl⟩
def QD:bL:=
 .seq (.ax [oZ 2 0,hF 4])
 (.seq (.seq (.ax [jD 5 2,cF 6 5,jV 7 6 5])
 (.cond (.t 7)
 (.seq (.ax [aj 8 1,pE 9 2,cF 10 9,⟨some 11,.bin (.str .add) (.c (.str [39])) (.t 10),none,[10]⟩,⟨some 12,.bin (.str .eql) (.t 8) (.t 11),none,[8,11]⟩,aj 4 12])
 (.ret))
 (.skip)))
 (.seq (.ax [aj 13 1,pE 14 2,cF 15 14,⟨some 16,.bin (.str .eql) (.t 13) (.t 15),none,[13,15]⟩,aj 4 16])
 (.ret)))
theorem aag:dJ 164 17 Tryz.f164 QD [.t 4]:=⟨Tryz.func164,by kernel_rfl⟩
structure iP where
 first:List Int:=[]
 rest:Int:=0
 least:Int:=0
 kW:Int:=0
 last:List Int:=[]
 aZ:Int:=0
 aG:Int:=0
 s:Int:=0
def iP.enc (r:iP):List D:=[.l 1 (r.first.map bf.pQ),.i .i64 r.rest,.i .i64 r.least,.i .i64 r.kW,.l 1 (r.last.map bf.pQ),.i .i64 r.aZ,.i .i64 r.aG,.i .i64 r.s]
def Di:List (Int × iP):=
 [(1,{s:=3}),(2,{s:=1,rest:=1,kW:=64}),(3,{first:=[1,1]}),(4,{first:=[1,1]}),
  (10,{}),(13,{}),(11,{s:=1}),(12,{aZ:=-1073741824,aG:=1073741823}),(14,{aG:=1}),(15,{first:=[2,2]}),(16,{s:=2,rest:=2,kW:=1}),
  (20,{aZ:=-1073741824,aG:=1073741823}),(21,{s:=4}),(22,{}),(23,{aG:=1}),(24,{s:=1}),(25,{s:=2,rest:=3,kW:=1}),(26,{first:=[3,3]}),(28,{first:=[3,3]}),(35,{first:=[3,3]}),(37,{first:=[3,3]}),
  (38,{s:=5,first:=[3,3]}),(34,{first:=[3]}),(36,{first:=[3]}),(39,{first:=[3]}),(31,{first:=[3,3,3]}),(27,{first:=[2,3]}),(29,{first:=[2,3,3]}),
  (30,{rest:=5,least:=1,kW:=1073741824,last:=[3]}),(32,{first:=[3],rest:=4,least:=1,kW:=1073741824}),(33,{first:=[3],rest:=4,least:=1,kW:=1073741824}),
  (45,{first:=[2,3]}),(46,{s:=1,first:=[9]}),(47,{s:=2,rest:=1,kW:=1}),(51,{s:=2,rest:=1,kW:=1}),(52,{first:=[2,3]}),(53,{rest:=5,least:=1,kW:=1073741824}),
  (50,{s:=1,aG:=64,rest:=6,least:=1,kW:=1073741824})]
def G2:List (Int × List D):=Di.map fun x=>(x.1,x.2.enc)
set_option maxRecDepth 100000 in
theorem amy:Gr ctx 100000 37 (fun aq v=>Gq aq 1000 G2 v)=true:=by kernel_rfl
theorem amx (h:ae):e9 Tryz.prog 37 [] h fun x ab=>Ext h ab/\pF (Pf h) ab G2 x:=
 abA (C:=ctx) follows rj Ad (by kernel_rfl) (by kernel_rfl) ⟨_,Tryz.func37,by kernel_rfl⟩ amy h
def w_ (k:Int):Int:=if 1<=k/\k<=4 then 1 else if 10<=k/\k<=16 then 2 else if 20<=k/\k<=39 then 3 else if k=45 then 4 else if k=46 then 5 else if k=47 then 6 else if 50<=k/\k<=53 then 7 else 0
theorem aiS {a b:Int} (h:a<=b):(a<=b)=True:=aqO h
theorem aiR {a b:Int} (h:b<a):(a<=b)=False:=aqx (by omega)
theorem adL {a b:Int} (h:b<=a):(a>=b)=True:=aqO h
theorem adK {a b:Int} (h:a<b):(a>=b)=False:=aqx (by omega)
theorem af_ {a b:Int} (h:a=b):(a=b)=True:=aqO h
theorem af' {a b:Int} (h:a<b\/b<a):(a=b)=False:=aqx (by omega)
theorem S5 (k:Int) (h:ae):e9 Tryz.prog 38 [.int .i64 k] h fun x ab=>x=.int .i64 (w_ k)/\ab=h:=by
 refine aaE.z rfl (dw ?_);unfold Q6 w_;have ax:k<1\/(1<=k/\k<=4)\/(5<=k/\k<=9)\/(10<=k/\k<=16)\/(17<=k/\k<=19)\/(20<=k/\k<=39)\/(40<=k/\k<=44)\/k=45\/k=46\/k=47\/(48<=k/\k<=49)\/(50<=k/\k<=53)\/54<=k:=by omega
 rcases ax with q | q | q | q | q | q | q | q | q | q | q | q | q<;>simp +contextual (disch:=omega) only [aiS,aiR,adL,adK,af_,af',and_true,and_false,arZ,asn,aqu,aqs,↓ag,ak,simprocAttr]<;>trivial
def xL (k g:Int):Bool:=if g=8 then decide (k=1) else if g=9 then decide (k=27) else decide (w_ k=g)
theorem agw (t:aR) (g:Int) (af:List V) (h:ae) (H:dX Any h t.enc af):e9 Tryz.prog 88 [.agg af,.int .i64 g] h fun x ab=>x=.bool (xL t.k g)/\Ext h ab:=by
 obtain ⟨bB,rfl,L,_⟩:=aR.open H;have ol:=L.one;refine aa2.z rfl (dw ?_);unfold RA xL;obtain ⟨U,an,aM,bA⟩:=gd h [.int .i64 t.k,.int .i64 t.n,.int .i64 t.a,.str t.s,bB];by_cases a:g=8
 . simp +contextual only [ol.1,ol.2.1,an,bA.g,aqO a,aqu,↓ag,ak,simprocAttr];exact aM
 . by_cases b:g=9
   . simp +contextual only [ol.1,ol.2.1,an,bA.g,aqx a,aqO b,aqu,aqs,↓ag,ak,simprocAttr];exact aM
   . simp +contextual only [ol.1,ol.2.1,an,bA.g,aqx a,aqx b,aqs,↓ag,ak,simprocAttr];refine cT (S5 t.k U) ?_;rintro x ad ⟨rfl,rfl⟩;simp +contextual only [↓ag,ak,simprocAttr];exact aM
end
section
open Go bf
def Ak (k:Int):List (Int × iP)->Option iP
 | []=>none
 | (n,r)::l=>if k=n then some r else Ak k l
def yp (k:Int):Option iP:=Ak k Di
theorem SN (k:Int):∀l:List (Int × iP),oM k (l.map fun x=>(x.1,x.2.enc))=(Ak k l).map iP.enc
 | []=>rfl
 | (n,r)::l=>by
   simp only [arE,oM,Ak]
   split
   . rfl
   . exact SN k l
theorem adf (k:Int):oM k G2=(yp k).map iP.enc:=SN k Di
def opsL:List (List UInt8):=[[43],[45],[42],[47],[109,111,100],[61],[60],[60,61]]
section
variable (named:Int->List UInt8->Bool)
def px (pf:Int) (s:List UInt8):Bool:=
 if pf=1 then named 3 s else if pf=2 then named 4 s else if pf=3 then named 5 s else if pf=4 then decide (s.length<=4096) else if pf=5 then opsL.contains s else decide (s=[])
def firstM (r:iP) (k n:Int):List Int:=if k=50 then List.replicate n.toNat 8 else r.first
def iX (r:iP) (k n:Int) (len:Nat):Int:=(len:Int) - (firstM r k n).length-r.last.length
def qV (r:iP) (k n:Int) (len:Nat):List Int:=firstM r k n++List.replicate (iX r k n len).toNat r.rest++r.last
def zq (r:iP) (k n a:Int) (s:List UInt8):Bool:=
 decide (r.aZ<=n)&&decide (n<=r.aG)&&decide (0<=a)&&decide (a<=65536)&&px named r.s s
def qf (r:iP) (k n:Int) (len:Nat):Bool:=decide (r.least<=iX r k n len)&&decide (iX r k n len<=r.kW)
mutual
def aR.may:aR->Bool
 | .mk k n a s l=>match yp k with
   | none=>false
   | some r=>zq named r k n a s&&qf r k n l.length&&oS (qV r k n l.length) l
def oS:List Int->List aR->Bool
 | _,[]=>true
 | [],_::_=>true
 | g::gs,t::l=>xL t.k g&&t.may&&oS gs l
end
end
theorem Wp {k:Int} {r:iP}:∀{l:List (Int × iP)},Ak k l=some r->(k,r) ∈ l
 | [],h=>by cases h
 | (n,q)::l,h=>by
   simp only [Ak] at h
   split at h
   . cases h;rename_i e;subst e;simp
   . exact aq2 _ (Wp h)
section
variable {named:Int->List UInt8->Bool}
end
end
section
open Go bf
theorem aR.aiu [Lay] {F:aN->Prop} {h:ae} {l:List aR} {v:V} (H:e1 F h 5 (l.map aR.enc) v) {k:IntKind} {i:Nat} (aG:i<l.length):
 ∃b off bB,kU 5 v (.int k i)=some (.ptr b (off+i * 5))/\dX F h l[i].enc [.int .i64 l[i].k,.int .i64 l[i].n,.int .i64 l[i].a,.str l[i].s,bB]/\e1 F h 5 (l[i].l.map aR.enc) bB/\
  (∀ab,Ext h ab->pk 5 (ab.get b) (off+i * 5)=some (.agg [.int .i64 l[i].k,.int .i64 l[i].n,.int .i64 l[i].a,.str l[i].s,bB]))/\
  (∀ab,Ext h ab->gW (ab.get b) (off+i * 5)=some (.int .i64 l[i].k))/\(∀ab,Ext h ab->gW (ab.get b) (off+i * 5+3)=some (.str l[i].s))/\(∀ab,Ext h ab->gW (ab.get b) (off+i * 5+4)=some bB):=by
 obtain ⟨b,off,u,aM,bh,cu,dA,eY⟩:=H.at (k:=k) (i:=i) (by rw [aqJ];exact aG);rw [arJ] at bh;obtain ⟨bB,rfl,L,_⟩:=aR.open bh;exact ⟨b,off,bB,aM,bh,L,dA,fun ab e=>by simpa using eY ab e 0 (by omega),fun ab e=>by simpa using eY ab e 3 (by omega),fun ab e=>by simpa using eY ab e 4 (by omega)⟩
theorem WH (k n a:Int) (t z:List UInt8) (h:ae) (aB:t.length<=100000):e9 Tryz.prog 164 [.agg [.int .i64 k,.int .i64 n,.int .i64 a,.str t],.str z] h fun x ab=>x=.bool (decide (z=(if k=5 then 39::t else t)))/\Ext h ab:=by
 refine aag.z rfl (dw ?_);unfold QD;obtain ⟨U,an,aM,bA⟩:=gd h [.int .i64 k,.int .i64 n,.int .i64 a,.str t];by_cases ar:k=5
 . have aD:(1+t.length<=17179869184)=True:=aqO (by omega);simp +contextual only [an,bA.g,aqO ar,aD,aqu,aqP,aq5,↓ag,ak,simprocAttr];exact aM
 . simp +contextual only [an,bA.g,aqx ar,aqs,↓ag,ak,simprocAttr];exact aM
theorem UJ:∀(f:Nat) (r:List UInt8) (p:Nat) (ws:List aK),ll f r p=.ok ws->∀w ∈ ws,w.kind=3\/w.kind=4\/w.kind=5->w.text.length<=64:=fun f r p ws h w hw ar=>by obtain ⟨_,g,_⟩:=L6 (CB f r p ws h w hw ar);exact g
theorem OF (k:Int) (ar:k=3\/k=4\/k=5) (s:List UInt8) (h:ae):e9 Tryz.prog 134 [.int .i64 k,.str s] h fun x ab=>x=.bool (fa k s)/\Ext h ab:=by
 rw [<-an9 ar];refine Z7.z rfl (dw ?_);unfold Qo;by_cases la:(64:Int) < (s.length:Int)
 . have hw:uv k s=false:=by unfold uv;rw [ary (show ¬s.length<=64 by omega)];simp
   simp +contextual only [aqO la,hw,↓ag,ak,simprocAttr];exact Ext.refl _
 by_cases Fg:s=[]
 . have hw:uv k s=false:=by unfold uv;rw [Fg];simp
   simp +contextual only [aqx la,aqO Fg,hw,↓ag,ak,simprocAttr];exact Ext.refl _
 have f64:=aqx la;have SU:=aqx Fg
 have hw:uv k s=(match hp (if k=5 then 39::s else s) with
  | .ok [w]=>decide (w.kind=k)&&decide (w.pos=0)&&decide (w.text≠[])&&decide ((if k=5 then 39::s else s)=(if w.kind=5 then 39::w.text else w.text))
  | _=>false):=by
  unfold uv;rw [arf (show s.length<=64 by omega),arf Fg];rfl
 rw [hw];clear hw;have afc:(1+s.length<=17179869184)=True:=aqO (by omega);generalize bK:(if k=5 then 39::s else s)=z;have bF:(k=5/\z=39::s)\/(¬k=5/\z=s):=by
  by_cases bF:k=5
  . exact .inl ⟨bF,by rw [<-bK,aqw bF]⟩
  . exact .inr ⟨bF,by rw [<-bK,aqr bF]⟩
 clear bK;rcases bF with ⟨bF,bK⟩ | ⟨bF,bK⟩
 . simp +contextual only [f64,SU,aqO bF,afc,aqP,aq5,↓ag,ak,simprocAttr];rw [<-bK];clear bK;refine cT (F3 z h) ?_;rintro x U ⟨aM,ay⟩;cases dU:hp z with
   | error e=>
     rw [dU] at ay;simp only at ay;subst ay;obtain ⟨ad,av,bh,g'⟩:=fw U [.int .i64 0,.int .i64 0] [.int .i64 e.1,.int .i64 e.2];by_cases he:e.1=0
     . simp +contextual only [av,g'.g,aqO he,↓ag,ak,simprocAttr];exact aM.trans bh
     . simp +contextual only [av,g'.g,aqx he,↓ag,ak,simprocAttr];exact aM.trans bh
   | ok ws=>
     rw [dU] at ay;simp only at ay;obtain ⟨v,rfl,S⟩:=ay;obtain ⟨ad,av,bh,g'⟩:=fw U [.int .i64 0,.int .i64 0] [.int .i64 0,.int .i64 0];have kN:=(S.ext bh).v;have aD:=kN.len;have bI:=kN.one
     match ws,dU,kN,aD with
     | [],_,kN,aD=>
       have gH:ju v=some (.int .i64 0):=aD;simp +contextual only [av,g'.g,gH,bI.1,bI.2.1,↓ag,ak,simprocAttr];exact aM.trans bh
     | [w],dU,kN,aD=>
       have gH:ju v=some (.int .i64 1):=aD;obtain ⟨ct,bb,xH,qH⟩:=kN.fy (k:=.i64) (i:=0) (by simp);have tC:kU 4 v (.int .i64 0)=some (.ptr ct bb):=by simpa using xH
       have d0:gW (ad.get ct) bb=some (.int .i64 w.kind):=by have:=qH.hc (i:=0) (by simp [hj,aK.enc]);simpa [hj,aK.enc] using this
       have d2:gW (ad.get ct) (bb+2)=some (.int .i64 w.pos):=by have:=qH.hc (i:=2) (by simp [hj,aK.enc]);simpa [hj,aK.enc] using this
       have d3:gW (ad.get ct) (bb+3)=some (.str w.text):=by have:=qH.hc (i:=3) (by simp [hj,aK.enc]);simpa [hj,aK.enc] using this
       have mu:pk 4 (ad.get ct) bb=some (.agg [.int .i64 w.kind,.int .i64 w.num,.int .i64 w.pos,.str w.text]):=by have:=qH.iH (i:=0) (n:=4) (by simp [hj,aK.enc]);simpa [hj,aK.enc] using this
       by_cases bS:w.kind=k
       . by_cases cJ:(w.pos:Int)=0
         . by_cases c3:w.text=[]
           . have qJ:((0:Int) < (w.text.length:Int))=False:=by rw [c3];simp
             simp +contextual only [av,g'.g,gH,bI.1,bI.2.1,tC,d0,d2,d3,mu,aqO bS,aqO cJ,qJ,↓ag,ak,simprocAttr];exact ⟨by rw [c3];simp,aM.trans bh⟩
           . have qJ:((0:Int) < (w.text.length:Int))=True:=aqO (by have:=ar2.2 c3;omega);have aB:w.text.length<=64:=by
              have hm:w.kind=3\/w.kind=4\/w.kind=5:=by rw [bS];exact ar
              unfold hp at dU
              split at dU
              . cases dU
              . split at dU
                . cases dU
                . exact UJ _ _ _ _ dU w (by simp) hm
             simp +contextual only [av,g'.g,gH,bI.1,bI.2.1,tC,d0,d2,d3,mu,aqO bS,aqO cJ,qJ,↓ag,ak,simprocAttr];refine cT (WH _ _ _ w.text z ad (by omega)) ?_;rintro x aC ⟨rfl,cu⟩;simp +contextual only [↓ag,ak,simprocAttr];refine ⟨?_,(aM.trans bh).trans cu⟩;have IS:w.pos=0:=by omega
             simp [bS,IS,c3]
         . simp +contextual only [av,g'.g,gH,bI.1,bI.2.1,tC,d0,d2,d3,mu,aqO bS,aqx cJ,↓ag,ak,simprocAttr]
           exact ⟨by have:¬w.pos=0:=by omega
                     simp [this],aM.trans bh⟩
       . simp +contextual only [av,g'.g,gH,bI.1,bI.2.1,tC,d0,d2,d3,mu,aqx bS,↓ag,ak,simprocAttr]
         first | exact aM.trans bh | exact ⟨by simp [bS],aM.trans bh⟩
     | w::bn::ws,_,kN,aD=>
       have gH:(((ws.length+2:Nat):Int)=1)=False:=aqx (by omega);have KC:ju v=some (.int .i64 ((ws.length+2:Nat):Int)):=aD;simp +contextual only [av,g'.g,KC,gH,bI.1,bI.2.1,↓ag,ak,simprocAttr];exact aM.trans bh
 . simp +contextual only [f64,SU,aqx bF,↓ag,ak,simprocAttr];rw [<-bK];clear bK;refine cT (F3 z h) ?_;rintro x U ⟨aM,ay⟩;cases dU:hp z with
   | error e=>
     rw [dU] at ay;simp only at ay;subst ay;obtain ⟨ad,av,bh,g'⟩:=fw U [.int .i64 0,.int .i64 0] [.int .i64 e.1,.int .i64 e.2];by_cases he:e.1=0
     . simp +contextual only [av,g'.g,aqO he,↓ag,ak,simprocAttr];exact aM.trans bh
     . simp +contextual only [av,g'.g,aqx he,↓ag,ak,simprocAttr];exact aM.trans bh
   | ok ws=>
     rw [dU] at ay;simp only at ay;obtain ⟨v,rfl,S⟩:=ay;obtain ⟨ad,av,bh,g'⟩:=fw U [.int .i64 0,.int .i64 0] [.int .i64 0,.int .i64 0];have kN:=(S.ext bh).v;have aD:=kN.len;have bI:=kN.one
     match ws,dU,kN,aD with
     | [],_,kN,aD=>
       have gH:ju v=some (.int .i64 0):=aD;simp +contextual only [av,g'.g,gH,bI.1,bI.2.1,↓ag,ak,simprocAttr];exact aM.trans bh
     | [w],dU,kN,aD=>
       have gH:ju v=some (.int .i64 1):=aD;obtain ⟨ct,bb,xH,qH⟩:=kN.fy (k:=.i64) (i:=0) (by simp);have tC:kU 4 v (.int .i64 0)=some (.ptr ct bb):=by simpa using xH
       have d0:gW (ad.get ct) bb=some (.int .i64 w.kind):=by have:=qH.hc (i:=0) (by simp [hj,aK.enc]);simpa [hj,aK.enc] using this
       have d2:gW (ad.get ct) (bb+2)=some (.int .i64 w.pos):=by have:=qH.hc (i:=2) (by simp [hj,aK.enc]);simpa [hj,aK.enc] using this
       have d3:gW (ad.get ct) (bb+3)=some (.str w.text):=by have:=qH.hc (i:=3) (by simp [hj,aK.enc]);simpa [hj,aK.enc] using this
       have mu:pk 4 (ad.get ct) bb=some (.agg [.int .i64 w.kind,.int .i64 w.num,.int .i64 w.pos,.str w.text]):=by have:=qH.iH (i:=0) (n:=4) (by simp [hj,aK.enc]);simpa [hj,aK.enc] using this
       by_cases bS:w.kind=k
       . by_cases cJ:(w.pos:Int)=0
         . by_cases c3:w.text=[]
           . have qJ:((0:Int) < (w.text.length:Int))=False:=by rw [c3];simp
             simp +contextual only [av,g'.g,gH,bI.1,bI.2.1,tC,d0,d2,d3,mu,aqO bS,aqO cJ,qJ,↓ag,ak,simprocAttr];exact ⟨by rw [c3];simp,aM.trans bh⟩
           . have qJ:((0:Int) < (w.text.length:Int))=True:=aqO (by have:=ar2.2 c3;omega);have aB:w.text.length<=64:=by
              have hm:w.kind=3\/w.kind=4\/w.kind=5:=by rw [bS];exact ar
              unfold hp at dU
              split at dU
              . cases dU
              . split at dU
                . cases dU
                . exact UJ _ _ _ _ dU w (by simp) hm
             simp +contextual only [av,g'.g,gH,bI.1,bI.2.1,tC,d0,d2,d3,mu,aqO bS,aqO cJ,qJ,↓ag,ak,simprocAttr];refine cT (WH _ _ _ w.text z ad (by omega)) ?_;rintro x aC ⟨rfl,cu⟩;simp +contextual only [↓ag,ak,simprocAttr];refine ⟨?_,(aM.trans bh).trans cu⟩;have IS:w.pos=0:=by omega
             simp [bS,IS,c3]
         . simp +contextual only [av,g'.g,gH,bI.1,bI.2.1,tC,d0,d2,d3,mu,aqO bS,aqx cJ,↓ag,ak,simprocAttr]
           exact ⟨by have:¬w.pos=0:=by omega
                     simp [this],aM.trans bh⟩
       . simp +contextual only [av,g'.g,gH,bI.1,bI.2.1,tC,d0,d2,d3,mu,aqx bS,↓ag,ak,simprocAttr]
         first | exact aM.trans bh | exact ⟨by simp [bS],aM.trans bh⟩
     | w::bn::ws,_,kN,aD=>
       have gH:(((ws.length+2:Nat):Int)=1)=False:=aqx (by omega);have KC:ju v=some (.int .i64 ((ws.length+2:Nat):Int)):=aD;simp +contextual only [av,g'.g,KC,gH,bI.1,bI.2.1,↓ag,ak,simprocAttr];exact aM.trans bh
end
end Go.Proofs.YtahfljfikfkpnaaGreatDoor
