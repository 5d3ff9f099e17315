/- The chapter's functions, walked by the abstract machine: plain lemmas, no condition. Printed by a program from longer texts: names made short. -/
import Derived.Test.YtjbiefneffiogaaGreatM8
set_option linter.unusedSectionVars false
set_option linter.unusedSimpArgs false
set_option linter.unusedVariables false
namespace Go.Proofs.YtjbiefneffiogaaGreat
open Go bA
def Ld:bE:=
 .seq (.ag [dM 2 0,dM 3 1,dV 4])
 (.seq (.ag [eQ 5 2,aE 6 5,eQ 7 3,aE 8 7,oA 9 6 8,ab 10 9,ly 11 2 10,cY 12 11 10,ly 13 3 10,cY 14 13 10,q' 15 12 14 10,cN 16 10 15,ab 17 16,l3 18 2 17,cY 19 18 17,l3 20 3 17,cY 21 20 17,q' 22 19 21 17,cN 23 17 22,ab 24 23,qd 25 2 24,cY 26 25 24,qd 27 3 24,cY 28 27 24,q' 29 26 28 24,cN 30 24 29,ab 31 30,mH 32 2 31,cY 33 32 31,mH 34 3 31,cY 35 34 31,⟨some 36,.call 17 [(.t 33),(.t 35)],(some (31,true)),[33,35,31]⟩,cN 37 31 36,ab 4 37])
 (.ret))
theorem Uj:cv 15 38 [.t 4] Ld:=cx Tryz.func15 (by kernel_rfl) (by kernel_rfl) rfl (by kernel_rfl) (by kernel_rfl)
def Lr:bE:=
 .seq (.ag [dV 4])
 (.seq (.ag [ab 5 0,⟨some 6,.jD .str (.t 5),none,[5]⟩,ab 7 1,⟨some 8,.jD .str (.t 7),none,[7]⟩,⟨some 9,.bin (.str .eql) (.t 6) (.t 8),none,[6,8]⟩,ab 4 9])
 (.ret))
theorem Up:cv 17 10 [.t 4] Lr:=cx Tryz.func17 (by kernel_rfl) (by kernel_rfl) rfl (by kernel_rfl) (by kernel_rfl)
def Lj:bE:=
 .seq (.ag [kB 2])
 (.seq (.ag [ab 3 0,⟨some 4,.build [(.int .i64 0),(.int .i64 0),(.str []),(.int .i64 0),(.int .i64 0),(.int .i64 0),(.str []),.ay,.ay,.ay,.ch,.ay,(.bool false)] [(0,1,(.c (.int .i64 1))),(1,1,(.t 3))],none,[3]⟩,dM 5 4,ab 2 5])
 (.ret))
theorem Ug:cv 154 6 [.t 2] Lj:=cx Tryz.func154 (by kernel_rfl) (by kernel_rfl) rfl (by kernel_rfl) (by kernel_rfl)
def KF:bE:=
 .seq (.ag [kB 4])
 (.seq (.ag [ab 5 0,ab 6 1,⟨some 7,.build [(.int .i64 0),(.int .i64 0),(.str []),(.int .i64 0),(.int .i64 0),(.int .i64 0),(.str []),.ay,.ay,.ay,.ch,.ay,(.bool false)] [(0,1,(.c (.int .i64 4))),(1,1,(.t 5)),(11,1,(.t 6))],none,[5,6]⟩,dM 8 7,ab 4 8])
 (.ret))
theorem TP:cv 112 9 [.t 4] KF:=cx Tryz.func112 (by kernel_rfl) (by kernel_rfl) rfl (by kernel_rfl) (by kernel_rfl)
def Lk:bE:=
 .seq (.ag [ey 2])
 (.seq (.ag [ab 3 0,⟨some 4,.bin (.int .rem) (.t 3) (.c (.int .i64 2147483648)),none,[3]⟩,ab 0 4])
 (.seq (.seq (.ag [ab 5 0,⟨some 6,.bin (.int .gtr) (.t 5) (.c (.int .i64 1073741823)),none,[5]⟩])
 (.cond (.t 6)
 (.ag [ab 7 0,⟨some 8,.bin (.int .sub) (.t 7) (.c (.int .i64 2147483648)),none,[7]⟩,ab 0 8])
 (.skip)))
 (.seq (.seq (.ag [ab 9 0,⟨some 10,.bin (.int .lss) (.t 9) (.c (.int .i64 (-1073741824))),none,[9]⟩])
 (.cond (.t 10)
 (.ag [ab 11 0,⟨some 12,.bin (.int .add) (.t 11) (.c (.int .i64 2147483648)),none,[11]⟩,ab 0 12])
 (.skip)))
 (.seq (.ag [ab 13 0,ab 2 13])
 (.ret)))))
theorem Uh:cv 156 14 [.t 2] Lk:=cx Tryz.func156 (by kernel_rfl) (by kernel_rfl) rfl (by kernel_rfl) (by kernel_rfl)
def Li:bE:=
 .seq (.seq (.ag [ab 5 0,bG 6 5,eQ 7 6,aE 8 7,ab 9 1,oy 10 8 9])
 (.cond (.t 10)
 (.skip)
 (.exit 0)))
 (.block 1 (.ag [ab 11 0,bG 12 11,e_ 13 12,aE 14 13,ab 0 14]))
def Lh:bE:=
 .seq (.ag [kB 4])
 (.seq (.block 0 (.loop Li))
 (.seq (.ag [ab 15 0,bG 16 15,cQ 17 16,aE 18 17,ab 4 18])
 (.ret)))
theorem Uf:cv 153 19 [.t 4] Lh:=cx Tryz.func153 (by kernel_rfl) (by kernel_rfl) rfl (by kernel_rfl) (by kernel_rfl)
def KB:bE:=
 .seq (.ag [dM 3 1,kB 4])
 (.seq (.seq (.ag [eQ 5 3,aE 6 5])
 (.block 0 (.seq (.ag [oB 8 6,ab 7 8])
 (.cond (.t 7)
 (.seq (.draw [ab 9 0,bG 10 9,px 11 10,aE 12 11,cQ 13 3,aE 14 13,⟨some 15,.call 153 [(.t 12),(.t 14)],none,[12,14]⟩,ab 4 15] [(3,[6]),(5,[6])])
 (.ret))
 (.seq (.ag [nK 17 6,ab 16 17])
 (.cond (.t 16)
 (.seq (.ag [cQ 18 3,aE 19 18,re 20 19,ab 4 20])
 (.ret))
 (.skip)))))))
 (.seq (.ag [e_ 21 3,aE 22 21,JC 23 22,dM 24 23,ab 4 24])
 (.ret)))
theorem TL:cv 109 25 [.t 4] KB:=cx Tryz.func109 (by kernel_rfl) (by kernel_rfl) rfl (by kernel_rfl) (by kernel_rfl)
def KG:bE:=
 .seq (.ag [ab 4 0,bG 5 4,kC 6 5,⟨none,.st 1 (.t 6) (.c (.bool true)),none,[6]⟩])
 (.ag [ab 7 0,ab 8 1,bG 9 7,e_ 10 9,eQ 11 10,⟨none,.st 1 (.t 11) (.t 8),none,[11,8]⟩])
theorem TQ:cv 113 12 [] KG:=cx Tryz.func113 (by kernel_rfl) (by kernel_rfl) rfl (by kernel_rfl) (by kernel_rfl)
def KD:bE:=
 .seq (.seq (.ag [ab 5 0,bG 6 5,cQ 7 6,aE 8 7,db 9 8,Bs 10 9])
 (.cond (.t 10)
 (.skip)
 (.exit 0)))
 (.block 1 (.seq (.draw [ab 11 0,bG 12 11,cQ 13 12,aE 14 13,ab 15 0,bG 16 15,cQ 17 16,aE 18 17,db 19 18,kb 20 19,BR 21 14 20,⟨some 22,.gl 8 (.t 21),none,[21]⟩,JD 4,⟨none,.st 8 (.t 4) (.t 22),none,[4,22]⟩] [(3,[13]),(7,[13]),(11,[13])])
 (.seq (.draw [ab 23 0,ab 24 0,bG 25 24,cQ 26 25,aE 27 26,ab 28 0,bG 29 28,cQ 30 29,aE 31 30,db 32 31,kb 33 32,⟨some 34,.g_ 8 (.t 27) none (some (.t 33)) none,none,[27,33]⟩,bG 35 23,cQ 36 35,⟨none,.st 1 (.t 36) (.t 34),none,[36,34]⟩] [(4,[14]),(8,[14])])
 (.seq (.ag [eQ 37 4,eQ 38 37,aE 39 38,nK 40 39])
 (.cond (.t 40)
 (.seq (.ag [ab 41 0,eQ 42 4,eu 43 42,aE 44 43,yI 45 44,cK 46 45,bG 47 41,kX 48 47,⟨none,.st 7 (.t 48) (.t 46),none,[48,46]⟩])
 (.seq (.ag [ab 49 0,eQ 50 4,cQ 51 50,aE 52 51,ab 53 1,kC 54 4,aE 55 54,w6 56 52 53 55,dM 57 56,bG 58 49,px 59 58,⟨none,.st 1 (.t 59) (.t 57),none,[59,57]⟩])
 (.ret)))
 (.skip))))))
def KC:bE:=
 .seq (.block 0 (.loop KD))
 (.ag [ab 60 0,⟨some 61,.call 113 [(.t 60),(.c (.int .i64 0))],none,[60]⟩])
theorem TN:cv 110 62 [] KC:=cx Tryz.func110 (by kernel_rfl) (by kernel_rfl) rfl (by kernel_rfl) (by kernel_rfl)
def KN:bE:=
 .seq (.seq (.ag [ab 5 0,bG 6 5,cQ 7 6,aE 8 7,db 9 8,Bs 10 9])
 (.cond (.t 10)
 (.skip)
 (.exit 0)))
 (.block 1 (.seq (.draw [ab 11 0,bG 12 11,cQ 13 12,aE 14 13,ab 15 0,bG 16 15,cQ 17 16,aE 18 17,db 19 18,kb 20 19,BR 21 14 20,⟨some 22,.gl 8 (.t 21),none,[21]⟩,JD 4,⟨none,.st 8 (.t 4) (.t 22),none,[4,22]⟩] [(3,[13]),(7,[13]),(11,[13])])
 (.seq (.draw [ab 23 0,ab 24 0,bG 25 24,cQ 26 25,aE 27 26,ab 28 0,bG 29 28,cQ 30 29,aE 31 30,db 32 31,kb 33 32,⟨some 34,.g_ 8 (.t 27) none (some (.t 33)) none,none,[27,33]⟩,bG 35 23,cQ 36 35,⟨none,.st 1 (.t 36) (.t 34),none,[36,34]⟩] [(4,[14]),(8,[14])])
 (.seq (.ag [eQ 37 4,eQ 38 37,aE 39 38,u6 40 39])
 (.cond (.t 40)
 (.seq (.ag [ab 41 0,eQ 42 4,eu 43 42,aE 44 43,yI 45 44,cK 46 45,bG 47 41,kX 48 47,⟨none,.st 7 (.t 48) (.t 46),none,[48,46]⟩])
 (.seq (.ag [ab 49 0,eQ 50 4,cQ 51 50,aE 52 51,ab 53 1,kC 54 4,aE 55 54,w6 56 52 53 55,dM 57 56,bG 58 49,px 59 58,⟨none,.st 1 (.t 59) (.t 57),none,[59,57]⟩])
 (.ret)))
 (.skip))))))
def KM:bE:=
 .seq (.block 0 (.loop KN))
 (.seq (.seq (.ag [ab 60 1,bG 61 60,eQ 62 61,aE 63 62,yO 64 63])
 (.cond (.t 64)
 (.seq (.ag [ab 65 0,xb 66 65])
 (.ret))
 (.skip)))
 (.seq (.ag [ab 67 0,⟨some 68,.call 113 [(.t 67),(.c (.int .i64 1))],none,[67]⟩])
 (.ag [ab 69 0,ab 70 1,bG 71 70,cQ 72 71,aE 73 72,bG 74 69,e_ 75 74,cQ 76 75,⟨none,.st 1 (.t 76) (.t 73),none,[76,73]⟩])))
theorem TU:cv 118 77 [] KM:=cx Tryz.func118 (by kernel_rfl) (by kernel_rfl) rfl (by kernel_rfl) (by kernel_rfl)
def qm:bE:=
 .seq (.ag [kB 6,dV 7])
 (.seq (.seq (.ag [ab 8 0])
 (.block 0 (.seq (.ag [⟨some 10,.bin (.str .eql) (.t 8) (.c (.str [97,100,100])),none,[8]⟩,ab 9 10])
 (.cond (.t 9)
 (.seq (.ag [ab 11 1,ab 12 2,oz 13 11 12,xc 14 13,re 15 14,ab 6 15,lz 7])
 (.ret))
 (.seq (.ag [⟨some 17,.bin (.str .eql) (.t 8) (.c (.str [115,117,98])),none,[8]⟩,ab 16 17])
 (.cond (.t 16)
 (.seq (.ag [ab 18 1,ab 19 2,⟨some 20,.bin (.int .sub) (.t 18) (.t 19),none,[18,19]⟩,xc 21 20,re 22 21,ab 6 22,lz 7])
 (.ret))
 (.seq (.ag [⟨some 24,.bin (.str .eql) (.t 8) (.c (.str [109,117,108])),none,[8]⟩,ab 23 24])
 (.cond (.t 23)
 (.seq (.ag [ab 25 1,ab 26 2,⟨some 27,.bin (.int .mul) (.t 25) (.t 26),none,[25,26]⟩,xc 28 27,re 29 28,ab 6 29,lz 7])
 (.ret))
 (.seq (.ag [⟨some 31,.bin (.str .eql) (.t 8) (.c (.str [101,113])),none,[8]⟩,ab 30 31])
 (.cond (.t 30)
 (.seq (.ag [ab 32 1,ab 33 2,oA 34 32 33,⟨some 35,.call 170 [(.t 34)],none,[34]⟩,ab 6 35,lz 7])
 (.ret))
 (.seq (.ag [⟨some 37,.bin (.str .eql) (.t 8) (.c (.str [108,116])),none,[8]⟩,ab 36 37])
 (.cond (.t 36)
 (.seq (.ag [ab 38 1,ab 39 2,fz 40 38 39,⟨some 41,.call 170 [(.t 40)],none,[40]⟩,ab 6 41,lz 7])
 (.ret))
 (.seq (.ag [⟨some 43,.bin (.str .eql) (.t 8) (.c (.str [108,101])),none,[8]⟩,ab 42 43])
 (.cond (.t 42)
 (.seq (.ag [ab 44 1,ab 45 2,⟨some 46,.bin (.int .leq) (.t 44) (.t 45),none,[44,45]⟩,⟨some 47,.call 170 [(.t 46)],none,[46]⟩,ab 6 47,lz 7])
 (.ret))
 (.skip)))))))))))))))
 (.seq (.seq (.ag [ab 48 2,y3 49 48])
 (.cond (.t 49)
 (.seq (.ag [kB 6,dV 7])
 (.ret))
 (.skip)))
 (.seq (.seq (.ag [ab 50 0,⟨some 51,.bin (.str .eql) (.t 50) (.c (.str [100,105,118])),none,[50]⟩])
 (.cond (.t 51)
 (.seq (.ag [ab 52 1,ab 53 2,⟨some 54,.bin (.int .quo) (.t 52) (.t 53),none,[52,53]⟩,xc 55 54,re 56 55,ab 6 56,lz 7])
 (.ret))
 (.skip)))
 (.seq (.ag [ab 57 1,ab 58 2,⟨some 59,.bin (.int .rem) (.t 57) (.t 58),none,[57,58]⟩,xc 60 59,re 61 60,ab 6 61,lz 7])
 (.ret)))))
theorem rp:cv 159 62 [.t 6,.t 7] qm:=cx Tryz.func159 (by kernel_rfl) (by kernel_rfl) rfl (by kernel_rfl) (by kernel_rfl)
def Ls:bE:=
 .seq (.ag [kB 2])
 (.seq (.seq (.ag [ab 3 0])
 (.cond (.t 3)
 (.seq (.ag [⟨some 4,.call 112 [(.c (.int .i64 1)),(.c .ay)],none,[]⟩,ab 2 4])
 (.ret))
 (.skip)))
 (.seq (.ag [BS 5,ab 2 5])
 (.ret)))
theorem Uo:cv 170 6 [.t 2] Ls:=cx Tryz.func170 (by kernel_rfl) (by kernel_rfl) rfl (by kernel_rfl) (by kernel_rfl)
def Ll:bE:=
 .seq (.ag [kB 2])
 (.seq (.ag [ab 3 0,JC 4 3,dM 5 4,ab 2 5])
 (.ret))
theorem Ui:cv 157 6 [.t 2] Ll:=cx Tryz.func157 (by kernel_rfl) (by kernel_rfl) rfl (by kernel_rfl) (by kernel_rfl)
def KE:bE:=
 .seq (.seq (.ag [ab 11 7,ab 12 2,db 13 12,fz 14 11 13])
 (.cond (.t 14)
 (.skip)
 (.exit 0)))
 (.seq (.block 1 (.ag [ab 17 6,ab 18 2,ab 19 7,h3 20 18 19,aE 21 20,bG 22 21,eQ 23 22,aE 24 23,oC 25 24,ie 26 17 25,ab 6 26]))
 (.ag [ab 15 7,e' 16 15,ab 7 16]))
def i':bE:=
 .seq (.ag [y1 10,ab 6 10])
 (.seq (.seq (.ag [ey 7])
 (.block 0 (.loop KE)))
 (.seq (.seq (.ag [ab 27 1,ab 28 6,⟨some 29,.call 155 [(.t 27),(.t 28)],none,[27,28]⟩,gu 30 29])
 (.cond (.t 30)
 (.seq (.ag [ab 31 0,xb 32 31])
 (.ret))
 (.skip)))
 (.seq (.ag [ab 33 1])
 (.block 2 (.seq (.ag [BF 60 33,ab 59 60])
 (.cond (.t 59)
 (.ag [ab 61 0,ab 62 2,fS 63 62,aE 64 63,bG 65 64,cQ 66 65,aE 67 66,⟨some 68,.un .neg (.t 67),none,[67]⟩,xc 69 68,re 70 69,l5 71 61 70])
 (.seq (.ag [BG 73 33,ab 72 73])
 (.cond (.t 72)
 (.seq (.seq (.draw [ab 74 0,bG 75 74,e_ 76 75,e_ 77 76,aE 78 77,ab 79 0,bG 80 79,eQ 81 80,aE 82 81,db 83 82,oA 84 78 83] [])
 (.cond (.t 84)
 (.seq (.ag [ab 85 0,⟨some 86,.call 154 [(.c (.int .i64 (-1)))],none,[]⟩,l5 87 85 86])
 (.ret))
 (.skip)))
 (.seq (.ag [ab 88 0,bG 89 88,e_ 90 89,e_ 91 90,aE 92 91,e' 93 92,bG 94 88,e_ 95 94,e_ 96 95,⟨none,.st 1 (.t 96) (.t 93),none,[96,93]⟩])
 (.draw [ab 97 0,ab 98 0,bG 99 98,eQ 100 99,aE 101 100,ab 102 0,bG 103 102,e_ 104 103,e_ 105 104,aE 106 105,kb 107 106,h3 108 101 107,aE 109 108,yN 110 109,re 111 110,l5 112 97 111] [(4,[14]),(9,[14]),(12,[14]),(13,[14])])))
 (.seq (.ag [BH 114 33,ab 113 114])
 (.cond (.t 113)
 (.seq (.draw [ab 115 0,ab 116 0,bG 117 116,e_ 118 117,jz 119 118,aE 120 119,ab 121 2,fS 122 121,aE 123 122,bG 124 123,cQ 125 124,aE 126 125,⟨some 127,.bin (.int .and) (.t 126) (.c (.int .i64 255)),none,[126]⟩,BO 128 127,BP 129 128,ie 130 120 129,bG 131 115,e_ 132 131,jz 133 132,⟨none,.st 1 (.t 133) (.t 130),none,[133,130]⟩] [(5,[15]),(8,[15]),(11,[15]),(13,[15])])
 (.ag [ab 134 0,BS 135,l5 136 134 135]))
 (.seq (.ag [BI 138 33,ab 137 138])
 (.cond (.t 137)
 (.seq (.draw [ab 139 0,ab 140 0,bG 141 140,e_ 142 141,jz 143 142,aE 144 143,ab 145 2,fS 146 145,aE 147 146,bG 148 147,e_ 149 148,aE 150 149,ie 151 144 150,bG 152 139,e_ 153 152,jz 154 153,⟨none,.st 1 (.t 154) (.t 151),none,[154,151]⟩] [(5,[12]),(8,[12]),(11,[12])])
 (.ag [ab 155 0,BS 156,l5 157 155 156]))
 (.seq (.ag [BJ 159 33,ab 158 159])
 (.cond (.t 158)
 (.ag [ab 160 0,ab 161 2,fS 162 161,aE 163 162,bG 164 163,e_ 165 164,aE 166 165,w4 167 166,re 168 167,l5 169 160 168])
 (.seq (.ag [BK 171 33,ab 170 171])
 (.cond (.t 170)
 (.ag [ab 172 0,ab 173 2,fS 174 173,aE 175 174,bG 176 175,cQ 177 176,aE 178 177,⟨some 179,.bin (.int .and) (.t 178) (.c (.int .i64 255)),none,[178]⟩,BO 180 179,BP 181 180,⟨some 182,.jD .str (.t 181),none,[181]⟩,⟨some 183,.call 157 [(.t 182)],none,[182]⟩,l5 184 172 183])
 (.seq (.seq (.ag [yK 186 33,ab 185 186])
 (.cond (.t 185)
 (.skip)
 (.seq (.ag [yM 187 33,ab 185 187])
 (.cond (.t 185)
 (.skip)
 (.ag [yL 188 33,ab 185 188])))))
 (.cond (.t 185)
 (.ag [ab 189 0,ab 190 1,ab 191 2,⟨some 192,.call 158 [(.t 189),(.t 190),(.t 191)],none,[189,190,191]⟩])
 (.seq (.ag [ER 194 33,ab 193 194])
 (.cond (.t 193)
 (.seq (.seq (.ag [ab 195 2,fS 196 195,aE 197 196,bG 198 197,cQ 199 198,aE 200 199,wX 201 200,ab 202 201,fJ 203 2 202,w9 204 203 202,f' 205 204 202,ra 206 205 202,⟨some 207,.c2 11 (.t 206),(some (202,false)),[206,202]⟩,f' 208 207 202,lx 209 208 202,⟨some 210,.bin (.int .neq) (.t 209) (.c (.int .i64 1)),(some (202,false)),[209,202]⟩,fI 211 202 210])
 (.cond (.t 211)
 (.seq (.ag [ab 212 0,xb 213 212])
 (.ret))
 (.skip)))
 (.seq (.draw [ab 214 2,fS 215 214,aE 216 215,bG 217 216,yS 218 217,aE 219 218,ab 220 2,l4 221 220,aE 222 221,fS 223 219,⟨none,.st 1 (.t 223) (.t 222),none,[223,222]⟩] [(2,[10]),(5,[10]),(8,[10])])
 (.ag [ab 224 0,BS 225,l5 226 224 225])))
 (.seq (.draw [ab 35 1,ab 36 2,fS 37 36,aE 38 37,bG 39 38,cQ 40 39,aE 41 40,ab 42 2,l4 43 42,aE 44 43,bG 45 44,cQ 46 45,aE 47 46,⟨some 48,.call 159 [(.t 35),(.t 41),(.t 47)],none,[35,41,47]⟩,ab 34 48,tB 49 34,tC 50 34,ab 8 49,ab 9 50] [(3,[13]),(6,[13]),(9,[13]),(12,[13])])
 (.seq (.seq (.ag [ab 51 9,gu 52 51])
 (.cond (.t 52)
 (.seq (.ag [ab 53 0,⟨some 54,.call 112 [(.c (.int .i64 1)),(.c .ay)],none,[]⟩,⟨some 55,.call 118 [(.t 53),(.t 54)],none,[53,54]⟩])
 (.ret))
 (.skip)))
 (.ag [ab 56 0,ab 57 8,l5 58 56 57])))))))))))))))))))))))
theorem lB:cv 111 227 [] i':=cx Tryz.func111 (by kernel_rfl) (by kernel_rfl) rfl (by kernel_rfl) (by kernel_rfl)
def B_:bE:=
 .seq (.ag [ab 7 2,fS 8 7,aE 9 8,bG 10 9,e_ 11 10,aE 12 11,ab 6 12])
 (.block 0 (.seq (.ag [ab 17 1,yL 18 17,ab 19 18,dH 20 6 19,w3 21 20 19,dH 22 2 19,si 23 22 19,cY 24 23 19,sh 25 24 19,l3 26 25 19,cY 27 26 19,w3 28 27 19,⟨some 29,.bin (.int .add) (.t 21) (.t 28),(some (19,true)),[21,28,19]⟩,EF 30 29 19,cN 31 19 30,ab 16 31])
 (.cond (.t 16)
 (.ag [ab 32 0,ab 33 6,ab 34 2,l4 35 34,aE 36 35,bG 37 36,e_ 38 37,aE 39 38,⟨some 40,.bin (.str .add) (.t 33) (.t 39),none,[33,39]⟩,⟨some 41,.call 157 [(.t 40)],none,[40]⟩,l5 42 32 41])
 (.seq (.ag [ab 44 1,yK 45 44,ab 46 45,dH 47 2 46,si 48 47 46,cY 49 48 46,sh 50 49 46,ly 51 50 46,cY 52 51 46,BE 53 52 46,cN 54 46 53,ab 55 54,dH 56 2 55,si 57 56 55,cY 58 57 55,sh 59 58 55,ly 60 59 55,cY 61 60 55,dH 62 6 55,w3 63 62 55,BB 64 61 63 55,cN 65 55 64,ab 43 65])
 (.cond (.t 43)
 (.ag [ab 66 0,ab 67 6,ab 68 2,l4 69 68,aE 70 69,bG 71 70,cQ 72 71,aE 73 72,⟨some 74,.ux (.t 67) (.t 73),none,[67,73]⟩,yN 75 74,re 76 75,l5 77 66 76])
 (.seq (.draw [ab 79 1,yM 80 79,ab 81 80,dH 82 2 81,si 83 82 81,cY 84 83 81,sh 85 84 81,ly 86 85 81,cY 87 86 81,BE 88 87 81,cN 89 81 88,ab 90 89,dH 91 2 90,EX 92 91 90,cY 93 92 90,sh 94 93 90,ly 95 94 90,cY 96 95 90,BE 97 96 90,cN 98 90 97,ab 99 98,dH 100 2 99,si 101 100 99,cY 102 101 99,sh 103 102 99,ly 104 103 99,cY 105 104 99,dH 106 2 99,EX 107 106 99,cY 108 107 99,sh 109 108 99,ly 110 109 99,cY 111 110 99,⟨some 112,.bin (.int .add) (.t 105) (.t 111),(some (99,true)),[105,111,99]⟩,dH 113 6 99,w3 114 113 99,EC 115 112 114 99,cN 116 99 115,ab 78 116] [])
 (.cond (.t 78)
 (.draw [ab 117 0,ab 118 6,ab 119 2,l4 120 119,aE 121 120,bG 122 121,cQ 123 122,aE 124 123,ab 125 2,l4 126 125,aE 127 126,bG 128 127,cQ 129 128,aE 130 129,ab 131 2,⟨some 132,.b_ 1 (.t 131) (.c (.int .i64 2)),none,[131]⟩,aE 133 132,bG 134 133,cQ 135 134,aE 136 135,oz 137 130 136,⟨some 138,.uR (.t 118) (some (.t 124)) (some (.t 137)) none,none,[118,124,137]⟩,⟨some 139,.call 157 [(.t 138)],none,[138]⟩,l5 140 117 139] [(4,[22]),(7,[22]),(10,[22]),(13,[22]),(16,[22]),(19,[22])])
 (.ag [ab 13 0,⟨some 14,.call 112 [(.c (.int .i64 2)),(.c .ay)],none,[]⟩,⟨some 15,.call 118 [(.t 13),(.t 14)],none,[13,14]⟩]))))))))
theorem Fu:cv 158 141 [] B_:=cx Tryz.func158 (by kernel_rfl) (by kernel_rfl) rfl (by kernel_rfl) (by kernel_rfl)
def k1:bE:=
 .seq (.ag [dV 4])
 (.seq (.seq (.ag [ab 5 0])
 (.block 0 (.seq (.ag [BG 7 5,ab 6 7])
 (.cond (.t 6)
 (.seq (.ag [lz 4])
 (.ret))
 (.seq (.seq (.ag [BF 9 5,ab 8 9])
 (.cond (.t 8)
 (.skip)
 (.seq (.ag [BH 10 5,ab 8 10])
 (.cond (.t 8)
 (.skip)
 (.ag [BK 11 5,ab 8 11])))))
 (.cond (.t 8)
 (.seq (.ag [ab 12 1,fS 13 12,aE 14 13,oB 15 14,ab 4 15])
 (.ret))
 (.seq (.seq (.ag [BI 17 5,ab 16 17])
 (.cond (.t 16)
 (.skip)
 (.ag [BJ 18 5,ab 16 18])))
 (.cond (.t 16)
 (.seq (.ag [ab 19 1,fS 20 19,aE 21 20,nK 22 21,ab 4 22])
 (.ret))
 (.seq (.ag [yK 24 5,ab 23 24])
 (.cond (.t 23)
 (.seq (.ag [ab 25 1,fS 26 25,aE 27 26,nK 28 27,ab 29 28,dH 30 1 29,si 31 30 29,cY 32 31 29,yJ 33 32 29,cN 34 29 33,ab 4 34])
 (.ret))
 (.seq (.ag [yM 36 5,ab 35 36])
 (.cond (.t 35)
 (.seq (.ag [ab 37 1,fS 38 37,aE 39 38,nK 40 39,ab 41 40,dH 42 1 41,si 43 42 41,cY 44 43 41,yJ 45 44 41,cN 46 41 45,ab 47 46,dH 48 1 47,EX 49 48 47,cY 50 49 47,yJ 51 50 47,cN 52 47 51,ab 4 52])
 (.ret))
 (.seq (.ag [yL 54 5,ab 53 54])
 (.cond (.t 53)
 (.seq (.ag [ab 55 1,fS 56 55,aE 57 56,nK 58 57,ab 59 58,dH 60 1 59,si 61 60 59,cY 62 61 59,Bx 63 62 59,cN 64 59 63,ab 4 64])
 (.ret))
 (.seq (.ag [ER 66 5,ab 65 66])
 (.cond (.t 65)
 (.seq (.ag [ab 67 1,fS 68 67,aE 69 68,BD 70 69,ab 4 70])
 (.ret))
 (.skip)))))))))))))))))
 (.seq (.ag [ab 71 1,fS 72 71,aE 73 72,oB 74 73,ab 75 74,dH 76 1 75,si 77 76 75,cY 78 77 75,yJ 79 78 75,cN 80 75 79,ab 4 80])
 (.ret)))
theorem lC:cv 155 81 [.t 4] k1:=cx Tryz.func155 (by kernel_rfl) (by kernel_rfl) rfl (by kernel_rfl) (by kernel_rfl)
def Fq:bE:=
 .seq (.ag [dM 4 1])
 (.seq (.ag [⟨some 6,.gQ (.c (.int .i64 4)),none,[]⟩])
 (.seq (.seq (.ag [eQ 8 4,aE 9 8,y2 10 9])
 (.cond (.t 10)
 (.ag [yW 6])
 (.skip)))
 (.seq (.draw [pw 11 4,aE 12 11,ab 13 2,bG 14 13,cQ 15 14,aE 16 15,⟨some 17,.call 76 [(.t 12),(.t 16)],none,[12,16]⟩,ab 7 17] [(1,[6]),(5,[6])])
 (.seq (.seq (.ag [ab 18 7,EU 19 18])
 (.cond (.t 19)
 (.ag [pw 20 4,aE 21 20,db 22 21,ab 7 22])
 (.skip)))
 (.seq (.seq (.ag [ab 23 2,bG 24 23,eQ 25 24,aE 26 25,ab 27 6,oy 28 26 27,ab 29 28,fJ 30 7 29,u4 31 4 29,f' 32 31 29,lx 33 32 29,yR 34 30 33 29,fI 35 29 34])
 (.cond (.t 35)
 (.seq (.ag [ab 36 0,xb 37 36])
 (.ret))
 (.skip)))
 (.ag [ab 38 0,eu 39 4,aE 40 39,ab 41 7,iT 42 40 41,cK 43 42,bG 44 38,kX 45 44,⟨none,.st 7 (.t 45) (.t 43),none,[45,43]⟩]))))))
theorem KL:cv 117 46 [] Fq:=cx Tryz.func117 (by kernel_rfl) (by kernel_rfl) rfl (by kernel_rfl) (by kernel_rfl)
def KJ:bE:=
 .seq (.seq (.ag [ab 8 5,eu 9 3,aE 10 9,db 11 10,kb 12 11,fz 13 8 12])
 (.cond (.t 13)
 (.skip)
 (.exit 0)))
 (.seq (.block 1 (.seq (.draw [eu 16 3,aE 17 16,ab 18 5,iT 19 17 18,cQ 20 19,aE 21 20,eu 22 3,aE 23 22,ab 24 5,iT 25 23 24,eu 26 25,aE 27 26,tD 28 27,cK 29 28,⟨some 30,.build [(.int .i64 0),(.int .i64 0),(.str []),(.int .i64 0),(.int .i64 0),(.int .i64 0),(.str []),.ay,.ay,.ay,.ch,.ay,(.bool false)] [(0,1,(.c (.int .i64 3))),(1,1,(.t 21)),(3,7,(.t 29))],none,[21,29]⟩,dM 31 30,ab 6 31] [(1,[17]),(5,[17]),(7,[17]),(11,[17]),(13,[17])])
 (.seq (.ag [ab 32 4,ab 33 6,w_ 34 33,ie 35 32 34,ab 4 35])
 (.draw [ab 36 0,eu 37 3,aE 38 37,ab 39 5,iT 40 38 39,e_ 41 40,aE 42 41,ab 43 6,ab 44 0,bG 45 44,px 46 45,aE 47 46,w6 48 42 43 47,dM 49 48,bG 50 36,px 51 50,⟨none,.st 1 (.t 51) (.t 49),none,[51,49]⟩] [(2,[16]),(6,[16]),(11,[16])]))))
 (.ag [ab 14 5,e' 15 14,ab 5 15]))
def KK:bE:=
 .seq (.seq (.ag [ab 52 7,ab 53 4,db 54 53,fz 55 52 54])
 (.cond (.t 55)
 (.skip)
 (.exit 2)))
 (.seq (.block 3 (.draw [ab 58 4,ab 59 7,h3 60 58 59,aE 61 60,ab 62 0,bG 63 62,px 64 63,aE 65 64,bG 66 61,⟨some 67,.c2 10 (.t 66),none,[66]⟩,⟨none,.st 1 (.t 67) (.t 65),none,[67,65]⟩] [(3,[10]),(7,[10])]))
 (.ag [ab 56 7,e' 57 56,ab 7 57]))
def KI:bE:=
 .seq (.ag [dM 3 1])
 (.seq (.ag [jy 4])
 (.seq (.seq (.ag [ey 5])
 (.block 0 (.loop KJ)))
 (.seq (.seq (.ag [ey 7])
 (.block 2 (.loop KK)))
 (.ag [ab 68 0,eu 69 3,aE 70 69,eu 71 3,aE 72 71,db 73 72,kb 74 73,iT 75 70 74,cK 76 75,bG 77 68,kX 78 77,⟨none,.st 7 (.t 78) (.t 76),none,[78,76]⟩]))))
theorem TT:cv 115 79 [] KI:=cx Tryz.func115 (by kernel_rfl) (by kernel_rfl) rfl (by kernel_rfl) (by kernel_rfl)
def TS:bE:=
 .seq (.seq (.ag [ab 53 6,ab 54 1,bG 55 54,yS 56 55,aE 57 56,db 58 57,fz 59 53 58])
 (.cond (.t 59)
 (.skip)
 (.exit 0)))
 (.seq (.block 1 (.draw [ab 62 0,ab 63 6,EI 64 63,ab 65 1,bG 66 65,yS 67 66,aE 68 67,ab 69 6,h3 70 68 69,aE 71 70,ab 72 0,bG 73 72,px 74 73,aE 75 74,w6 76 64 71 75,dM 77 76,bG 78 62,px 79 78,⟨none,.st 1 (.t 79) (.t 77),none,[79,77]⟩] [(6,[18]),(9,[18]),(13,[18])]))
 (.ag [ab 60 6,e' 61 60,ab 6 61]))
def KH:bE:=
 .seq (.seq (.ag [ab 7 1,bG 8 7,⟨some 9,.c2 12 (.t 8),none,[8]⟩,aE 10 9,gu 11 10])
 (.cond (.t 11)
 (.seq (.ag [ab 12 0,ab 13 1,bG 14 13,ng 15 14,cK 16 15,bG 17 12,kX 18 17,⟨none,.st 7 (.t 18) (.t 16),none,[18,16]⟩])
 (.seq (.draw [ab 19 0,ab 20 1,bG 21 20,cQ 22 21,aE 23 22,ab 24 2,ab 25 1,bG 26 25,⟨some 27,.c2 10 (.t 26),none,[26]⟩,aE 28 27,w6 29 23 24 28,dM 30 29,bG 31 19,px 32 31,⟨none,.st 1 (.t 32) (.t 30),none,[32,30]⟩] [(4,[14]),(9,[14])])
 (.ret)))
 (.skip)))
 (.seq (.draw [ab 33 0,ab 34 0,bG 35 34,⟨some 36,.c2 16 (.t 35),none,[35]⟩,aE 37 36,ab 38 1,bG 39 38,cQ 40 39,aE 41 40,BR 42 37 41,cQ 43 42,cK 44 43,bG 45 33,kX 46 45,⟨none,.st 7 (.t 46) (.t 44),none,[46,44]⟩] [(4,[14]),(8,[14]),(11,[14])])
 (.seq (.ag [ab 47 0,ab 48 2,⟨some 49,.build [(.int .i64 0),.ch,.ch] [(0,1,(.c (.int .i64 0))),(1,1,(.t 48))],none,[48]⟩,dM 50 49,bG 51 47,px 52 51,⟨none,.st 1 (.t 52) (.t 50),none,[52,50]⟩])
 (.seq (.ag [ey 6])
 (.block 0 (.loop TS)))))
theorem TR:cv 114 80 [] KH:=cx Tryz.func114 (by kernel_rfl) (by kernel_rfl) rfl (by kernel_rfl) (by kernel_rfl)
def L9:bE:=
 .seq (.seq (.ag [ab 10 4,jz 11 2,aE 12 11,db 13 12,fz 14 10 13])
 (.cond (.t 14)
 (.skip)
 (.exit 0)))
 (.seq (.block 1 (.seq (.ag [ab 17 0,jz 18 2,aE 19 18,ab 20 4,q9 21 19 20,kW 22 21,⟨some 23,.call 109 [(.t 17),(.t 22)],none,[17,22]⟩,ab 5 23])
 (.ag [ab 24 3,ab 25 5,w_ 26 25,ie 27 24 26,ab 3 27])))
 (.ag [ab 15 4,e' 16 15,ab 4 16]))
def L8:bE:=
 .seq (.ag [ab 6 0,bG 7 6,kX 8 7,cK 9 8,nf 2,⟨none,.st 7 (.t 2) (.t 9),none,[2,9]⟩])
 (.seq (.ag [jy 3])
 (.seq (.seq (.ag [ey 4])
 (.block 0 (.loop L9)))
 (.seq (.ag [eQ 28 2,aE 29 28])
 (.block 2 (.seq (.ag [oB 31 29,ab 30 31])
 (.cond (.t 30)
 (.ag [ab 32 0,ab 33 3,fS 34 33,aE 35 34,l5 36 32 35])
 (.seq (.seq (.ag [nK 38 29,ab 37 38])
 (.cond (.t 37)
 (.skip)
 (.ag [u6 39 29,ab 37 39])))
 (.cond (.t 37)
 (.seq (.draw [ab 40 0,ab 41 0,bG 42 41,cQ 43 42,aE 44 43,cK 45 2,ab 46 0,bG 47 46,px 48 47,aE 49 48,⟨some 50,.build [(.int .i64 0),(.int .i64 0),(.int .i64 0),(.str []),.ay,.ay,.ay,.ch] [(0,7,(.t 45)),(7,1,(.t 49))],none,[45,49]⟩,⟨some 51,.h5 1 8 [(.int .i64 0),(.int .i64 0),(.int .i64 0),(.str []),.ay,.ay,.ay,.ch] [(0,8,(.t 50))],none,[50]⟩,⟨some 52,.app 8 (.t 44) (.t 51),none,[44,51]⟩,bG 53 40,cQ 54 53,⟨none,.st 1 (.t 54) (.t 52),none,[54,52]⟩] [(4,[12]),(5,[12]),(9,[12])])
 (.ag [ab 55 0,eu 56 2,aE 57 56,tD 58 57,cK 59 58,bG 60 55,kX 61 60,⟨none,.st 7 (.t 61) (.t 59),none,[61,59]⟩]))
 (.seq (.ag [wZ 63 29,ab 62 63])
 (.cond (.t 62)
 (.ag [ab 64 0,ng 65 2,aE 66 65,ab 67 3,⟨some 68,.call 111 [(.t 64),(.t 66),(.t 67)],none,[64,66,67]⟩])
 (.seq (.ag [BD 70 29,ab 69 70])
 (.cond (.t 69)
 (.ag [ab 71 0,e_ 72 2,aE 73 72,ab 74 3,⟨some 75,.call 112 [(.t 73),(.t 74)],none,[73,74]⟩,l5 76 71 75])
 (.seq (.ag [Bw 78 29,ab 77 78])
 (.cond (.t 77)
 (.seq (.seq (.draw [ab 79 3,fS 80 79,aE 81 80,bG 82 81,eQ 83 82,aE 84 83,yO 85 84,ab 86 85,se 87 2 86,f' 88 87 86,fJ 89 3 86,w9 90 89 86,f' 91 90 86,ra 92 91 86,⟨some 93,.c2 11 (.t 92),(some (86,false)),[92,86]⟩,f' 94 93 86,lx 95 94 86,yR 96 88 95 86,fI 97 86 96] [])
 (.cond (.t 97)
 (.seq (.ag [ab 98 0,xb 99 98])
 (.ret))
 (.skip)))
 (.draw [ab 100 0,ab 101 3,fS 102 101,aE 103 102,bG 104 103,yS 105 104,aE 106 105,e_ 107 2,aE 108 107,h3 109 106 108,aE 110 109,l5 111 100 110] [(3,[11]),(6,[11]),(8,[11]),(10,[11])]))
 (.seq (.ag [EO 113 29,ab 112 113])
 (.cond (.t 112)
 (.seq (.seq (.ag [ab 114 3,fS 115 114,aE 116 115,bG 117 116,eQ 118 117,aE 119 118,⟨some 120,.bin (.int .neq) (.t 119) (.c (.int .i64 3)),none,[119]⟩])
 (.cond (.t 120)
 (.seq (.ag [ab 121 0,xb 122 121])
 (.ret))
 (.skip)))
 (.draw [ab 123 0,ab 124 3,fS 125 124,aE 126 125,ab 127 3,l4 128 127,aE 129 128,⟨some 130,.call 114 [(.t 123),(.t 126),(.t 129)],none,[123,126,129]⟩] [(3,[7]),(6,[7])]))
 (.seq (.ag [w0 132 29,ab 131 132])
 (.cond (.t 131)
 (.draw [ab 133 0,cQ 134 2,aE 135 134,eu 136 2,aE 137 136,tD 138 137,cK 139 138,ab 140 0,bG 141 140,px 142 141,aE 143 142,⟨some 144,.build [(.int .i64 0),(.int .i64 0),(.str []),(.int .i64 0),(.int .i64 0),(.int .i64 0),(.str []),.ay,.ay,.ay,.ch,.ay,(.bool false)] [(0,1,(.c (.int .i64 3))),(1,1,(.t 135)),(3,7,(.t 139)),(10,1,(.t 143))],none,[135,139,143]⟩,dM 145 144,l5 146 133 145] [(2,[13]),(4,[13]),(6,[13]),(10,[13])])
 (.seq (.ag [w1 148 29,ab 147 148])
 (.cond (.t 147)
 (.ag [ab 149 0,cK 150 2,⟨some 151,.call 115 [(.t 149),(.t 150)],none,[149,150]⟩])
 (.seq (.ag [⟨some 153,.bin (.int .eql) (.t 29) (.c (.int .i64 13)),none,[29]⟩,ab 152 153])
 (.cond (.t 152)
 (.ag [ab 154 0,e_ 155 2,aE 156 155,ab 157 3,⟨some 158,.build [(.int .i64 0),(.int .i64 0),(.str []),(.int .i64 0),(.int .i64 0),(.int .i64 0),(.str []),.ay,.ay,.ay,.ch,.ay,(.bool false)] [(0,1,(.c (.int .i64 3))),(1,1,(.t 156)),(11,1,(.t 157)),(12,1,(.c (.bool true)))],none,[156,157]⟩,dM 159 158,l5 160 154 159])
 (.seq (.ag [Ex 162 29,ab 161 162])
 (.cond (.t 161)
 (.ag [ab 163 0,cK 164 2,ab 165 3,⟨some 166,.call 116 [(.t 163),(.t 164),(.t 165)],none,[163,164,165]⟩])
 (.seq (.seq (.ag [EP 168 29,ab 167 168])
 (.cond (.t 167)
 (.skip)
 (.ag [y2 169 29,ab 167 169])))
 (.cond (.t 167)
 (.draw [ab 170 0,cK 171 2,ab 172 3,fS 173 172,aE 174 173,⟨some 175,.call 117 [(.t 170),(.t 171),(.t 174)],none,[170,171,174]⟩] [(1,[5]),(4,[5])])
 (.seq (.ag [EM 177 29,ab 176 177])
 (.cond (.t 176)
 (.ag [ab 178 0,ab 179 3,fS 180 179,aE 181 180,⟨some 182,.call 118 [(.t 178),(.t 181)],none,[178,181]⟩])
 (.skip)))))))))))))))))))))))))))))
theorem UN:cv 60 183 [] L8:=cx Tryz.func60 (by kernel_rfl) (by kernel_rfl) rfl (by kernel_rfl) (by kernel_rfl)
def K7:bE:=
 .seq (.ag [dM 3 0,rb 6])
 (.seq (.seq (.ag [cK 7 3,⟨some 8,.call 21 [(.t 7)],none,[7]⟩,wX 9 8,ab 10 9,fJ 11 2 10,w' 12 11 10,fI 13 10 12])
 (.cond (.t 13)
 (.seq (.ag [JB 14,⟨none,.st 5 (.t 6) (.t 14),none,[6,14]⟩])
 (.ret))
 (.skip)))
 (.seq (.ag [cK 15 3,ab 16 1,ab 17 2,⟨some 18,.call 41 [(.t 15),(.c .ay),(.t 16),(.t 17)],none,[15,16,17]⟩,⟨none,.st 5 (.t 6) (.t 18),none,[6,18]⟩])
 (.ret)))
theorem Uc:cv 14 19 [.k3 6 5] K7:=cx Tryz.func14 (by kernel_rfl) (by kernel_rfl) rfl (by kernel_rfl) (by kernel_rfl)
def LI:bE:=
 .seq (.seq (.ag [ab 15 9,bG 16 15,kC 17 16,aE 18 17,gu 19 18,ab 20 19,dH 21 9 20,sh 22 21 20,l3 23 22 20,qd 24 23 20,cY 25 24 20,dH 26 3 20,BB 27 25 26 20,cN 28 20 27])
 (.cond (.t 28)
 (.skip)
 (.exit 0)))
 (.block 1 (.seq (.ag [ab 29 9,bG 30 29,e_ 31 30,ng 32 31,aE 33 32,e' 34 33,bG 35 29,e_ 36 35,ng 37 36,⟨none,.st 1 (.t 37) (.t 34),none,[37,34]⟩])
 (.ag [ab 38 9,⟨some 39,.call 60 [(.t 38)],none,[38]⟩])))
def LH:bE:=
 .seq (.ag [dM 4 0,rb 8])
 (.seq (.ag [ab 10 2,cK 11 4,ab 12 1,⟨some 13,.build [.ay,.ay,(.int .i64 0),(.int .i64 0),(.int .i64 0),(.int .i64 0),.ay,(.bool false),(.int .i64 0),(.int .i64 0),(.int .i64 0),(.str []),.ay,.ay,.ay,.ch,.ay] [(0,1,(.t 10)),(8,7,(.t 11)),(16,1,(.t 12))],none,[10,11,12]⟩,dM 14 13,ab 9 14])
 (.seq (.block 0 (.loop LI))
 (.seq (.seq (.ag [ab 40 9,bG 41 40,kC 42 41,aE 43 42,gu 44 43])
 (.cond (.t 44)
 (.ag [ab 45 9,bG 46 45,e_ 47 46,eQ 48 47,⟨none,.st 1 (.t 48) (.c (.int .i64 4)),none,[48]⟩])
 (.skip)))
 (.seq (.ag [ab 49 9,bG 50 49,e_ 51 50,xa 52 51,⟨none,.st 5 (.t 8) (.t 52),none,[8,52]⟩])
 (.ret)))))
theorem UA:cv 41 53 [.k3 8 5] LH:=cx Tryz.func41 (by kernel_rfl) (by kernel_rfl) rfl (by kernel_rfl) (by kernel_rfl)
def ss:mM where
 E8 al v cC b4 cs:=match v with
  | .int n=>cs=[.int .i64 1,.int .i64 n,.str [],.int .i64 0,.int .i64 0,.int .i64 0,.str [],.ay,.ay,.ay,.ch,.ay,.bool false]
  | .text s=>cs=[.int .i64 2,.int .i64 0,.str s,.int .i64 0,.int .i64 0,.int .i64 0,.str [],.ay,.ay,.ay,.ch,.ay,.bool false]
  | .fn x c _=>∃a t l,eg al c [.int .i64 c.k,.int .i64 c.x,.int .i64 c.n,.str c.s,a,t,l]∧cs=[.int .i64 3,.int .i64 x,.str [],.int .i64 c.k,.int .i64 c.x,.int .i64 c.n,.str c.s,a,t,l,b4,.ay,.bool false]
  | .dn t _=>cs=[.int .i64 4,.int .i64 t,.str [],.int .i64 0,.int .i64 0,.int .i64 0,.str [],.ay,.ay,.ay,.ch,cC,.bool false]
 xh al a p u:=∃eh lk aN aP aw,eg al eh [.int .i64 eh.k,.int .i64 eh.x,.int .i64 eh.n,.str eh.s,aN,aP,aw]∧eh.k=(if a.jY=true then 11 else 2)∧eh.x=a.x∧eh.l=[lk,a.c]∧u=[.int .i64 eh.k,.int .i64 eh.x,.int .i64 eh.n,.str eh.s,aN,aP,aw,p]
 nI:=8
 jm _ _ _:=True
 lay _ _ _ _ _ _ _ _ _ _ _:=[]
def pe:eR→Option (List V)
 | .int n=>some [.int .i64 1,.int .i64 n,.str [],.int .i64 0,.int .i64 0,.int .i64 0,.str [],.ay,.ay,.ay,.ch,.ay,.bool false]
 | .text s=>some [.int .i64 2,.int .i64 0,.str s,.int .i64 0,.int .i64 0,.int .i64 0,.str [],.ay,.ay,.ay,.ch,.ay,.bool false]
 | .dn t []=>some [.int .i64 4,.int .i64 t,.str [],.int .i64 0,.int .i64 0,.int .i64 0,.str [],.ay,.ay,.ay,.ch,.ay,.bool false]
 | _=>none
structure ep (al h:aj) (ar:a6) (K:fs) (au:List a6) (aS pm:V) (S:ax) (steps:Int) (aN aP aw b4 b8 bn:V):Prop where
 rep:hU ss al h K au S.st
 dv:K ar=.oc
 get:h.get ar=.aq [aS,b8,.int .i64 S.eZ,.int .i64 S.fg,.int .i64 S.read,.int .i64 steps,bn,.bool S.fQ,.int .i64 S.c.k,.int .i64 S.c.x,.int .i64 S.c.n,.str S.c.s,aN,aP,aw,b4,.ay] 0 false
 co:eg al S.c [.int .i64 S.c.k,.int .i64 S.c.x,.int .i64 S.c.n,.str S.c.s,aN,aP,aw]
 dB:eE h K au b4 S.e
 wr:mO ss al h K au S.w b8
 dk:qh al h K S.out bn
def ec (al h:aj) (ar:a6) (K:fs) (au:List a6) (aS pm:V) (S:ax) (steps:Int):Prop:=∃aN aP aw b4 b8 bn,ep al h ar K au aS pm S steps aN aP aw b4 b8 bn
theorem eg.parts {al:aj} {c:aY} {a t l:V} (H:eg al c [.int .i64 c.k,.int .i64 c.x,.int .i64 c.n,.str c.s,a,t,l]):cg al 3 a c.a.length (iX c.a)∧cg al 1 t c.t.length (cd c.t)∧jn al c.l l:=by
 obtain ⟨cI,ps,hL,e,q⟩:=H.open
 simp only [List.cons.injEq,true_and,and_true] at e
 obtain ⟨rfl,rfl,rfl⟩:=e
 exact q
theorem jn.pG {al:aj} {l:List aY} {v:V} (H:jn al l v) {k:IntKind} {i:Nat} (aG:i<l.length):∃b off a t m,fc 7 v (.int k i)=some (.ptr b off)∧eg al l[i] [.int .i64 l[i].k,.int .i64 l[i].x,.int .i64 l[i].n,.str l[i].s,a,t,m]∧Old al b∧
 ∀aa,Ext al aa→jv 7 (aa.get b) off=some (.agg [.int .i64 l[i].k,.int .i64 l[i].x,.int .i64 l[i].n,.str l[i].s,a,t,m])∧hX (aa.get b) (off+1)=some (.int .i64 l[i].x)∧hX (aa.get b) (off+2)=some (.int .i64 l[i].n)∧hX (aa.get b) (off+6)=some m:=by
 obtain ⟨bd,us,ae,ak,aC⟩:=H
 have oZ:=jn.lens ak aC
 have zU:i<us.length:=by omega
 have hu:=List.getElem?_eq_getElem zU
 obtain ⟨b,off,aI,bh⟩:=ae.b_ (k:=k) aG
 have av:=Cv us i _ oZ hu
 have hK:=xB us oZ
 have aD:=aC i _ _ (List.getElem?_eq_getElem aG) hu
 obtain ⟨a,t,m,Zd,_⟩:=aD.open
 rw [Zd] at aD av
 have oW:=fun (aa:aj) (e:Ext al aa) (j:Nat) (bS:j<7)=>(bh.ext e).cell av (by omega) bS
 refine ⟨b,off+i * 7,a,t,m,aI,aD,bh.1,fun aa e=>⟨?_,oW aa e 1 (by omega),oW aa e 2 (by omega),oW aa e 6 (by omega)⟩⟩
 rw [(bh.ext e).gl (i:=i * 7) (n:=7) (by omega),av]
section
variable {al h aa:aj} {ar:a6} {K aO:fs} {ei:oE→Prop} {au aL:List a6} {aS pm:V} {S c1:ax} {steps my:Int} {aN aP aw b4 b8 bn fl gK sb f_ fB jK:V}
theorem ep.next (M:ep al h ar K au aS pm S steps aN aP aw b4 b8 bn) (c1:ax) (my:Int) (fl gK sb f_ fB jK:V) (dq:c1.st=S.st) (vy:eg al c1.c [.int .i64 c1.c.k,.int .i64 c1.c.x,.int .i64 c1.c.n,.str c1.c.s,fl,gK,sb]) (vA:eE h K au f_ c1.e) (vR:mO ss al h K au c1.w fB) (kp:qh al h K c1.out jK):
 ep al (h.set ar (.aq [aS,fB,.int .i64 c1.eZ,.int .i64 c1.fg,.int .i64 c1.read,.int .i64 my,jK,.bool c1.fQ,.int .i64 c1.c.k,.int .i64 c1.c.x,.int .i64 c1.c.n,.str c1.c.s,fl,gK,sb,f_,.ay] 0 false)) ar K au aS pm c1 my fl gK sb f_ fB jK:=by
 have a7:=M.rep.new ar (by rw [M.dv];simp)
 have t:dd al K h au K (h.set ar (.aq [aS,fB,.int .i64 c1.eZ,.int .i64 c1.fg,.int .i64 c1.read,.int .i64 my,jK,.bool c1.fQ,.int .i64 c1.c.k,.int .i64 c1.c.x,.int .i64 c1.c.n,.str c1.c.s,fl,gK,sb,f_,.ay] 0 false)) au (·=.oc):=dd.s' M.dv a7.1
 refine ⟨?_,M.dv,by rw [du,if_pos rfl],vy,vA.cy t (by simp),vR.cy t (by simp) (by simp),kp.cy t (by simp)⟩
 rw [dq]
 exact M.rep.cy t (by simp) (by simp) (by simp)
theorem ep.cy (M:ep al h ar K au aS pm S steps aN aP aw b4 b8 bn) (t:dd al K h au aO aa au ei) (ae:∀i,¬ei (.val i)) (ak:∀i,¬ei (.lE i)) (aC:¬ei .env) (bq:¬ei .oc) (dZ:¬ei .iS) (eM:¬ei .out):ep al aa ar aO au aS pm S steps aN aP aw b4 b8 bn:=by
 have hm:K ar≠.no:=by rw [M.dv];simp
 exact ⟨M.rep.cy t ae ak aC,by rw [t.role ar hm,M.dv],by rw [t.get ar hm (by rw [M.dv];exact bq),M.get],M.co,M.dB.cy t aC,M.wr.cy t dZ aC,M.dk.cy t eM⟩
theorem ep.b6 (M:ep al h ar K au aS pm S steps aN aP aw b4 b8 bn):al.next≤cu ar∧cu ar<h.next:=M.rep.new ar (by rw [M.dv];simp)
theorem ep.ext (M:ep al h ar K au aS pm S steps aN aP aw b4 b8 bn) (e:Ext h aa):ep al aa ar K au aS pm S steps aN aP aw b4 b8 bn:=by
 refine M.cy (ei:=fun _=>False) (dd.Ig e (fun b ah=>(M.rep.new b ah).2) M.rep.ext.next) ?_ ?_ ?_ ?_ ?_ ?_<;>simp
theorem ep.tmp (M:ep al h ar K au aS pm S steps aN aP aw b4 b8 bn) {b:a6} {k:cT} (ah:K b=.no) (fq:al.next≤cu b):ep al (h.set b k) ar K au aS pm S steps aN aP aw b4 b8 bn:=by
 refine M.cy (dd.uH ah fq) ?_ ?_ ?_ ?_ ?_ ?_<;>simp
theorem ep.env (M:ep al h ar K au aS pm S steps aN aP aw b4 b8 bn) (e:Ext h aa) {b:a6} (ah:h.next≤cu b) (bD:Old aa b) {x:Int} {j:Nat} {p:V} {L:ix} (bp:aa.get b=.aq [.int .i64 x,c5 au j,p] 0 false) (aT:eE h K au p L) (bS:j<au.length):
 ∃aO,ep al aa ar aO au aS pm S steps aN aP aw b4 b8 bn∧eE aa aO au (.ptr b 0) ((x,j)::L)∧dd al K h au aO aa au (fun _=>False):=by
 have t:=M.rep.role e (fun q=>q=b) .env [] (fun q a2=>by subst a2;exact ⟨ah,bD⟩)
 rw [List.append_nil] at t
 refine ⟨jP K (fun q=>q=b) .env,?_,.cons (mJ rfl) bp bS (aT.cy t id),t⟩
 refine M.cy t ?_ ?_ ?_ ?_ ?_ ?_<;>simp
theorem ep.lay {aO:fs} {aL:List a6} {c1:ax} {my:Int} {fl gK sb f_ fB jK:V} (R:hU ss al aa aO aL c1.st) (dv:aO ar=.oc) (vy:eg al c1.c [.int .i64 c1.c.k,.int .i64 c1.c.x,.int .i64 c1.c.n,.str c1.c.s,fl,gK,sb]) (vA:eE aa aO aL f_ c1.e) (vR:mO ss al aa aO aL c1.w fB) (kp:qh al aa aO c1.out jK):
 ep al (aa.set ar (.aq [aS,fB,.int .i64 c1.eZ,.int .i64 c1.fg,.int .i64 c1.read,.int .i64 my,jK,.bool c1.fQ,.int .i64 c1.c.k,.int .i64 c1.c.x,.int .i64 c1.c.n,.str c1.c.s,fl,gK,sb,f_,.ay] 0 false)) ar aO aL aS pm c1 my fl gK sb f_ fB jK:=by
 have a7:=R.new ar (by rw [dv];simp)
 have t:dd al aO aa aL aO (aa.set ar (.aq [aS,fB,.int .i64 c1.eZ,.int .i64 c1.fg,.int .i64 c1.read,.int .i64 my,jK,.bool c1.fQ,.int .i64 c1.c.k,.int .i64 c1.c.x,.int .i64 c1.c.n,.str c1.c.s,fl,gK,sb,f_,.ay] 0 false)) aL (·=.oc):=dd.s' dv a7.1
 exact ⟨R.cy t (by simp) (by simp) (by simp),dv,by rw [du,if_pos rfl],vy,vA.cy t (by simp),vR.cy t (by simp) (by simp),kp.cy t (by simp)⟩
theorem ep.wrote (M:ep al h ar K au aS pm S steps aN aP aw b4 b8 bn) {v:V} {out:List UInt8} (c':cm al.next aa 1 v out.length (dp out)) (hm:Mod bn.bb h aa) (ah:∀b,v.bb b→bn.bb b∨h.next≤cu b):
 ∃aO,ep al (aa.set ar (.aq [aS,b8,.int .i64 S.eZ,.int .i64 S.fg,.int .i64 S.read,.int .i64 steps,v,.bool S.fQ,.int .i64 S.c.k,.int .i64 S.c.x,.int .i64 S.c.n,.str S.c.s,aN,aP,aw,b4,.ay] 0 false)) ar aO au aS pm {S with out:=out} steps aN aP aw b4 b8 v:=by
 have t:dd al K h au (jP K (fun b=>v.bb b∧h.next≤cu b) .out) aa au (·=.out):=by
  refine ⟨hm.next,fun b eF=>?_,fun b eF je=>?_,fun b eF aD=>?_,fun b eF=>?_,[],by simp⟩
  · exact mI fun q=>eF (M.rep.tmp q.2)
  · by_cases q:v.bb b∧h.next≤cu b
    · exact ⟨q.2,c'.v.b6 q.1⟩
    · rw [mI q] at je;exact absurd eF je
  · exact hm.get b (M.rep.new b eF).2 fun q=>aD (M.dk.2 b q)
  · refine hm.get b (Nat.lt_of_lt_of_le eF M.rep.ext.next) fun q=>?_
    have:=M.dk.1.base q
    omega
 have kK:K ar≠.no:=by rw [M.dv];simp
 refine ⟨_,ep.lay (c1:={S with out:=out}) (M.rep.cy t (by simp) (by simp) (by simp)) (by rw [t.role ar kK,M.dv]) M.co (M.dB.cy t (by simp)) (M.wr.cy t (by simp) (by simp)) ⟨c',fun b q=>?_⟩⟩
 rcases ah b q with r | r
 · have:=M.dk.2 b r
   rw [t.role b (by rw [this];simp),this]
 · exact mJ ⟨q,r⟩
theorem ep.zC (M:ep al h ar K au aS pm S steps aN aP aw b4 b8 bn) (hm:Mod bn.bb h aa):aa.get ar=h.get ar:=by
 refine hm.get ar M.b6.2 fun q=>?_
 have:=M.dk.2 ar q
 rw [M.dv] at this
 cases this
theorem ep.rU (M:ep al h ar K au aS pm S steps aN aP aw b4 b8 bn) {P:a6→Prop} (m:Mod P h aa) (jH:∀b,P b→K b=.no∧al.next≤cu b):ep al aa ar K au aS pm S steps aN aP aw b4 b8 bn:=by
 refine M.cy (M.rep.rU m jH) ?_ ?_ ?_ ?_ ?_ ?_<;>simp
theorem ep.make (M:ep al h ar K au aS pm S steps aN aP aw b4 b8 bn) {x:V} {cs:List V} (F:g7 h aa x cs) {v:eR} (bk:pe v=some cs):
 ∃aO aL,ep al aa ar aO aL aS pm (S.gf v) steps aN aP aw b4 b8 bn∧x=c5 aL S.st.length∧S.st.length<aL.length∧dd al K h au aO aa aL (fun _=>False):=by
 obtain ⟨b,rfl,e,ah,bD,bp⟩:=F
 have t:=M.rep.role e (fun q=>q=b) (.val S.st.length) [b] (fun q a2=>by subst a2;exact ⟨ah,bD⟩)
 have jt:ed (au++[b]) S.st.length=b:=by
  unfold ed
  rw [List.getD_eq_getElem?_getD,List.getElem?_append_right (by rw [M.rep.len];exact Nat.le_refl _),M.rep.len,Nat.sub_self]
  rfl
 have fp:hU ss al aa (jP K (fun q=>q=b) (.val S.st.length)) (au++[b]) (S.gf v).st:=by
  refine M.rep.push t (by simp) (by simp) (by simp) ?_
  refine ⟨by rw [jt];exact mJ rfl,.ay,.ch,cs,by rw [jt];exact bp,?_,?_,?_⟩
  · cases v with
    | int n=>simp only [pe,Option.some.injEq] at bk;exact bk.symm
    | text n=>simp only [pe,Option.some.injEq] at bk;exact bk.symm
    | fn _ _ _=>cases bk
    | dn t bg=>cases bg<;>simp only [pe,Option.some.injEq,reduceCtorEq] at bk;exact bk.symm
  · cases v<;>first | trivial | skip
    rename_i t bg
    cases bg<;>simp only [pe,Option.some.injEq,reduceCtorEq] at bk
    exact ⟨⟨rfl,rfl⟩,fun b q=>q.elim,fun j q=>by cases q⟩
  · cases v<;>first | trivial | cases bk
 have hm:K ar≠.no:=by rw [M.dv];simp
 have E:=M.dB.cy t id
 have W:=M.wr.cy t id id
 have O:=M.dk.cy t id
 refine ⟨_,_,⟨fp,by rw [t.role ar hm,M.dv],by rw [t.get ar hm id,M.get];rfl,M.co,E,W,O⟩,by unfold c5;rw [jt],by rw [List.length_append,M.rep.len];simp,t⟩
theorem ep.p7 (M:ep al h ar K au aS pm S steps aN aP aw b4 b8 bn) (dh:∀b,K b≠.no→aO b=K b) (a7:∀b,aO b≠.no→al.next≤cu b∧cu b<h.next):ep al h ar aO au aS pm S steps aN aP aw b4 b8 bn:=by
 obtain ⟨us,aQ,aB,a',cn⟩:=M.wr
 refine ⟨M.rep.p7 dh a7,by rw [dh _ (by rw [M.dv];simp),M.dv],M.get,M.co,M.dB.p7 dh,⟨us,aQ,fun b ah=>by rw [dh _ (by rw [aB b ah];simp),aB b ah],a',fun i a u aI bh=>?_⟩,M.dk.1,fun b ah=>by rw [dh _ (by rw [M.dk.2 b ah];simp),M.dk.2 b ah]⟩
 obtain ⟨bw,b3,p,a3,a4⟩:=cn i a u aI bh
 exact ⟨bw,b3,p,a3,a4.p7 dh⟩
theorem ep.val (M:ep al h ar K au aS pm S steps aN aP aw b4 b8 bn) {j:Nat} (bS:j<au.length):∃cC k x n s a t l hW,h.get (ed au j)=.aq [.int .i64 (cV (S.val j)),.int .i64 (dG (S.val j)),.str (e8 (S.val j)),k,x,n,s,a,t,l,hW,cC,.bool false] 0 false∧K (ed au j)=.val j∧
 q6 al h K au j (S.val j) cC∧∀y c e,S.val j=.fn y c e→k=.int .i64 c.k∧x=.int .i64 c.x∧n=.int .i64 c.n∧s=.str c.s∧eg al c [.int .i64 c.k,.int .i64 c.x,.int .i64 c.n,.str c.s,a,t,l]∧eE h K au hW e:=by
 have vE:j<S.st.length:=by rw [←M.rep.len];exact bS
 obtain ⟨k,cC,b4,cs,g,v,f,e⟩:=M.rep.val j _ (ax.Ea vE)
 generalize bk:S.val j=y8 at *
 cases y8 with
 | int n=>cases v;exact ⟨_,_,_,_,_,_,_,_,_,g,k,trivial,fun _ _ _ q=>by cases q⟩
 | text s=>cases v;exact ⟨_,_,_,_,_,_,_,_,_,g,k,trivial,fun _ _ _ q=>by cases q⟩
 | fn x c L=>obtain ⟨a,t,l,aQ,rfl⟩:=v;exact ⟨_,_,_,_,_,_,_,_,_,g,k,trivial,fun _ _ _ q=>by cases q;exact ⟨rfl,rfl,rfl,rfl,aQ,e⟩⟩
 | dn t bg=>cases v;exact ⟨_,_,_,_,_,_,_,_,_,g,k,f,fun _ _ _ q=>by cases q⟩
theorem ep.oJ (M:ep al h ar K au aS pm S steps aN aP aw b4 b8 bn) {j:Nat} (bS:j<au.length):Old h (ed au j)∧ed au j≠ar:=by
 obtain ⟨_,_,_,_,_,_,_,_,_,_,k,_⟩:=M.val bS
 refine ⟨(M.rep.new _ (by rw [k];simp)).2,fun q=>?_⟩
 have:=M.dv
 rw [←q,k] at this
 cases this
theorem ep.arg (M:ep al h ar K au aS pm S steps aN aP aw b4 b8 bn) {bx:List Nat} {wN:V} (A:ew h au bx wN) (n:Int) (i j:Nat) (a7:n=i) (bS:bx[i]? =some j):
 j<au.length∧∃b o cC aQ aB a' cn ea fy fZ hW,fc 1 wN (.int .i64 n)=some (.ptr b o)∧q6 al h K au j (S.val j) cC∧∀aa,Ext h aa→hX (aa.get b) o=some (.ptr (ed au j) 0)∧aa.get (ed au j)=.aq [.int .i64 (cV (S.val j)),.int .i64 (dG (S.val j)),.str (e8 (S.val j)),aQ,aB,a',cn,ea,fy,fZ,hW,cC,.bool false] 0 false:=by
 subst a7
 have aG:i<bx.length:=(List.getElem?_eq_some_iff.1 bS).1
 have cc:bx.getD i 0=j:=by rw [List.getD_eq_getElem?_getD,bS];rfl
 obtain ⟨b,o,aI,bh,cp⟩:=A.at (k:=.i64) aG
 rw [cc] at bh cp
 obtain ⟨cC,aQ,aB,a',cn,ea,fy,fZ,hW,g,_,q,_⟩:=M.val cp
 refine ⟨cp,b,o,cC,aQ,aB,a',cn,ea,fy,fZ,hW,aI,q,fun aa e=>⟨bh aa e,?_⟩⟩
 rw [e.get _ (M.oJ cp).1,g]
theorem ep.Ar (M:ep al h ar K au aS pm S steps aN aP aw b4 b8 bn) {x:Int} {tJ r7 uz hW y:V} {c:aY} {e:ix} (F:g7 h aa y [.int .i64 3,.int .i64 x,.str [],.int .i64 c.k,.int .i64 c.x,.int .i64 c.n,.str c.s,tJ,r7,uz,hW,.ay,.bool false]) (ah:eg al c [.int .i64 c.k,.int .i64 c.x,.int .i64 c.n,.str c.s,tJ,r7,uz]) (an:eE h K au hW e):
 ∃aO aL,ep al aa ar aO aL aS pm (S.gf (.fn x c e)) steps aN aP aw b4 b8 bn∧y=c5 aL S.st.length∧S.st.length<aL.length∧dd al K h au aO aa aL (fun _=>False):=by
 obtain ⟨b,rfl,aI,qz,bD,bp⟩:=F
 have t:=M.rep.role aI (fun q=>q=b) (.val S.st.length) [b] (fun q a2=>by subst a2;exact ⟨qz,bD⟩)
 have jt:ed (au++[b]) S.st.length=b:=by
  unfold ed
  rw [List.getD_eq_getElem?_getD,List.getElem?_append_right (by rw [M.rep.len];exact Nat.le_refl _),M.rep.len,Nat.sub_self]
  rfl
 have fp:hU ss al aa (jP K (fun q=>q=b) (.val S.st.length)) (au++[b]) (S.gf (.fn x c e)).st:=by
  refine M.rep.push t (by simp) (by simp) (by simp) ?_
  exact ⟨by rw [jt];exact mJ rfl,.ay,hW,_,by rw [jt];exact bp,⟨tJ,r7,uz,ah,rfl⟩,trivial,an.cy t id⟩
 have hm:K ar≠.no:=by rw [M.dv];simp
 have E:=M.dB.cy t id
 have W:=M.wr.cy t id id
 have O:=M.dk.cy t id
 refine ⟨_,_,⟨fp,by rw [t.role ar hm,M.dv],by rw [t.get ar hm id,M.get];rfl,M.co,E,W,O⟩,by unfold c5;rw [jt],by rw [List.length_append,M.rep.len];simp,t⟩
theorem ep.HV (M:ep al h ar K au aS pm S steps aN aP aw b4 b8 bn) {t:Int} {bg:List Nat} {cC y:V} (F:g7 h aa y [.int .i64 4,.int .i64 t,.str [],.int .i64 0,.int .i64 0,.int .i64 0,.str [],.ay,.ay,.ay,.ch,cC,.bool false]) (hK:cm al.next h 1 cC bg.length (bg.map (c5 au))) (ht:∀b,cC.bb b→K b=.no) (jT:∀j ∈ bg,j<au.length):
 ∃aO aL,ep al aa ar aO aL aS pm (S.gf (.dn t bg)) steps aN aP aw b4 b8 bn∧y=c5 aL S.st.length∧S.st.length<aL.length:=by
 obtain ⟨b,rfl,aI,qz,bD,bp⟩:=F
 have gv:ep al h ar (jP K (fun q=>cC.bb q) (.lE S.st.length)) au aS pm S steps aN aP aw b4 b8 bn:=by
  refine M.p7 (fun c aD=>mI fun q=>aD (ht c q)) fun c aD=>?_
  by_cases q:cC.bb c
  · exact ⟨hK.base q,hK.v.b6 q⟩
  · rw [mI q] at aD;exact M.rep.new c aD
 have GA:∀c,cC.bb c→(jP K (fun q=>cC.bb q) (.lE S.st.length)) c=.lE S.st.length:=fun c q=>mJ q
 generalize jP K (fun q=>cC.bb q) (.lE S.st.length)=jA at *
 have t1:=gv.rep.role aI (fun q=>q=b) (.val S.st.length) [b] (fun q a2=>by subst a2;exact ⟨qz,bD⟩)
 have jt:ed (au++[b]) S.st.length=b:=by
  unfold ed
  rw [List.getD_eq_getElem?_getD,List.getElem?_append_right (by rw [M.rep.len];exact Nat.le_refl _),M.rep.len,Nat.sub_self]
  rfl
 have fp:hU ss al aa (jP jA (fun q=>q=b) (.val S.st.length)) (au++[b]) (S.gf (.dn t bg)).st:=by
  refine gv.rep.push t1 (by simp) (by simp) (by simp) ?_
  have vr:q6 al h jA au S.st.length (.dn t bg) cC:=⟨hK,GA,jT⟩
  exact ⟨by rw [jt];exact mJ rfl,cC,.ch,_,by rw [jt];exact bp,rfl,vr.cy t1 id,trivial⟩
 have hm:jA ar≠.no:=by rw [gv.dv];simp
 have E:=gv.dB.cy t1 id
 have W:=gv.wr.cy t1 id id
 have O:=gv.dk.cy t1 id
 exact ⟨_,_,⟨fp,by rw [t1.role ar hm,gv.dv],by rw [t1.get ar hm id,gv.get];rfl,gv.co,E,W,O⟩,by unfold c5;rw [jt],by rw [List.length_append,M.rep.len];simp⟩
theorem ep.waited (M:ep al h ar K au aS pm S steps aN aP aw b4 b8 bn) {v p tJ r7 uz:V} {eh lk:aY} {a:j2} {us:List V} (a2:eg al eh [.int .i64 eh.k,.int .i64 eh.x,.int .i64 eh.n,.str eh.s,tJ,r7,uz]) (an:eh.k=(if a.jY=true then 11 else 2)) (az:eh.x=a.x) (aK:eh.l=[lk,a.c]) (aT:eE h K au p a.e) (Hl:cm al.next h 8 b8 S.w.length us)
 (c':cm al.next aa 8 v (S.w.length+1) (us++[.int .i64 eh.k,.int .i64 eh.x,.int .i64 eh.n,.str eh.s,tJ,r7,uz,p])) (hm:Mod b8.bb h aa) (ah:∀b,v.bb b→b8.bb b∨h.next≤cu b) (hu:∃nH:List (List V),us=nH.flatten∧nH.length=S.w.length∧∀(i:Nat) (a:j2) (u:List V),S.w.reverse[i]? =some a→nH[i]? =some u→u.length=8∧gh u=true∧∃p,ss.xh al a p u∧eE h K au p a.e):
 ∃aO,ep al (aa.set ar (.aq [aS,v,.int .i64 S.eZ,.int .i64 S.fg,.int .i64 S.read,.int .i64 steps,bn,.bool S.fQ,.int .i64 S.c.k,.int .i64 S.c.x,.int .i64 S.c.n,.str S.c.s,aN,aP,aw,b4,.ay] 0 false)) ar aO au aS pm {S with w:=a::S.w} steps aN aP aw b4 v bn:=by
 have Ah:∀b,b8.bb b→K b=.iS:=by obtain ⟨_,_,aB,_⟩:=M.wr;exact aB
 have t:dd al K h au (jP K (fun b=>v.bb b∧h.next≤cu b) .iS) aa au (·=.iS):=by
  refine ⟨hm.next,fun b eF=>?_,fun b eF je=>?_,fun b eF aD=>?_,fun b eF=>?_,[],by simp⟩
  · exact mI fun q=>eF (M.rep.tmp q.2)
  · by_cases q:v.bb b∧h.next≤cu b
    · exact ⟨q.2,c'.v.b6 q.1⟩
    · rw [mI q] at je;exact absurd eF je
  · exact hm.get b (M.rep.new b eF).2 fun q=>aD (Ah b q)
  · refine hm.get b (Nat.lt_of_lt_of_le eF M.rep.ext.next) fun q=>?_
    have:=Hl.base q
    omega
 have kK:K ar≠.no:=by rw [M.dv];simp
 obtain ⟨nH,rfl,ha,gB⟩:=hu
 have op:=aT.one
 have da:=a2.parts
 refine ⟨_,ep.lay (c1:={S with w:=a::S.w}) (M.rep.cy t (by simp) (by simp) (by simp)) (by rw [t.role ar kK,M.dv]) M.co (M.dB.cy t (by simp)) ⟨nH++[[.int .i64 eh.k,.int .i64 eh.x,.int .i64 eh.n,.str eh.s,tJ,r7,uz,p]],?_,fun b r=>?_,by simp [ha],fun i cI u aI bh=>?_⟩ (M.dk.cy t (by simp))⟩
 · rw [NJ];exact c'
 · rcases ah b r with s | s
   · have:=Ah b s
     rw [t.role b (by rw [this];simp),this]
   · exact mJ ⟨r,s⟩
 · simp only [List.reverse_cons] at aI
   by_cases aG:i<nH.length
   · rw [List.getElem?_append_left aG] at bh
     rw [List.getElem?_append_left (by rw [List.length_reverse];omega)] at aI
     obtain ⟨bt,fe,nD,Bg,Bh⟩:=gB i cI u aI bh
     exact ⟨bt,fe,nD,Bg,Bh.cy t (by simp)⟩
   · have qB:i=nH.length:=by
      have:=(List.getElem?_eq_some_iff.1 bh).1
      simp only [List.length_append,List.length_cons,List.length_nil] at this
      omega
     subst qB
     rw [List.getElem?_append_right (Nat.le_refl _),Nat.sub_self] at bh
     rw [List.getElem?_append_right (by rw [List.length_reverse];omega),List.length_reverse,ha,Nat.sub_self] at aI
     simp only [List.getElem?_cons_zero,Option.some.injEq] at aI bh
     subst aI bh
     exact ⟨rfl,by simp only [gh,da.1.one.1,da.2.1.one.1,da.2.2.one.1,op.1,Bool.and_self];rfl,p,⟨eh,lk,tJ,r7,uz,a2,an,az,aK,rfl⟩,aT.cy t (by simp)⟩
end
end Go.Proofs.YtjbiefneffiogaaGreat
namespace Go.Proofs.YtjbiefneffiogaaGreat
open Go bA
theorem aev (h:aj) (K:fs) (au:List a6) (n:Int) (p:V) (L:ix) (H:eE h K au p L) (a7:n ∈ L.map Prod.fst):bB Tryz.prog 153 [p,.int .i64 n] h fun x aa=>x=c5 au (mw L n)∧aa=h∧mw L n<au.length:=by
 refine Uf rfl (bP ?_)
 unfold Lh
 simp +contextual only [↓ad,af,simprocAttr]
 refine fw (fun r aa=>aa=h∧r 1=.int .i64 n∧∃M,eE h K au (r 0) M∧n ∈ M.map Prod.fst∧mw M n=mw L n) (fun r aa=>sI h K au (r 0)) ?_ ?_
 · exact ⟨rfl,by simp only [↓ad,bj,simprocAttr],L,by simpa only [↓ad,bj,simprocAttr] using H,a7,rfl⟩
 · rintro r aa ⟨rfl,aU,M,yF,eC,aM⟩
   unfold Li
   generalize a2:r 0=q at *
   have aK:=yF.sI
   cases yF with
   | nil=>simp at eC
   | @cons b m j nD tE dh bp bS bd=>
     have n0:=bd.sI
     by_cases e:m=n
     · subst e
       simp +contextual only [aU,a2,bp,↓ad,af,simprocAttr]
       simp only [mw,if_true] at aM
       rw [←aM]
       exact ⟨rfl,bS⟩
     · have fT:=eq_false e
       simp +contextual only [aU,a2,bp,fT,↓ad,af,simprocAttr]
       simp only [mw,if_neg e] at aM
       simp only [List.map_cons,List.mem_cons] at eC
       refine ⟨⟨tE,bd,?_,aM⟩,?_⟩
       · rcases eC with eC | eC
         · exact absurd eC.symm e
         · exact eC
       · rw [aK,n0,List.length_cons];omega
theorem q2 (h:aj) (n:Int):bB Tryz.prog 154 [.int .i64 n] h fun x aa=>g7 h aa x [.int .i64 1,.int .i64 n,.str [],.int .i64 0,.int .i64 0,.int .i64 0,.str [],.ay,.ay,.ay,.ch,.ay,.bool false]:=by
 refine Ug rfl (bP ?_)
 unfold Lj
 simp +contextual only [↓ad,af,simprocAttr]
 exact pL _ _
theorem oj (h:aj) (n:Int) (v:V) (bk:v.one=true∧v.cells=[v]∧v.e3=true):bB Tryz.prog 112 [.int .i64 n,v] h fun x aa=>g7 h aa x [.int .i64 4,.int .i64 n,.str [],.int .i64 0,.int .i64 0,.int .i64 0,.str [],.ay,.ay,.ay,.ch,v,.bool false]:=by
 refine TP rfl (bP ?_)
 unfold KF
 simp +contextual only [bk.1,bk.2.1,bk.2.2,↓ad,af,simprocAttr]
 exact pL _ _
theorem IJ (h:aj) (s:List UInt8):bB Tryz.prog 157 [.str s] h fun x aa=>g7 h aa x [.int .i64 2,.int .i64 0,.str s,.int .i64 0,.int .i64 0,.int .i64 0,.str [],.ay,.ay,.ay,.ch,.ay,.bool false]:=by
 refine Ui rfl (bP ?_)
 unfold Ll
 simp +contextual only [↓ad,af,simprocAttr]
 exact pL _ _
theorem IK (h:aj) (b:Bool):bB Tryz.prog 170 [.bool b] h fun x aa=>g7 h aa x [.int .i64 4,.int .i64 (if b=true then 1 else 0),.str [],.int .i64 0,.int .i64 0,.int .i64 0,.str [],.ay,.ay,.ay,.ch,.ay,.bool false]:=by
 refine Uo rfl (bP ?_)
 unfold Ls
 cases b with
 | true=>
   simp +contextual only [↓ad,af,simprocAttr]
   refine aV (oj h 1 .ay ⟨rfl,rfl,rfl⟩) ?_
   rintro x ae H
   simp +contextual only [↓ad,af,simprocAttr]
   exact H
 | false=>
   simp +contextual only [↓ad,af,simprocAttr]
   refine aV (oj h 0 .ay ⟨rfl,rfl,rfl⟩) ?_
   rintro x ae H
   simp +contextual only [↓ad,af,simprocAttr]
   exact H
theorem yo (n:Int) (h:aj) (a7:-2305843009213693952≤n∧n≤2305843009213693952):lr Tryz.prog 156 [.int .i64 n] h (.int .i64 (wr n)) h:=by
 refine te (Uh rfl (bP ?_))
 unfold Lk
 have k:(eH.int .rem).run Tryz.prog (.int .i64 n) (.int .i64 2147483648)=some (.int .i64 (n.tmod 2147483648)):=HI .i64 n 2147483648 (by decide)
 have hm:n.tmod 2147483648=n % 2147483648∨n.tmod 2147483648=n % 2147483648-2147483648:=by
  rw [Int.tmod_eq_emod]
  split
  · left;omega
  · right;simp
 have GR:-2147483648<n.tmod 2147483648∧n.tmod 2147483648<2147483648:=by
  have ae:(n.tmod 2147483648).natAbs<2147483648:=by rw [Int.natAbs_tmod];exact Nat.mod_lt _ (by decide)
  omega
 generalize n.tmod 2147483648=m at *
 by_cases ae:1073741823<m
 · have dN:=eq_true ae
   have dL:IntKind.i64.wrap (m-2147483648)=m-2147483648:=wrap_i64 (by omega) (by omega)
   have k6:(m-2147483648 < -1073741824)=False:=eq_false (by omega)
   have e:wr n=m-2147483648:=by unfold wr;omega
   simp +contextual only [k,dN,dL,k6,e,↓ad,af,simprocAttr]
 · have dN:=eq_false ae
   by_cases ak:m < -1073741824
   · have k6:=eq_true ak
     have dL:IntKind.i64.wrap (m+2147483648)=m+2147483648:=wrap_i64 (by omega) (by omega)
     have e:wr n=m+2147483648:=by unfold wr;omega
     simp +contextual only [k,dN,dL,k6,e,↓ad,af,simprocAttr]
   · have k6:=eq_false ak
     have e:wr n=m:=by unfold wr;omega
     simp +contextual only [k,dN,k6,e,↓ad,af,simprocAttr]
section
variable {al h aa:aj} {ar:a6} {K:fs} {au:List a6} {aS pm:V} {S:ax} {steps:Int} {aN aP aw b4 b8 bn:V}
theorem mv (M:ec al h ar K au aS pm S steps) (pU:Int):bB Tryz.prog 113 [.ptr ar 0,.int .i64 pU] h fun x aa=>ec al aa ar K au aS pm (S.ends pU) steps:=by
 obtain ⟨aN,aP,aw,b4,b8,bn,M⟩:=M
 have aH:=M.next {S with fQ:=true} steps aN aP aw b4 b8 bn rfl M.co M.dB M.wr M.dk
 have M2:=aH.next (S.ends pU) steps aN aP aw b4 b8 bn rfl aH.co aH.dB aH.wr aH.dk
 have g:=M.get
 have bF:=aH.get
 refine TQ rfl (bP ?_)
 unfold KG
 simp +contextual only [g,bF,↓ad,af,simprocAttr]
 exact ⟨_,_,_,_,_,_,M2⟩
noncomputable def DU (h:aj) (ar:a6):Nat:=match hX (h.get ar) 1 with
 | some v=>match n_ v with
   | some (.int _ n)=>n.toNat
   | _=>0
 | none=>0
theorem ep.ov (M:ep al h ar K au aS pm S steps aN aP aw b4 b8 bn):DU h ar=S.w.length:=by
 unfold DU
 rw [M.get,qN]
 simp only [List.getElem?_cons_succ,List.getElem?_cons_zero,M.wr.len,Int.toNat_natCast]
set_option maxHeartbeats 4000000 in
theorem jX (M:ec al h ar K au aS pm S steps) (dJ:S.w.length≤4294967296) {j:Nat} (bS:j<au.length):bB Tryz.prog 110 [.ptr ar 0,c5 au j] h fun x aa=>∃aO,ec al aa ar aO au aS pm (S.nb j) steps:=by
 refine TN rfl (bP ?_)
 unfold KC
 simp +contextual only [↓ad,af,simprocAttr]
 refine fw (fun r aa=>r 0=.ptr ar 0∧r 1=c5 au j∧∃w,ec al aa ar K au aS pm {S with w:=w} steps∧w.length≤4294967296∧S.r' j w=S.nb j) (fun r aa=>DU aa ar) ?_ ?_
 · exact ⟨by simp only [↓ad,bj,simprocAttr],by simp only [↓ad,bj,simprocAttr],S.w,M,dJ,rfl⟩
 · rintro r h ⟨bl,aU,w,M,dJ,aM⟩
   unfold KD
   obtain ⟨aN,aP,aw,b4,b8,bn,M⟩:=M
   have o3:=M.ov
   have g:=M.get
   have aK:=M.wr.len
   cases w with
   | nil=>
     simp only [List.length_nil] at aK
     have z0:((0:Int) < ((0:Nat):Int))=False:=eq_false (by omega)
     simp +contextual only [bl,aU,g,aK,z0,↓ad,af,simprocAttr]
     refine aV (mv ⟨_,_,_,_,_,_,M⟩ 0) ?_
     rintro x ak bL
     simp +contextual only [bl,aU,↓ad,af,simprocAttr]
     rw [←aM]
     exact ⟨K,bL⟩
   | cons a w=>
     have W:=M.wr
     simp only at W
     obtain ⟨u,p,b,off,fB,bw,b3,⟨eh,lk,hQ,hR,hA,aQ,aB,a',cn,rfl⟩,a4,a5,jR,u_,tI,a9,rk⟩:=W.pop (by decide)
     simp only [List.length_cons] at aK dJ o3
     have z0:((0:Int) < ((w.length+1:Nat):Int))=True:=eq_true (by omega)
     have dL:IntKind.i64.wrap (((w.length+1:Nat):Int)-1)=(w.length:Int):=by rw [wrap_i64 (by omega) (by omega)];omega
     have hold:Old h ar:=M.b6.2
     have eK:(ao h.next=ar)=False:=gA hold (Nat.le_refl _)
     have gH:(ar=ao h.next)=False:=lM hold (Nat.le_refl _)
     have lL:(ao h.next=b)=False:=gA jR (Nat.le_refl _)
     have va:fc 8 b8 (.int .i64 w.length)=some (.ptr b off):=u_
     have vb:gV 8 b8 none (some (.int .i64 w.length)) none=some fB:=a9
     have cD:jv 8 (h.get b) off=some (.agg [.int .i64 eh.k,.int .i64 eh.x,.int .i64 eh.n,.str eh.s,hQ,hR,hA,p]):=tI h rfl
     obtain ⟨cz,uY,yA⟩:=aQ.parts
     have iE:=cz.one
     have iG:=uY.one
     have ol:=yA.one
     have op:=a4.one
     have dm:=rk.one
     have aI:Ext h (h.new (.aq [.int .i64 0,.int .i64 0,.int .i64 0,.str [],.ay,.ay,.ay,.ch] 0 false)):=(Ext.refl h).new _
     have ht:K (ao h.next)=.no:=M.rep.tmp (by rw [cS];exact Nat.le_refl _)
     have fq:al.next≤cu (ao h.next):=by rw [cS];exact M.rep.ext.next
     cases bU:a.jY with
     | false=>
       rw [bU] at aB
       simp only [Bool.false_eq_true,if_false,if_true] at aB
       rw [aB,a'] at cD
       have aH:=(M.ext aI).tmp (b:=ao h.next) (k:=.aq [.int .i64 2,.int .i64 a.x,.int .i64 eh.n,.str eh.s,hQ,hR,hA,p] 0 false) ht fq
       have t1:dd al K h au K ((h.new (.aq [.int .i64 0,.int .i64 0,.int .i64 0,.str [],.ay,.ay,.ay,.ch] 0 false)).set (ao h.next) (.aq [.int .i64 2,.int .i64 a.x,.int .i64 eh.n,.str eh.s,hQ,hR,hA,p] 0 false)) au (fun _=>False):=(M.rep.ex aI).trans (dd.uH ht fq)
       have M2:=aH.next {S with w:=w} steps aN aP aw b4 fB bn rfl aH.co aH.dB (rk.cy t1 id id) aH.dk
       have ic:=a4.cy t1 id
       have eP:=ic.set (k:=.aq [aS,fB,.int .i64 S.eZ,.int .i64 S.fg,.int .i64 S.read,.int .i64 steps,bn,.bool S.fQ,.int .i64 S.c.k,.int .i64 S.c.x,.int .i64 S.c.n,.str S.c.s,aN,aP,aw,b4,.ay] 0 false) aH.dv (by simp)
       obtain ⟨eU,vi,mD,mF,mE,i1,i2,io,i3⟩:=yA.pG (k:=.i64) (i:=1) (by rw [cn];exact Nat.lt_succ_self 1)
       have e4:eh.l[1]'(by rw [cn];exact Nat.lt_succ_self 1)=a.c:=by simp [cn]
       rw [e4] at i2 i3
       have Hw:fc 7 hA (.int .i64 1)=some (.ptr eU vi):=i1
       have gT:=(i3 _ M.rep.ext).1
       have cl:(ar=eU)=False:=eq_false fun q=>by have:=M.b6.1;rw [q] at this;unfold Old at io;omega
       have dr:(ao h.next=eU)=False:=gA (M.rep.ext.b6 io) (Nat.le_refl _)
       obtain ⟨qa,qb,qc⟩:=i2.parts
       have AP:=qa.one
       have AW:=qb.one
       have AU:=qc.one
       have bL:=M2.next {S with w:=w,c:=a.c} steps mD mF mE b4 fB bn rfl i2 M2.dB M2.wr M2.dk
       have lZ:=eP.set (k:=.aq [aS,fB,.int .i64 S.eZ,.int .i64 S.fg,.int .i64 S.read,.int .i64 steps,bn,.bool S.fQ,.int .i64 a.c.k,.int .i64 a.c.x,.int .i64 a.c.n,.str a.c.s,mD,mF,mE,b4,.ay] 0 false) M2.dv (by simp)
       have eV:=fun k=>(Ext.refl _).new (h:=(((((h.new (.aq [.int .i64 0,.int .i64 0,.int .i64 0,.str [],.ay,.ay,.ay,.ch] 0 false)).set (ao h.next) (.aq [.int .i64 2,.int .i64 a.x,.int .i64 eh.n,.str eh.s,hQ,hR,hA,p] 0 false)).set ar (.aq [aS,fB,.int .i64 S.eZ,.int .i64 S.fg,.int .i64 S.read,.int .i64 steps,bn,.bool S.fQ,.int .i64 S.c.k,.int .i64 S.c.x,.int .i64 S.c.n,.str S.c.s,aN,aP,aw,b4,.ay] 0 false)).set ar (.aq [aS,fB,.int .i64 S.eZ,.int .i64 S.fg,.int .i64 S.read,.int .i64 steps,bn,.bool S.fQ,.int .i64 a.c.k,.int .i64 a.c.x,.int .i64 a.c.n,.str a.c.s,mD,mF,mE,b4,.ay] 0 false)))) k
       obtain ⟨aO,bC,jZ,t4⟩:=bL.env (eV (.aq [.int .i64 a.x,c5 au j,p] 0 false)) (b:=ao (h.next+1)) (by simp only [gU,cO,cS];exact Nat.le_refl _) (cZ (by simp only [gU,cO];omega)) (by rw [eB,if_pos (by simp only [gU,cO])]) lZ bS
       have oD:=bC.next {S with w:=w,c:=a.c,e:=(a.x,j)::a.e} steps mD mF mE (.ptr (ao (h.next+1)) 0) fB bn rfl bC.co (jZ) bC.wr bC.dk
       have dE:(ao (h.next+1)=ar)=False:=gA hold (by omega)
       have e6:(ar=ao (h.next+1))=False:=lM hold (by omega)
       simp +contextual only [c5,bl,aU,g,aK,z0,dL,eK,gH,dE,e6,lL,va,vb,cD,iE.1,iE.2.1,iG.1,iG.2.1,ol.1,ol.2.1,op.1,op.2.1,op.2.2,dm.1,dm.2.1,Hw,gT,cl,dr,AP.1,AP.2.1,AW.1,AW.2.1,AU.1,AU.2.1,↓ad,af,simprocAttr]
       rw [←aM]
       simp only [ax.r',bU]
       exact ⟨aO,_,_,_,_,_,_,oD⟩
     | true=>
       rw [bU] at aB
       simp only [Bool.false_eq_true,if_false,if_true] at aB
       rw [aB,a'] at cD
       have aH:=(M.ext aI).tmp (b:=ao h.next) (k:=.aq [.int .i64 11,.int .i64 a.x,.int .i64 eh.n,.str eh.s,hQ,hR,hA,p] 0 false) ht fq
       have t1:dd al K h au K ((h.new (.aq [.int .i64 0,.int .i64 0,.int .i64 0,.str [],.ay,.ay,.ay,.ch] 0 false)).set (ao h.next) (.aq [.int .i64 11,.int .i64 a.x,.int .i64 eh.n,.str eh.s,hQ,hR,hA,p] 0 false)) au (fun _=>False):=(M.rep.ex aI).trans (dd.uH ht fq)
       have M2:=aH.next {S with w:=w} steps aN aP aw b4 fB bn rfl aH.co aH.dB (rk.cy t1 id id) aH.dk
       simp +contextual only [c5,bl,aU,g,aK,z0,dL,eK,gH,lL,va,vb,cD,iE.1,iE.2.1,iG.1,iG.2.1,ol.1,ol.2.1,op.1,op.2.1,op.2.2,dm.1,dm.2.1,↓ad,af,simprocAttr]
       refine ⟨⟨w,⟨_,_,_,_,_,_,M2⟩,by omega,?_⟩,?_⟩
       · rw [←aM];simp only [ax.r',bU];rfl
       · rw [o3,M2.ov];simp only;omega
set_option maxHeartbeats 4000000 in
theorem tl (M:ec al h ar K au aS pm S steps) (dJ:S.w.length≤4294967296) {j:Nat} (bS:j<au.length):bB Tryz.prog 118 [.ptr ar 0,c5 au j] h fun x aa=>∃aO,ec al aa ar aO au aS pm (S.p6 j) steps:=by
 refine TU rfl (bP ?_)
 unfold KM
 simp +contextual only [↓ad,af,simprocAttr]
 refine fw (fun r aa=>r 0=.ptr ar 0∧r 1=c5 au j∧∃w,ec al aa ar K au aS pm {S with w:=w} steps∧w.length≤4294967296∧S.lo j w=S.p6 j) (fun r aa=>DU aa ar) ?_ ?_
 · exact ⟨by simp only [↓ad,bj,simprocAttr],by simp only [↓ad,bj,simprocAttr],S.w,M,dJ,rfl⟩
 · rintro r h ⟨bl,aU,w,M,dJ,aM⟩
   unfold KN
   obtain ⟨aN,aP,aw,b4,b8,bn,M⟩:=M
   have o3:=M.ov
   have g:=M.get
   have aK:=M.wr.len
   cases w with
   | nil=>
     simp only [List.length_nil] at aK
     have z0:((0:Int) < ((0:Nat):Int))=False:=eq_false (by omega)
     obtain ⟨cC,v1,v2,v3,v4,v5,v6,tu,hW,fA,kM,_,_⟩:=M.val bS
     have qI:ax.val {S with w:=[]} j=S.val j:=rfl
     rw [qI] at fA
     have aT:c5 au j=.ptr (ed au j) 0:=rfl
     rw [aT] at aU
     by_cases bq:cV (S.val j)=4
     · have mb:=eq_true bq
       simp +contextual only [bl,aU,g,aK,z0,fA,mb,bq,↓ad,af,simprocAttr]
       refine aV (mv ⟨_,_,_,_,_,_,M⟩ 1) ?_
       rintro x ak ⟨_,_,_,_,_,_,bL⟩
       have cL:=bL.get
       obtain ⟨_,_,_,_,_,_,_,_,_,zE,_⟩:=bL.val bS
       have Hn:ax.val (ax.ends {S with w:=[]} 1) j=S.val j:=rfl
       rw [Hn] at zE
       simp +contextual only [bl,aU,cL,zE,↓ad,af,simprocAttr]
       rw [←aM]
       cases bk:S.val j with
       | dn t bg=>
         simp only [ax.lo,bk]
         have bC:=bL.next {ax.ends {S with w:=[]} 1 with fg:=t} steps _ _ _ _ _ _ rfl bL.co bL.dB bL.wr bL.dk
         exact ⟨K,_,_,_,_,_,_,bC⟩
       | int n=>rw [bk] at bq;cases bq
       | text n=>rw [bk] at bq;cases bq
       | fn _ _ _=>rw [bk] at bq;cases bq
     · have mb:=eq_false bq
       simp +contextual only [bl,aU,g,aK,z0,fA,mb,↓ad,af,simprocAttr]
       refine aV (mv ⟨_,_,_,_,_,_,M⟩ 6) ?_
       rintro x ak bL
       simp +contextual only [bl,aU,↓ad,af,simprocAttr]
       rw [←aM]
       cases bk:S.val j with
       | dn t bg=>rw [bk] at bq;exact absurd rfl bq
       | int n=>simp only [ax.lo,bk];exact ⟨K,bL⟩
       | text n=>simp only [ax.lo,bk];exact ⟨K,bL⟩
       | fn _ _ _=>simp only [ax.lo,bk];exact ⟨K,bL⟩
   | cons a w=>
     have W:=M.wr
     simp only at W
     obtain ⟨u,p,b,off,fB,bw,b3,⟨eh,lk,hQ,hR,hA,aQ,aB,a',cn,rfl⟩,a4,a5,jR,u_,tI,a9,rk⟩:=W.pop (by decide)
     simp only [List.length_cons] at aK dJ o3
     have z0:((0:Int) < ((w.length+1:Nat):Int))=True:=eq_true (by omega)
     have dL:IntKind.i64.wrap (((w.length+1:Nat):Int)-1)=(w.length:Int):=by rw [wrap_i64 (by omega) (by omega)];omega
     have hold:Old h ar:=M.b6.2
     have eK:(ao h.next=ar)=False:=gA hold (Nat.le_refl _)
     have gH:(ar=ao h.next)=False:=lM hold (Nat.le_refl _)
     have lL:(ao h.next=b)=False:=gA jR (Nat.le_refl _)
     have va:fc 8 b8 (.int .i64 w.length)=some (.ptr b off):=u_
     have vb:gV 8 b8 none (some (.int .i64 w.length)) none=some fB:=a9
     have cD:jv 8 (h.get b) off=some (.agg [.int .i64 eh.k,.int .i64 eh.x,.int .i64 eh.n,.str eh.s,hQ,hR,hA,p]):=tI h rfl
     obtain ⟨cz,uY,yA⟩:=aQ.parts
     have iE:=cz.one
     have iG:=uY.one
     have ol:=yA.one
     have op:=a4.one
     have dm:=rk.one
     have aI:Ext h (h.new (.aq [.int .i64 0,.int .i64 0,.int .i64 0,.str [],.ay,.ay,.ay,.ch] 0 false)):=(Ext.refl h).new _
     have ht:K (ao h.next)=.no:=M.rep.tmp (by rw [cS];exact Nat.le_refl _)
     have fq:al.next≤cu (ao h.next):=by rw [cS];exact M.rep.ext.next
     cases bU:a.jY with
     | true=>
       rw [bU] at aB
       simp only [Bool.false_eq_true,if_false,if_true] at aB
       rw [aB,a'] at cD
       have aH:=(M.ext aI).tmp (b:=ao h.next) (k:=.aq [.int .i64 11,.int .i64 a.x,.int .i64 eh.n,.str eh.s,hQ,hR,hA,p] 0 false) ht fq
       have t1:dd al K h au K ((h.new (.aq [.int .i64 0,.int .i64 0,.int .i64 0,.str [],.ay,.ay,.ay,.ch] 0 false)).set (ao h.next) (.aq [.int .i64 11,.int .i64 a.x,.int .i64 eh.n,.str eh.s,hQ,hR,hA,p] 0 false)) au (fun _=>False):=(M.rep.ex aI).trans (dd.uH ht fq)
       have M2:=aH.next {S with w:=w} steps aN aP aw b4 fB bn rfl aH.co aH.dB (rk.cy t1 id id) aH.dk
       have ic:=a4.cy t1 id
       have eP:=ic.set (k:=.aq [aS,fB,.int .i64 S.eZ,.int .i64 S.fg,.int .i64 S.read,.int .i64 steps,bn,.bool S.fQ,.int .i64 S.c.k,.int .i64 S.c.x,.int .i64 S.c.n,.str S.c.s,aN,aP,aw,b4,.ay] 0 false) aH.dv (by simp)
       obtain ⟨eU,vi,mD,mF,mE,i1,i2,io,i3⟩:=yA.pG (k:=.i64) (i:=1) (by rw [cn];exact Nat.lt_succ_self 1)
       have e4:eh.l[1]'(by rw [cn];exact Nat.lt_succ_self 1)=a.c:=by simp [cn]
       rw [e4] at i2 i3
       have Hw:fc 7 hA (.int .i64 1)=some (.ptr eU vi):=i1
       have gT:=(i3 _ M.rep.ext).1
       have cl:(ar=eU)=False:=eq_false fun q=>by have:=M.b6.1;rw [q] at this;unfold Old at io;omega
       have dr:(ao h.next=eU)=False:=gA (M.rep.ext.b6 io) (Nat.le_refl _)
       obtain ⟨qa,qb,qc⟩:=i2.parts
       have AP:=qa.one
       have AW:=qb.one
       have AU:=qc.one
       have bL:=M2.next {S with w:=w,c:=a.c} steps mD mF mE b4 fB bn rfl i2 M2.dB M2.wr M2.dk
       have lZ:=eP.set (k:=.aq [aS,fB,.int .i64 S.eZ,.int .i64 S.fg,.int .i64 S.read,.int .i64 steps,bn,.bool S.fQ,.int .i64 a.c.k,.int .i64 a.c.x,.int .i64 a.c.n,.str a.c.s,mD,mF,mE,b4,.ay] 0 false) M2.dv (by simp)
       have eV:=fun k=>(Ext.refl _).new (h:=(((((h.new (.aq [.int .i64 0,.int .i64 0,.int .i64 0,.str [],.ay,.ay,.ay,.ch] 0 false)).set (ao h.next) (.aq [.int .i64 11,.int .i64 a.x,.int .i64 eh.n,.str eh.s,hQ,hR,hA,p] 0 false)).set ar (.aq [aS,fB,.int .i64 S.eZ,.int .i64 S.fg,.int .i64 S.read,.int .i64 steps,bn,.bool S.fQ,.int .i64 S.c.k,.int .i64 S.c.x,.int .i64 S.c.n,.str S.c.s,aN,aP,aw,b4,.ay] 0 false)).set ar (.aq [aS,fB,.int .i64 S.eZ,.int .i64 S.fg,.int .i64 S.read,.int .i64 steps,bn,.bool S.fQ,.int .i64 a.c.k,.int .i64 a.c.x,.int .i64 a.c.n,.str a.c.s,mD,mF,mE,b4,.ay] 0 false)))) k
       obtain ⟨aO,bC,jZ,t4⟩:=bL.env (eV (.aq [.int .i64 a.x,c5 au j,p] 0 false)) (b:=ao (h.next+1)) (by simp only [gU,cO,cS];exact Nat.le_refl _) (cZ (by simp only [gU,cO];omega)) (by rw [eB,if_pos (by simp only [gU,cO])]) lZ bS
       have oD:=bC.next {S with w:=w,c:=a.c,e:=(a.x,j)::a.e} steps mD mF mE (.ptr (ao (h.next+1)) 0) fB bn rfl bC.co (jZ) bC.wr bC.dk
       have dE:(ao (h.next+1)=ar)=False:=gA hold (by omega)
       have e6:(ar=ao (h.next+1))=False:=lM hold (by omega)
       simp +contextual only [c5,bl,aU,g,aK,z0,dL,eK,gH,dE,e6,lL,va,vb,cD,iE.1,iE.2.1,iG.1,iG.2.1,ol.1,ol.2.1,op.1,op.2.1,op.2.2,dm.1,dm.2.1,Hw,gT,cl,dr,AP.1,AP.2.1,AW.1,AW.2.1,AU.1,AU.2.1,↓ad,af,simprocAttr]
       rw [←aM]
       simp only [ax.lo,bU]
       exact ⟨aO,_,_,_,_,_,_,oD⟩
     | false=>
       rw [bU] at aB
       simp only [Bool.false_eq_true,if_false,if_true] at aB
       rw [aB,a'] at cD
       have aH:=(M.ext aI).tmp (b:=ao h.next) (k:=.aq [.int .i64 2,.int .i64 a.x,.int .i64 eh.n,.str eh.s,hQ,hR,hA,p] 0 false) ht fq
       have t1:dd al K h au K ((h.new (.aq [.int .i64 0,.int .i64 0,.int .i64 0,.str [],.ay,.ay,.ay,.ch] 0 false)).set (ao h.next) (.aq [.int .i64 2,.int .i64 a.x,.int .i64 eh.n,.str eh.s,hQ,hR,hA,p] 0 false)) au (fun _=>False):=(M.rep.ex aI).trans (dd.uH ht fq)
       have M2:=aH.next {S with w:=w} steps aN aP aw b4 fB bn rfl aH.co aH.dB (rk.cy t1 id id) aH.dk
       simp +contextual only [c5,bl,aU,g,aK,z0,dL,eK,gH,lL,va,vb,cD,iE.1,iE.2.1,iG.1,iG.2.1,ol.1,ol.2.1,op.1,op.2.1,op.2.2,dm.1,dm.2.1,↓ad,af,simprocAttr]
       refine ⟨⟨w,⟨_,_,_,_,_,_,M2⟩,by omega,?_⟩,?_⟩
       · rw [←aM];simp only [ax.lo,bU];rfl
       · rw [o3,M2.ov];simp only;omega
end
end Go.Proofs.YtjbiefneffiogaaGreat
namespace Go.Proofs.YtjbiefneffiogaaGreat
open Go bA
def hC:List Int→Nat→List j1
 | [],_=>[]
 | x::l,n=>⟨.int .i64 x,.bool true,n⟩::hC l (n+1)
theorem NF {k:Int}:∀(l:List Int) (n:Nat),nr fO.int.eq (.int .i64 k) (hC l n)=some (if l.contains k then some (.bool true) else none)
 | [],_=>rfl
 | x::l,n=>by
   have bN:=NF (k:=k) l (n+1)
   simp only [hC,nr,fO.eq,oR,V.eX,show nq .i64 .i64=true from rfl,cond_true,oQ,List.contains_cons] at bN ⊢
   by_cases h:k=x
   · subst h;simp
   · have ah:(k == x)=false:=by simpa using h
     rw [decide_eq_false h,ah,Bool.false_or]
     exact bN
theorem Qs {k:Int} {c:Nat}:∀(l:List Int) (n:Nat),l.contains k=false→mq fO.int.eq (.int .i64 k) (.bool true) c (hC l n)=some (hC l n++[⟨.int .i64 k,.bool true,c⟩],true)
 | [],_,_=>rfl
 | x::l,n,h=>by
   rw [List.contains_cons,Bool.or_eq_false_iff] at h
   have bN:=Qs (k:=k) (c:=c) l (n+1) h.2
   have az:¬k=x:=by simpa using h.1
   simp only [hC,mq,fO.eq,oR,V.eX,show nq .i64 .i64=true from rfl,cond_true,oQ,decide_eq_false az,cond_false] at bN ⊢
   rw [bN]
   rfl
theorem Nr:∀(l:List Int) (n:Nat) (k:Int),hC l n++[⟨.int .i64 k,.bool true,n+l.length⟩]=hC (l++[k]) n
 | [],n,k=>rfl
 | x::l,n,k=>by
   rw [hC,List.cons_append,List.cons_append,hC,←Nr l (n+1) k,List.length_cons]
   congr 4
   omega
theorem acn {h:aj} {b:a6} {l:List Int} {c:Nat} (bp:h.get b=.mp (hC l 0) c) (k:Int):ld fO.int.eq (.bool false) false h (.map b) (.int .i64 k)=some (.bool (l.contains k)):=by
 simp only [ld,rS,bp,cT.pa,NF,cond_false]
 cases l.contains k<;>rfl
theorem I' {h:aj} {b:a6} {l:List Int} (bp:h.get b=.mp (hC l 0) l.length) {k:Int} (an:l.contains k=false):lp fO.int.eq h (.map b) (.int .i64 k) (.bool true)=some (h.set b (.mp (hC (l++[k]) 0) (l++[k]).length)):=by
 simp only [lp,bp,cT.pa,Qs l 0 an,cond_true,Option.some.injEq]
 rw [←Nr l 0 k,Nat.zero_add,List.length_append]
 rfl
def r9 (hz:Bool):List Int→List Int→Bool
 | _,[]=>true
 | seen,t::l=>(if hz then o' t else gC t)&&!seen.contains t&&r9 hz (seen++[t]) l
theorem Rr (hz:Bool):∀(l seen:List Int),r9 hz seen l=(kS hz l&&l.all fun t=>!seen.contains t)
 | [],seen=>by simp [r9,kS,diff]
 | t::l,seen=>by
   rw [r9,Rr hz l (seen++[t])]
   have:(l.all fun u=>!(seen++[t]).contains u)=((l.all fun u=>!seen.contains u)&&!l.contains t):=by
    rw [Bool.eq_iff_iff]
    simp only [List.all_eq_true,Bool.and_eq_true,Bool.not_eq_true',List.contains_eq_mem,decide_eq_false_iff_not,List.mem_append,List.mem_singleton,not_or]
    constructor
    · intro h;exact ⟨fun x az=>(h x az).1,fun aJ=>(h t aJ).2 rfl⟩
    · rintro ⟨ae,ak⟩ x az;exact ⟨ae x az,fun e=>ak (e ▸ az)⟩
   rw [this]
   simp only [kS,List.all_cons,diff]
   generalize (if hz=true then o' t else gC t)=p
   generalize seen.contains t=q
   generalize l.contains t=r
   cases p<;>cases q<;>cases r<;>simp [Bool.and_assoc,Bool.and_comm,Bool.and_left_comm]
theorem Rs (hz:Bool) (l:List Int):r9 hz [] l=kS hz l:=by rw [Rr];simp
theorem Rq (c:aY) (ai:List V) (h:aj) (H:eg h c ai) (aK:c.t.length≤4611686018427387903) (g8:c.l.length≤4611686018427387903):bB Tryz.prog 123 [.agg ai] h fun x aa=>x=.bool (r8 c)∧Ext h aa:=by
 obtain ⟨aN,aP,aw,rfl,cU,dU,cw⟩:=H.open
 refine TY rfl (bP ?_)
 unfold KS
 have bZ:Ext h (h.new (.aq [.int .i64 c.k,.int .i64 c.x,.int .i64 c.n,.str c.s,aN,aP,aw] 0 false)):=(Ext.refl h).new _
 simp +contextual only [show ∀g:aj,qQ none g=.val (.map (ao g.next)) (g.new (.mp [] 0)) from fun g=>rfl,dU.len,↓ad,af,simprocAttr]
 refine fw (fun r aa=>Ext h aa∧aa.get (ao h.next)=.aq [.int .i64 c.k,.int .i64 c.x,.int .i64 c.n,.str c.s,aN,aP,aw] 0 false∧h.next+2≤aa.next∧r 1=.ptr (ao h.next) 0∧r 3=.map (ao (h.next+1))∧r 9=aP∧r 10=.int .i64 c.t.length∧
  ∃i:Nat,r 11=.int .i64 i∧i≤c.t.length∧aa.get (ao (h.next+1))=.mp (hC (c.t.take i) 0) (c.t.take i).length∧kS (decide (c.k=10)) c.t=r9 (decide (c.k=10)) (c.t.take i) (c.t.drop i)) (fun r aa=>c.t.length - (r 11).gn) ?_ ?_
 · refine ⟨(bZ.new _),?_,?_,by simp only [↓ad,bj,simprocAttr],by simp only [↓ad,bj,simprocAttr],by simp only [↓ad,bj,simprocAttr],by simp only [↓ad,bj,simprocAttr],0,by simp only [↓ad,bj,simprocAttr]<;>rfl,by omega,?_,?_⟩
   · simp only [↓ad,af,simprocAttr]
   · simp only [cO];omega
   · simp only [↓ad,af,simprocAttr];rfl
   · rw [List.take_zero,List.drop_zero,Rs]
 · rintro r aa ⟨az,ah,a7,aU,cj,h0,lR,i,kQ,aG,hm,cb⟩
   unfold KT
   by_cases aX:i<c.t.length
   · have bM:((i:Int) < (c.t.length:Int))=True:=eq_true (by omega)
     obtain ⟨b,o,b_,cD⟩:=ints_at (dU.ext az) (k:=.i64) aX
     rw [List.drop_eq_getElem_cons aX,r9] at cb
     have w:=gq aX (by omega)
     have lb:=acn hm c.t[i]
     have g3:(h.next=h.next+1)=False:=eq_false (by omega)
     have z8:(h.next+1=h.next)=False:=eq_false (by omega)
     have ko:=az.set (i:=h.next+1) (by omega) (.mp (hC (c.t.take i++[c.t[i]]) 0) (c.t.take i++[c.t[i]]).length)
     have mi:c.t.take (i+1)=c.t.take i++[c.t[i]]:=by rw [List.take_add_one,List.getElem?_eq_getElem aX];rfl
     have je:(aa.set (ao (h.next+1)) (.mp (hC (c.t.take i++[c.t[i]]) 0) (c.t.take i++[c.t[i]]).length)).get (ao h.next)=.aq [.int .i64 c.k,.int .i64 c.x,.int .i64 c.n,.str c.s,aN,aP,aw] 0 false:=by
      rw [du,if_neg (by rw [iH];omega)];exact ah
     have GR:(aa.set (ao (h.next+1)) (.mp (hC (c.t.take i++[c.t[i]]) 0) (c.t.take i++[c.t[i]]).length)).get (ao (h.next+1))=.mp (hC (c.t.take i++[c.t[i]]) 0) (c.t.take i++[c.t[i]]).length:=by
      rw [du,if_pos rfl]
     simp +contextual only [aU,cj,h0,lR,kQ,bM,b_,cD,↓ad,af,simprocAttr]
     refine iz (Jc _ _) ?_
     have Ov:(decide (-1073741824≤c.t[i])&&decide (c.t[i]≤1073741823))=o' c.t[i]:=rfl
     generalize ub:(if (decide (c.k=10))=true then o' c.t[i] else gC c.t[i])=e3 at cb
     have mV:e3=true→(c.t.take i).contains c.t[i]=false→kS (decide (c.k=10)) c.t=r9 (decide (c.k=10)) (c.t.take (i+1)) (c.t.drop (i+1)):=by
      intro aQ aB
      rw [cb,aQ,aB,mi];rfl
     have nZ:(!e3||(c.t.take i).contains c.t[i])=true→r8 c=false:=by
      intro q
      have:kS (decide (c.k=10)) c.t=false:=by
       rw [cb]
       revert q
       cases e3<;>cases (c.t.take i).contains c.t[i]<;>simp
      rw [r8,this,Bool.false_and]
     by_cases an:c.k=10
     · have km:=eq_true an
       have me:o' c.t[i]=e3:=by rw [←ub,if_pos (decide_eq_true an)]
       simp +contextual only [aU,cj,h0,lR,kQ,ah,km,Ov,me,lb,↓ad,af,simprocAttr]
       cases e3 with
       | false=>
         have vu:=nZ (by simp)
         simp +contextual only [aU,cj,h0,lR,kQ,vu,↓ad,af,simprocAttr]
         exact az
       | true=>
         cases aM:(c.t.take i).contains c.t[i] with
         | true=>
           have vu:=nZ (by rw [aM];rfl)
           simp +contextual only [aU,cj,h0,lR,kQ,lb,aM,vu,↓ad,af,simprocAttr]
           exact az
         | false=>
           have hu:=I' hm aM
           simp +contextual only [aU,cj,h0,lR,kQ,lb,aM,hu,w,↓ad,af,simprocAttr]
           exact ⟨⟨ko,ah,a7,⟨i+1,rfl,aX,by rw [mi],by have:=mV rfl aM;simpa only [km,decide_true,decide_false] using this⟩⟩,by omega⟩
     · have km:=eq_false an
       have me:gC c.t[i]=e3:=by rw [←ub,if_neg (by simp [an])]
       simp +contextual only [aU,cj,h0,lR,kQ,ah,km,Ov,me,lb,↓ad,af,simprocAttr]
       cases e3 with
       | false=>
         have vu:=nZ (by simp)
         simp +contextual only [aU,cj,h0,lR,kQ,vu,↓ad,af,simprocAttr]
         exact az
       | true=>
         cases aM:(c.t.take i).contains c.t[i] with
         | true=>
           have vu:=nZ (by rw [aM];rfl)
           simp +contextual only [aU,cj,h0,lR,kQ,lb,aM,vu,↓ad,af,simprocAttr]
           exact az
         | false=>
           have hu:=I' hm aM
           simp +contextual only [aU,cj,h0,lR,kQ,lb,aM,hu,w,↓ad,af,simprocAttr]
           exact ⟨⟨ko,ah,a7,⟨i+1,rfl,aX,by rw [mi],by have:=mV rfl aM;simpa only [km,decide_true,decide_false] using this⟩⟩,by omega⟩
   · have bM:((i:Int) < (c.t.length:Int))=False:=eq_false (by omega)
     rw [List.drop_eq_nil_of_le (by omega)] at cb
     have bW:=(cw.ext az).len
     have cr:=(dU.ext az).len
     have dw:IntKind.i64.wrap ((c.t.length:Int)+1)=(c.t.length:Int)+1:=by rw [wrap_i64 (by omega) (by omega)]
     simp +contextual only [aU,cj,h0,lR,kQ,bM,ah,bW,cr,dw,↓ad,af,simprocAttr]
     refine ⟨?_,az⟩
     rw [r8,cb]
     rfl
theorem adK {b:Bool} {c:aY} (h:fj c.k=none):c7 b c=false:=by simp [c7,h]
set_option maxHeartbeats 2000000 in
theorem Qa (b:Bool) (c:aY) (ai:List V) (h:aj) (H:eg h c ai) (ae:c.t.length≤4611686018427387903) (ak:c.l.length≤4611686018427387903) (aC:c.a.length≤4611686018427387903):
 bB Tryz.prog 61 [.agg ai,.bool b] h fun x aa=>x=.bool (c7 b c)∧Ext h aa:=by
 obtain ⟨aN,aP,aw,rfl,cU,dU,cw⟩:=H.open
 refine UO rfl (bP ?_)
 unfold L'
 simp +contextual only [↓ad,af,simprocAttr]
 refine aV (afF c.k _) ?_
 rintro x bF ⟨rfl,dj⟩
 have bZ:Ext h (h.new (.aq [.int .i64 c.k,.int .i64 c.x,.int .i64 c.n,.str c.s,aN,aP,aw] 0 false)):=(Ext.refl h).new _
 have az:=bZ.trans dj
 have ah:bF.get (ao h.next)=.aq [.int .i64 c.k,.int .i64 c.x,.int .i64 c.n,.str c.s,aN,aP,aw] 0 false:=by rw [dj.get _ (cZ (by rw [cO];omega)),gi]
 have aX:h.next<bF.next:=by have:=dj.next;rw [cO] at this;omega
 have dE:(bF.next=h.next)=False:=eq_false (by omega)
 have e6:(h.next=bF.next)=False:=eq_false (by omega)
 cases bd:fj c.k with
 | none=>
   have aT:=adK (b:=b) bd
   simp +contextual only [bd,aT,Option.getD,Option.isSome,jQ.enc,jQ.none,ah,dE,e6,↓ad,af,simprocAttr]
   exact (az.new _).set (by omega) _
 | some r=>
   obtain ⟨rx,r1,rs,rt,a0,bw,a8,bf⟩:=r
   have c':c7 b c=(gC c.x&&(rx||decide (c.x=0))&&(r1||b||decide (c.n=0))&&(rs||decide (c.s=[]))&&(rt||decide (c.t=[]))&&
    (sc c.a.length a0 bw&&sc c.l.length a8 bf&&gC c.n)&&
    (!(decide (c.k=5)&&decide (1024≤c.n))&&!(decide (c.k=3)&&!decide (eO c.s=c.a.length))&&(!rt||r8 c))&&c.a.all gS):=by
    simp only [c7,bd]
   have ait:(c.t=[])↔c.t.length=0:=by rw [List.length_eq_zero_iff]
   simp +contextual only [bd,Option.getD,Option.isSome,jQ.enc,ah,dE,e6,↓ad,af,simprocAttr]
   refine iz (Jc _ _) ?_
   cases aiv:gC c.x with
   | false=>
     have av:c7 b c=false:=by rw [c'];grind
     simp +contextual only [ah,dE,e6,av,↓ad,af,simprocAttr]
     exact (az.new _).set (by omega) _
   | true=>
   cases aQ:(!rx&&!decide (c.x=0)) with
   | true=>
     have av:c7 b c=false:=by rw [c'];grind
     simp +contextual only [ah,dE,e6,aQ,av,↓ad,af,simprocAttr]
     exact (az.new _).set (by omega) _
   | false=>
   cases aB:(!r1&&!b&&!decide (c.n=0)) with
   | true=>
     have av:c7 b c=false:=by rw [c'];grind
     simp +contextual only [ah,dE,e6,aQ,aB,av,↓ad,af,simprocAttr]
     exact (az.new _).set (by omega) _
   | false=>
   cases a':(!rs&&!decide (c.s=[])) with
   | true=>
     have av:c7 b c=false:=by rw [c'];grind
     simp +contextual only [ah,dE,e6,aQ,aB,a',av,↓ad,af,simprocAttr]
     exact (az.new _).set (by omega) _
   | false=>
   have zJ:=(dU.ext az).len
   cases cn:(!rt&&decide (0 < (c.t.length:Int))) with
   | true=>
     have av:c7 b c=false:=by rw [c'];grind
     simp +contextual only [ah,dE,e6,aQ,aB,a',cn,zJ,av,↓ad,af,simprocAttr]
     exact (az.new _).set (by omega) _
   | false=>
   have Xu:=(cU.ext az).len
   have hi:∀g eI:aj,Ext g eI→bF.next<g.next∧g.get (ao h.next)=.aq [.int .i64 c.k,.int .i64 c.x,.int .i64 c.n,.str c.s,aN,aP,aw] 0 false∧g.get (ao bF.next)=.aq [.bool rx,.bool r1,.bool rs,.bool rt,.int .i64 a0,.int .i64 bw,.int .i64 a8,.int .i64 bf] 0 false→
    bF.next<eI.next∧eI.get (ao h.next)=.aq [.int .i64 c.k,.int .i64 c.x,.int .i64 c.n,.str c.s,aN,aP,aw] 0 false∧eI.get (ao bF.next)=.aq [.bool rx,.bool r1,.bool rs,.bool rt,.int .i64 a0,.int .i64 bw,.int .i64 a8,.int .i64 bf] 0 false:=by
    rintro g eI e ⟨bQ,cB,fX⟩
    exact ⟨Nat.lt_of_lt_of_le bQ e.next,by rw [e.get _ (cZ (by omega))];exact cB,by rw [e.get _ (cZ bQ)];exact fX⟩
   simp +contextual only [ah,dE,e6,aQ,aB,a',cn,zJ,Xu,↓ad,af,simprocAttr]
   have s1:Ext h ((bF.new (cT.aq [V.bool false,V.bool false,V.bool false,V.bool false,V.int IntKind.i64 0,V.int IntKind.i64 0,V.int IntKind.i64 0,V.int IntKind.i64 0] 0 false)).set (ao bF.next) (.aq [.bool rx,.bool r1,.bool rs,.bool rt,.int .i64 a0,.int .i64 bw,.int .i64 a8,.int .i64 bf] 0 false)):=(az.new _).set (by omega) _
   have bQ:bF.next < ((bF.new (cT.aq [V.bool false,V.bool false,V.bool false,V.bool false,V.int IntKind.i64 0,V.int IntKind.i64 0,V.int IntKind.i64 0,V.int IntKind.i64 0] 0 false)).set (ao bF.next) (.aq [.bool rx,.bool r1,.bool rs,.bool rt,.int .i64 a0,.int .i64 bw,.int .i64 a8,.int .i64 bf] 0 false)).next∧((bF.new (cT.aq [V.bool false,V.bool false,V.bool false,V.bool false,V.int IntKind.i64 0,V.int IntKind.i64 0,V.int IntKind.i64 0,V.int IntKind.i64 0] 0 false)).set (ao bF.next) (.aq [.bool rx,.bool r1,.bool rs,.bool rt,.int .i64 a0,.int .i64 bw,.int .i64 a8,.int .i64 bf] 0 false)).get (ao h.next)=.aq [.int .i64 c.k,.int .i64 c.x,.int .i64 c.n,.str c.s,aN,aP,aw] 0 false∧((bF.new (cT.aq [V.bool false,V.bool false,V.bool false,V.bool false,V.int IntKind.i64 0,V.int IntKind.i64 0,V.int IntKind.i64 0,V.int IntKind.i64 0] 0 false)).set (ao bF.next) (.aq [.bool rx,.bool r1,.bool rs,.bool rt,.int .i64 a0,.int .i64 bw,.int .i64 a8,.int .i64 bf] 0 false)).get (ao bF.next)=.aq [.bool rx,.bool r1,.bool rs,.bool rt,.int .i64 a0,.int .i64 bw,.int .i64 a8,.int .i64 bf] 0 false:=by
    refine ⟨by rw [gU,cO];omega,?_,?_⟩
    · rw [du,if_neg (by rw [iH];omega),eB,if_neg (by rw [iH];omega)];exact ah
    · rw [du,if_pos rfl]
   generalize (bF.new (cT.aq [V.bool false,V.bool false,V.bool false,V.bool false,V.int IntKind.i64 0,V.int IntKind.i64 0,V.int IntKind.i64 0,V.int IntKind.i64 0] 0 false)).set (ao bF.next) (.aq [.bool rx,.bool r1,.bool rs,.bool rt,.int .i64 a0,.int .i64 bw,.int .i64 a8,.int .i64 bf] 0 false)=j0 at *
   refine aV (RV _ _ _ j0) ?_
   rintro x bz ⟨rfl,fM⟩
   obtain ⟨cB,dr,d2⟩:=hi j0 bz fM bQ
   have s2:=s1.trans fM
   have XB:=(cw.ext s2).len
   cases dL:sc (c.a.length:Int) a0 bw with
   | false=>
     have av:c7 b c=false:=by rw [c'];grind
     simp +contextual only [dr,d2,dE,e6,dL,av,↓ad,af,simprocAttr]
     exact s2
   | true=>
   simp +contextual only [dr,d2,dE,e6,dL,XB,↓ad,af,simprocAttr]
   refine aV (RV _ _ _ bz) ?_
   rintro x cL ⟨rfl,qJ⟩
   obtain ⟨fX,iM,d3⟩:=hi bz cL qJ ⟨cB,dr,d2⟩
   have iu:=s2.trans qJ
   cases dw:sc (c.l.length:Int) a8 bf with
   | false=>
     have av:c7 b c=false:=by rw [c'];grind
     simp +contextual only [iM,d3,dE,e6,dw,av,↓ad,af,simprocAttr]
     exact iu
   | true=>
   simp +contextual only [iM,d3,dE,e6,dw,↓ad,af,simprocAttr]
   refine iz (Jc _ _) ?_
   cases Zp:gC c.n with
   | false=>
     have av:c7 b c=false:=by rw [c'];grind
     simp +contextual only [iM,d3,dE,e6,av,↓ad,af,simprocAttr]
     exact iu
   | true=>
   have CE:=(cU.ext iu).len
   cases hF:(decide (c.k=5)&&decide (1024≤c.n)) with
   | true=>
     have av:c7 b c=false:=by rw [c'];grind
     simp +contextual only [iM,d3,dE,e6,hF,av,↓ad,af,simprocAttr]
     exact iu
   | false=>
   by_cases rC:c.k=3
   · have zX:=eq_true rC
     have GK:(c.k=5)=False:=eq_false (by omega)
     simp +contextual only [iM,d3,dE,e6,zX,GK,CE,↓ad,af,simprocAttr]
     refine aV (ad0 cL) ?_
     rintro x gy ⟨rfl,Yt,Hr⟩
     have lb:=aco Yt c.s
     obtain ⟨jJ,tP,d4⟩:=hi cL gy Hr ⟨fX,iM,d3⟩
     have pk:=iu.trans Hr
     have NZ:=(cU.ext pk).len
     have WS:=Hr.next
     by_cases OM:eO c.s=c.a.length
     · have Hj:=eq_true OM
       simp +contextual only [iM,d3,tP,d4,dE,e6,zX,GK,CE,NZ,lb,Hj,Fb,↓ad,af,simprocAttr]
       cases rt with
       | false=>
         simp +contextual only [tP,d4,dE,e6,↓ad,af,simprocAttr]
         refine aV (Cd c.a aN gy (cU.ext pk) (by omega)) ?_
         rintro x ik ⟨rfl,sW⟩
         have av:c7 b c=c.a.all gS:=by rw [c'];grind
         simp +contextual only [av,Bool.not_not,↓ad,af,simprocAttr]
         exact (pk).trans sW
       | true=>
         simp +contextual only [tP,d4,dE,e6,↓ad,af,simprocAttr]
         refine aV (Rq c _ gy (H.ext pk) ae ak) ?_
         rintro x ik ⟨rfl,sW⟩
         obtain ⟨o4,sB,d5⟩:=hi gy ik sW ⟨by have:=fX;have:=WS;omega,tP,d4⟩
         have p9:=(pk).trans sW
         cases Y_:r8 c with
         | false=>
           have av:c7 b c=false:=by rw [c'];grind
           simp +contextual only [sB,d5,dE,e6,av,↓ad,af,simprocAttr]
           exact p9
         | true=>
           simp +contextual only [sB,d5,dE,e6,↓ad,af,simprocAttr]
           refine aV (Cd c.a aN ik (cU.ext p9) (by omega)) ?_
           rintro x oS ⟨rfl,Hs⟩
           have av:c7 b c=c.a.all gS:=by rw [c'];grind
           simp +contextual only [av,Bool.not_not,↓ad,af,simprocAttr]
           exact p9.trans Hs
     · have Hj:=eq_false OM
       have av:c7 b c=false:=by rw [c'];grind
       simp +contextual only [iM,d3,tP,d4,dE,e6,zX,GK,CE,NZ,lb,Hj,av,Fb,↓ad,af,simprocAttr]
       exact pk
   · have zX:=eq_false rC
     have WR:=qJ.next
     simp +contextual only [iM,d3,dE,e6,hF,zX,CE,Fb,↓ad,af,simprocAttr]
     cases rt with
     | false=>
       simp +contextual only [iM,d3,dE,e6,↓ad,af,simprocAttr]
       refine aV (Cd c.a aN cL (cU.ext iu) (by omega)) ?_
       rintro x ik ⟨rfl,sW⟩
       have av:c7 b c=c.a.all gS:=by rw [c'];grind
       simp +contextual only [av,Bool.not_not,↓ad,af,simprocAttr]
       exact (iu).trans sW
     | true=>
       simp +contextual only [iM,d3,dE,e6,↓ad,af,simprocAttr]
       refine aV (Rq c _ cL (H.ext iu) ae ak) ?_
       rintro x ik ⟨rfl,sW⟩
       obtain ⟨o4,sB,d5⟩:=hi cL ik sW ⟨by have:=fX;have:=WR;omega,iM,d3⟩
       have p9:=(iu).trans sW
       cases Y_:r8 c with
       | false=>
         have av:c7 b c=false:=by rw [c'];grind
         simp +contextual only [sB,d5,dE,e6,av,↓ad,af,simprocAttr]
         exact p9
       | true=>
         simp +contextual only [sB,d5,dE,e6,↓ad,af,simprocAttr]
         refine aV (Cd c.a aN ik (cU.ext p9) (by omega)) ?_
         rintro x oS ⟨rfl,Hs⟩
         have av:c7 b c=c.a.all gS:=by rw [c'];grind
         simp +contextual only [av,Bool.not_not,↓ad,af,simprocAttr]
         exact p9.trans Hs
theorem ac3 {c:aY} {u:List V} {g:aj} {r:Bool} (H:eg g c u) (aD:∀eI,Ext g eI→bB Tryz.prog 44 [.agg u] eI fun x aa=>x=.bool r∧Ext eI aa):bB Tryz.prog 63 [.agg u] g fun x aa=>x=.bool (!r)∧Ext g aa:=by
 refine UQ rfl (bP ?_)
 unfold Ma
 obtain ⟨aN,aP,aw,rfl,_⟩:=H.open
 simp +contextual only [↓ad,af,simprocAttr]
 have bZ:=(Ext.refl g).new (.aq [.int .i64 c.k,.int .i64 c.x,.int .i64 c.n,.str c.s,aN,aP,aw] 0 false)
 refine aV (aD _ bZ) ?_
 rintro x ae ⟨rfl,dj⟩
 simp +contextual only [↓ad,af,simprocAttr]
 exact bZ.trans dj
theorem ZO (l:List aY) (v:V) (h:aj) (H:jn h l v) (aK:l.length≤4611686018427387904)
 (aD:∀(i:Nat) (c:aY) (g:aj) (u:List V),l[i]? =some c→Ext h g→eg g c u→bB Tryz.prog 44 [.agg u] g fun x aa=>x=.bool (may c7 c)∧Ext g aa):
 bB Tryz.prog 127 [v,.func 63 []] h fun x aa=>(∃i:Int,x=.int .i64 i∧decide (0≤i)=!iP c7 l)∧Ext h aa:=by
 refine T2 rfl (bP ?_)
 unfold KX
 simp +contextual only [H.len,↓ad,af,simprocAttr]
 refine fw (fun r aa=>Ext h aa∧r 0=v∧r 1=.func 63 []∧r 7=.int .i64 l.length∧∃i:Nat,r 8=.int .i64 i∧i≤l.length∧iP c7 l=iP c7 (l.drop i)) (fun r aa=>l.length - (r 8).gn) ?_ ?_
 · exact ⟨Ext.refl h,by simp only [↓ad,bj,simprocAttr],by simp only [↓ad,bj,simprocAttr],by simp only [↓ad,bj,simprocAttr],0,by simp only [↓ad,bj,simprocAttr]<;>rfl,by omega,rfl⟩
 · rintro r aa ⟨az,bl,aU,fr,i,hZ,aG,cb⟩
   unfold KY
   by_cases aX:i<l.length
   · have bM:((i:Int) < (l.length:Int))=True:=eq_true (by omega)
     obtain ⟨b,o,u,b_,hu,cD,_⟩:=(H.ext az).at (k:=.i64) aX
     rw [List.drop_eq_getElem_cons aX,iP] at cb
     have w:=gq aX aK
     simp +contextual only [bl,aU,fr,hZ,bM,b_,cD,↓ad,af,simprocAttr]
     refine aV (ac3 hu fun eI bp=>aD i l[i] eI u (List.getElem?_eq_getElem aX) (az.trans bp) (hu.ext bp)) ?_
     rintro x ae ⟨rfl,dj⟩
     cases bU:may c7 l[i] with
     | true=>
       simp +contextual only [bl,aU,fr,hZ,w,↓ad,af,simprocAttr]
       exact ⟨⟨az.trans dj,⟨i+1,rfl,aX,by rw [cb,bU,Bool.true_and]⟩⟩,by omega⟩
     | false=>
       simp +contextual only [bl,aU,fr,hZ,w,↓ad,af,simprocAttr]
       refine ⟨⟨i,rfl,?_⟩,az.trans dj⟩
       rw [cb,bU]
       simp
   · have bM:((i:Int) < (l.length:Int))=False:=eq_false (by omega)
     rw [List.drop_eq_nil_of_le (by omega)] at cb
     simp +contextual only [bl,aU,fr,hZ,bM,↓ad,af,simprocAttr]
     exact ⟨⟨-1,rfl,by rw [cb];rfl⟩,az⟩
theorem V3 (l:List aY) (v:V) (h:aj) (H:jn h l v) (aK:l.length≤4611686018427387904)
 (aD:∀(i:Nat) (c:aY) (g:aj) (u:List V),l[i]? =some c→Ext h g→eg g c u→bB Tryz.prog 44 [.agg u] g fun x aa=>x=.bool (may c7 c)∧Ext g aa):
 bB Tryz.prog 62 [v,.func 63 []] h fun x aa=>x=.bool (!iP c7 l)∧Ext h aa:=by
 refine UP rfl (bP ?_)
 unfold L_
 simp +contextual only [↓ad,af,simprocAttr]
 refine aV (ZO l v h H aK aD) ?_
 rintro x ae ⟨⟨i,rfl,aG⟩,dj⟩
 simp +contextual only [aG,↓ad,af,simprocAttr]
 exact dj
mutual
def fit (m:Nat):aY→Prop
 | .mk k x n s a t l=>s.length≤m∧a.length≤m∧t.length≤m∧l.length≤m∧(∀q ∈ a,q.s.length≤m)∧fits m l
def fits (m:Nat):List aY→Prop
 | []=>True
 | c::cs=>fit m c∧fits m cs
end
theorem ns {m:Nat}:∀{l:List aY} {i:Nat} {c:aY},fits m l→l[i]? =some c→fit m c
 | [],_,_,_,h=>by simp at h
 | d::l,0,c,av,h=>by simp only [List.getElem?_cons_zero,Option.some.injEq] at h;subst h;exact av.1
 | d::l,i+1,c,av,h=>ns av.2 (by simpa using h)
theorem fit.kids {m:Nat} {c:aY} (h:fit m c):c.s.length≤m∧c.a.length≤m∧c.t.length≤m∧c.l.length≤m∧fits m c.l:=by
 cases c
 exact ⟨h.1,h.2.1,h.2.2.1,h.2.2.2.1,h.2.2.2.2.2⟩
mutual
theorem Nx {m k:Nat} (hm:m≤k):∀c:aY,fit m c→Co k c
 | .mk _ _ _ _ _ _ l,h=>⟨Nat.le_trans h.2.2.2.1 hm,Ny hm l h.2.2.2.2.2⟩
theorem Ny {m k:Nat} (hm:m≤k):∀l:List aY,fits m l→xz k l
 | [],_=>trivial
 | c::cs,h=>⟨Nx hm c h.1,Ny hm cs h.2⟩
end
theorem oq {l:List aY} {i:Nat} {c:aY} (h:l[i]? =some c):size c≤na l:=DW (List.mem_of_getElem? h)
theorem p' (c:aY):size c=1+na c.l:=by cases c;rfl
theorem adO {c:aY} (c9:c.k=7) (h:c7 true c=true):c.l.length=1:=by
 have:ej true c=true:=by rw [←Qb,h,decide_eq_true c9];rfl
 simp only [ej,if_true,jF,Bool.and_eq_true] at this
 exact of_decide_eq_true this.2
theorem acz (c:aY) (h:0<c.l.length):lJ c7 c=may c7 c.l[0]:=by
 obtain ⟨k,x,n,s,a,t,l⟩:=c
 cases l with
 | nil=>simp [aY.l] at h
 | cons d l=>simp only [lJ,qR,aY.l,List.getElem_cons_zero]
theorem PA {own:Bool→aY→Bool} {c:aY} (h:c.k≠8):may own c=(own false c&&iP own c.l):=by
 obtain ⟨k,x,n,s,a,t,l⟩:=c
 simp only [aY.k] at h
 rw [may,if_neg h]
 rfl
theorem Pz {own:Bool→aY→Bool} {c:aY} (h:c.k=8):may own c=(tL c&&decide (2≤c.l.length)&&hN own c.l):=by
 obtain ⟨k,x,n,s,a,t,l⟩:=c
 simp only [aY.k] at h
 rw [may,if_pos h]
 rfl
theorem Pw {own:Bool→aY→Bool} {l:List aY} {i:Nat} (h:i+1<l.length):hN own (l.drop i)=((decide (l[i].k=7)&&own true l[i])&&lJ own l[i]&&hN own (l.drop (i+1))):=by
 rw [List.drop_eq_getElem_cons (by omega),List.drop_eq_getElem_cons h]
 rw [hN]
theorem Px {own:Bool→aY→Bool} {l:List aY} {i:Nat} (h:i+1=l.length):hN own (l.drop i)=may own (l[i]'(by omega)):=by
 rw [List.drop_eq_getElem_cons (by omega),List.drop_eq_nil_of_le (by omega)]
 rw [hN]
set_option maxHeartbeats 2000000 in
theorem H0:∀(N:Nat) (c:aY),size c≤N→fit 1048576 c→∀(ai:List V) (h:aj),eg h c ai→bB Tryz.prog 44 [.agg ai] h fun x aa=>x=.bool (may c7 c)∧Ext h aa
 | 0,c,aM,_,_,_,_=>by have:=size_pos c;omega
 | N+1,c,aM,av,ai,h,H=>by
   obtain ⟨f1,f2,f3,f4,f5⟩:=av.kids
   have m1:=p' c
   have et:∀(i:Nat) (d:aY) (g:aj) (u:List V),c.l[i]? =some d→Ext h g→eg g d u→bB Tryz.prog 44 [.agg u] g fun x aa=>x=.bool (may c7 d)∧Ext g aa:=
    fun i d g u aG bp hu=>H0 N d (by have:=oq aG;omega) (ns f5 aG) u g hu
   obtain ⟨aN,aP,aw,rfl,cU,dU,cw⟩:=H.open
   refine UD rfl (bP ?_)
   unfold LN
   have bZ:Ext h (h.new (.aq [.int .i64 c.k,.int .i64 c.x,.int .i64 c.n,.str c.s,aN,aP,aw] 0 false)):=(Ext.refl h).new _
   by_cases an:c.k=8
   · have ef:=eq_true an
     have dC:=(cU.ext bZ).len
     have cr:=(dU.ext bZ).len
     have bW:=(cw.ext bZ).len
     have eC:=Pz (own:=c7) an
     by_cases gO:c.l.length=0
     · have av:may c7 c=false:=by rw [eC,gO];simp
       have aZ:IntKind.i64.wrap (((0:Nat):Int)-1)=-1:=by rw [wrap_i64 (by omega) (by omega)];rfl
       have t0:((-1:Int)<1)=True:=eq_true (by decide)
       rw [gO] at bW
       simp +contextual only [ef,dC,cr,bW,aZ,t0,av,Bool.or_true,↓ad,bj,cW.ends,fb,oneOf,top,↓reduceIte,Nat.reduceEqDiff,Nat.reduceLeDiff,Nat.reduceAdd,Nat.reduceSub,Nat.reduceMul,reduceCtorEq,Int.reduceEq,Int.reduceLT,Int.reduceLE,Int.reduceNeg]
       exact bZ
     have aZ:IntKind.i64.wrap ((c.l.length:Int)-1)=((c.l.length-1:Nat):Int):=by rw [wrap_i64 (by omega) (by omega)];omega
     cases nZ:(!decide (c.x=0)||!decide (c.n=0)||!decide (c.s=[])||decide (0 < (c.t.length:Int))||decide (0 < (c.a.length:Int))||decide (((c.l.length-1:Nat):Int)<1)) with
     | true=>
       have av:may c7 c=false:=by
        rw [eC]
        have aI:(c.t=[])↔c.t.length=0:=by rw [List.length_eq_zero_iff]
        have bh:(c.a=[])↔c.a.length=0:=by rw [List.length_eq_zero_iff]
        simp only [tL]
        grind
       simp +contextual only [ef,dC,cr,bW,aZ,nZ,av,↓ad,bj,cW.ends,fb,oneOf,top,↓reduceIte,Nat.reduceEqDiff,Nat.reduceLeDiff,Nat.reduceAdd,Nat.reduceSub,Nat.reduceMul,reduceCtorEq,Int.reduceEq,Int.reduceLT,Int.reduceLE,Int.reduceNeg]
       exact bZ
     | false=>
       have me:may c7 c=hN c7 c.l:=by
        rw [eC]
        have aI:(c.t=[])↔c.t.length=0:=by rw [List.length_eq_zero_iff]
        have bh:(c.a=[])↔c.a.length=0:=by rw [List.length_eq_zero_iff]
        simp only [tL]
        grind
       have hlen:2≤c.l.length:=by
        have:¬(((c.l.length-1:Nat):Int)<1):=by
         intro q
         rw [decide_eq_true q,Bool.or_true] at nZ
         cases nZ
        omega
       obtain ⟨dg,FK,zp⟩:=(cw.ext bZ).cut (k:=.i64) (m:=c.l.length-1) (by omega)
       have zI:=zp.len
       rw [List.length_take,Nat.min_eq_left (Nat.sub_le _ _)] at zI
       simp +contextual only [ef,dC,cr,bW,aZ,nZ,FK,zI,↓ad,bj,cW.ends,fb,oneOf,top,↓reduceIte,Nat.reduceEqDiff,Nat.reduceLeDiff,Nat.reduceAdd,Nat.reduceSub,Nat.reduceMul,reduceCtorEq,Int.reduceEq,Int.reduceLT,Int.reduceLE,Int.reduceNeg]
       refine fw (fun r aa=>Ext h aa∧aa.get (ao h.next)=.aq [.int .i64 c.k,.int .i64 c.x,.int .i64 c.n,.str c.s,aN,aP,aw] 0 false∧h.next<aa.next∧r 1=.ptr (ao h.next) 0∧r 3=.int .i64 ((c.l.length-1:Nat):Int)∧r 52=dg∧r 53=.int .i64 ((c.l.length-1:Nat):Int)∧
        ∃i:Nat,r 54=.int .i64 i∧i≤c.l.length-1∧hN c7 c.l=hN c7 (c.l.drop i)) (fun r aa=>c.l.length - (r 54).gn) ?_ ?_
       · exact ⟨bZ,by simp only [↓ad,bj,↓reduceIte,Nat.reduceEqDiff,reduceCtorEq],by rw [cO];omega,by simp only [↓ad,bj,↓reduceIte,Nat.reduceEqDiff,reduceCtorEq],by simp only [↓ad,bj,↓reduceIte,Nat.reduceEqDiff,reduceCtorEq],by simp only [↓ad,bj,↓reduceIte,Nat.reduceEqDiff,reduceCtorEq],by simp only [↓ad,bj,↓reduceIte,Nat.reduceEqDiff,reduceCtorEq],0,by simp only [↓ad,bj,↓reduceIte,Nat.reduceEqDiff,reduceCtorEq]<;>rfl,by omega,rfl⟩
       · rintro r aa ⟨az,ah,a7,aU,cj,ph,DF,i,DG,aG,cb⟩
         unfold LO
         by_cases aX:i<c.l.length-1
         · have bM:((i:Int) < ((c.l.length-1:Nat):Int))=True:=eq_true (by omega)
           have kJ:i<c.l.length:=by omega
           have xQ:i < (c.l.take (c.l.length-1)).length:=by rw [List.length_take];omega
           have Wm:Ext (h.new (.aq [.int .i64 c.k,.int .i64 c.x,.int .i64 c.n,.str c.s,aN,aP,aw] 0 false)) aa:=⟨by rw [cO];omega,fun b eF=>by
            by_cases q:b=ao h.next
            · subst q;rw [ah,gi]
            · have bD:Old h b:=by
               unfold Old at eF ⊢
               rw [cO] at eF
               have:cu b≠h.next:=fun e=>q (by rw [←e,adT])
               omega
              rw [az.get _ bD,eB,if_neg (fun e=>q e.symm)]⟩
           obtain ⟨b,o,u,b_,hu,cD,_⟩:=(zp.ext Wm).at (k:=.i64) xQ
           rw [List.getElem_take] at hu
           rw [Pw (by omega)] at cb
           generalize rB:c.l[i]=f at *
           have g1:c.l[i]? =some f:=by rw [List.getElem?_eq_getElem kJ,rB]
           obtain ⟨c2,gx,cC,rfl,nc,nd,l1⟩:=hu.open
           have w:=gq kJ (by omega)
           have Ww:=ns f5 g1
           obtain ⟨Wx,Wy,Wz,WA,FW⟩:=Ww.kids
           have dz:=nc.one.1
           have fi:=nd.one.1
           have gz:=l1.one.1
           have Ay:(aa.next=h.next)=False:=eq_false (by omega)
           have Az:(h.next=aa.next)=False:=eq_false (by omega)
           by_cases c9:f.k=7
           · have Gd:=eq_true c9
             simp +contextual only [aU,cj,ph,DF,DG,bM,b_,cD,Gd,dz,fi,gz,Bool.and_self,↓ad,bj,cW.ends,fb,oneOf,top,↓reduceIte,Nat.reduceEqDiff,Nat.reduceLeDiff,Nat.reduceAdd,Nat.reduceSub,Nat.reduceMul,reduceCtorEq,Int.reduceEq,Int.reduceLT,Int.reduceLE,Int.reduceNeg]
             have dj:Ext aa ((aa.new (.aq [.int .i64 0,.int .i64 0,.int .i64 0,.str [],.ay,.ay,.ay] 0 false)).set (ao aa.next) (.aq [.int .i64 f.k,.int .i64 f.x,.int .i64 f.n,.str f.s,c2,gx,cC] 0 false)):=((Ext.refl aa).new _).set (Nat.le_refl _) _
             have hD:((aa.new (.aq [.int .i64 0,.int .i64 0,.int .i64 0,.str [],.ay,.ay,.ay] 0 false)).set (ao aa.next) (.aq [.int .i64 f.k,.int .i64 f.x,.int .i64 f.n,.str f.s,c2,gx,cC] 0 false)).get (ao aa.next)=.aq [.int .i64 f.k,.int .i64 f.x,.int .i64 f.n,.str f.s,c2,gx,cC] 0 false:=by rw [du,if_pos rfl]
             have qv:((aa.new (.aq [.int .i64 0,.int .i64 0,.int .i64 0,.str [],.ay,.ay,.ay] 0 false)).set (ao aa.next) (.aq [.int .i64 f.k,.int .i64 f.x,.int .i64 f.n,.str f.s,c2,gx,cC] 0 false)).next=aa.next+1:=by rw [gU,cO]
             generalize ((aa.new (.aq [.int .i64 0,.int .i64 0,.int .i64 0,.str [],.ay,.ay,.ay] 0 false)).set (ao aa.next) (.aq [.int .i64 f.k,.int .i64 f.x,.int .i64 f.n,.str f.s,c2,gx,cC] 0 false))=j0 at *
             refine aV (Qa true f _ j0 (hu.ext dj) (by omega) (by omega) (by omega)) ?_
             rintro x bz ⟨rfl,fM⟩
             have C0:=dj.trans fM
             have t':bz.get (ao aa.next)=.aq [.int .i64 f.k,.int .i64 f.x,.int .i64 f.n,.str f.s,c2,gx,cC] 0 false:=by rw [fM.get _ (cZ (by omega))];exact hD
             have je:bz.get (ao h.next)=.aq [.int .i64 c.k,.int .i64 c.x,.int .i64 c.n,.str c.s,aN,aP,aw] 0 false:=by rw [C0.get _ (cZ (by omega))];exact ah
             cases bD:c7 true f with
             | false=>
               have nx:may c7 c=false:=by rw [me,cb,bD,Bool.and_false,Bool.false_and,Bool.false_and]
               simp +contextual only [t',nx,Ay,Az,↓ad,bj,cW.ends,fb,oneOf,top,↓reduceIte,Nat.reduceEqDiff,Nat.reduceLeDiff,Nat.reduceAdd,Nat.reduceSub,Nat.reduceMul,reduceCtorEq,Int.reduceEq,Int.reduceLT,Int.reduceLE,Int.reduceNeg]
               exact az.trans C0
             | true=>
               have e4:=adO c9 bD
               obtain ⟨b1,dP,iQ,jf,fL,qM,_⟩:=(l1.ext C0).at (k:=.i64) (i:=0) (by omega)
               have hh:f.l[0]? =some f.l[0]:=List.getElem?_eq_getElem (by omega)
               have b7:fc 7 cC (.int .i64 0)=some (.ptr b1 dP):=by simpa using jf
               have b2:jv 7 (bz.get b1) dP=some (.agg iQ):=by simpa using qM
               simp +contextual only [t',Ay,Az,b7,b2,↓ad,bj,cW.ends,fb,oneOf,top,↓reduceIte,Nat.reduceEqDiff,Nat.reduceLeDiff,Nat.reduceAdd,Nat.reduceSub,Nat.reduceMul,reduceCtorEq,Int.reduceEq,Int.reduceLT,Int.reduceLE,Int.reduceNeg]
               refine aV (H0 N f.l[0] (by have:=oq g1;have:=oq hh;have:=p' f;omega) (ns FW hh) iQ bz fL) ?_
               rintro x cL ⟨rfl,qJ⟩
               have C1:=C0.trans qJ
               rw [acz f (by omega)] at cb
               cases hm:may c7 f.l[0] with
               | false=>
                 have nx:may c7 c=false:=by rw [me,cb,hm,Bool.and_false,Bool.false_and]
                 simp +contextual only [nx,↓ad,bj,cW.ends,fb,oneOf,top,↓reduceIte,Nat.reduceEqDiff,Nat.reduceLeDiff,Nat.reduceAdd,Nat.reduceSub,Nat.reduceMul,reduceCtorEq,Int.reduceEq,Int.reduceLT,Int.reduceLE,Int.reduceNeg]
                 exact az.trans C1
               | true=>
                 simp +contextual only [aU,cj,ph,DF,DG,w,↓ad,bj,cW.ends,fb,oneOf,top,↓reduceIte,Nat.reduceEqDiff,Nat.reduceLeDiff,Nat.reduceAdd,Nat.reduceSub,Nat.reduceMul,reduceCtorEq,Int.reduceEq,Int.reduceLT,Int.reduceLE,Int.reduceNeg]
                 exact ⟨⟨az.trans C1,by rw [C1.get _ (cZ (by omega))];exact ah,by have:=C1.next;omega,⟨i+1,rfl,by omega,by rw [cb,decide_eq_true c9,bD,hm];rfl⟩⟩,by omega⟩
           · have Gd:=eq_false c9
             have nx:may c7 c=false:=by rw [me,cb,decide_eq_false c9];rfl
             simp +contextual only [aU,cj,ph,DF,DG,bM,b_,cD,Gd,nx,dz,fi,gz,Bool.and_self,↓ad,bj,cW.ends,fb,oneOf,top,↓reduceIte,Nat.reduceEqDiff,Nat.reduceLeDiff,Nat.reduceAdd,Nat.reduceSub,Nat.reduceMul,reduceCtorEq,Int.reduceEq,Int.reduceLT,Int.reduceLE,Int.reduceNeg]
             exact (az.new _).set (i:=aa.next) (by have:=az.next;omega) _
         · have bM:((i:Int) < ((c.l.length-1:Nat):Int))=False:=eq_false (by omega)
           obtain rfl:i=c.l.length-1:=by omega
           obtain ⟨b,o,u,b_,hu,cD,_⟩:=(cw.ext az).at (k:=.i64) (i:=c.l.length-1) (by omega)
           simp +contextual only [aU,cj,ph,DF,DG,bM,ah,b_,cD,↓ad,bj,cW.ends,fb,oneOf,top,↓reduceIte,Nat.reduceEqDiff,Nat.reduceLeDiff,Nat.reduceAdd,Nat.reduceSub,Nat.reduceMul,reduceCtorEq,Int.reduceEq,Int.reduceLT,Int.reduceLE,Int.reduceNeg]
           refine aV (et (c.l.length-1) _ aa u (List.getElem?_eq_getElem (by omega)) az hu) ?_
           rintro x bz ⟨rfl,fM⟩
           have nx:may c7 c=may c7 (c.l[c.l.length-1]'(by omega)):=by rw [me,cb,Px (by omega)]
           simp +contextual only [nx,↓ad,bj,cW.ends,fb,oneOf,top,↓reduceIte,Nat.reduceEqDiff,Nat.reduceLeDiff,Nat.reduceAdd,Nat.reduceSub,Nat.reduceMul,reduceCtorEq,Int.reduceEq,Int.reduceLT,Int.reduceLE,Int.reduceNeg]
           exact az.trans fM
   · have ef:=eq_false an
     simp +contextual only [ef,↓ad,bj,cW.ends,fb,oneOf,top,↓reduceIte,Nat.reduceEqDiff,Nat.reduceLeDiff,Nat.reduceAdd,Nat.reduceSub,Nat.reduceMul,reduceCtorEq,Int.reduceEq,Int.reduceLT,Int.reduceLE,Int.reduceNeg]
     refine aV (Qa false c _ _ (H.ext bZ) (by omega) (by omega) (by omega)) ?_
     rintro x bF ⟨rfl,dj⟩
     have az:=bZ.trans dj
     have ah:bF.get (ao h.next)=.aq [.int .i64 c.k,.int .i64 c.x,.int .i64 c.n,.str c.s,aN,aP,aw] 0 false:=by rw [dj.get _ (cZ (by rw [cO];omega)),gi]
     rw [PA an]
     cases bD:c7 false c with
     | false=>
       simp +contextual only [Bool.false_and,↓ad,bj,cW.ends,fb,oneOf,top,↓reduceIte,Nat.reduceEqDiff,Nat.reduceLeDiff,Nat.reduceAdd,Nat.reduceSub,Nat.reduceMul,reduceCtorEq,Int.reduceEq,Int.reduceLT,Int.reduceLE,Int.reduceNeg]
       exact az
     | true=>
       simp +contextual only [ah,↓ad,bj,cW.ends,fb,oneOf,top,↓reduceIte,Nat.reduceEqDiff,Nat.reduceLeDiff,Nat.reduceAdd,Nat.reduceSub,Nat.reduceMul,reduceCtorEq,Int.reduceEq,Int.reduceLT,Int.reduceLE,Int.reduceNeg]
       refine aV (V3 c.l aw bF (cw.ext az) (by omega) fun i d g u aG bp hu=>et i d g u aG (az.trans bp) hu) ?_
       rintro x bz ⟨rfl,fM⟩
       simp +contextual only [Bool.not_not,Bool.true_and,↓ad,bj,cW.ends,fb,oneOf,top,↓reduceIte,Nat.reduceEqDiff,Nat.reduceLeDiff,Nat.reduceAdd,Nat.reduceSub,Nat.reduceMul,reduceCtorEq,Int.reduceEq,Int.reduceLT,Int.reduceLE,Int.reduceNeg]
       exact az.trans fM
theorem wI (n:Int) (h:aj):lr Tryz.prog 130 [.int .i64 n] h (.bool (gC n)) h:=by
 refine te (T4 rfl (bP ?_))
 unfold K1
 simp +contextual only [↓ad,af,simprocAttr]
 rfl
theorem QW (n:Int) (h:aj):lr Tryz.prog 163 [.int .i64 n] h (.bool (o' n)) h:=by
 refine te (Um rfl (bP ?_))
 unfold Lq
 simp +contextual only [↓ad,af,simprocAttr]
 rfl
theorem aek (a:At) (h:aj):bB Tryz.prog 162 [.agg a.enc] h fun x aa=>x=.bool (gS a)∧Ext h aa:=by
 obtain ⟨k,n,s⟩:=a
 refine Ul rfl (bP ?_)
 unfold Lp
 have az:Ext h (h.new (.aq (At.enc ⟨k,n,s⟩) 0 false)):=(Ext.refl h).new _
 have he:At.enc ⟨k,n,s⟩=[.int .i64 k,.int .i64 n,.str s]:=rfl
 rw [he] at az ⊢
 by_cases ae:k=1
 · subst ae
   simp +contextual only [↓ad,af,simprocAttr]
   refine iz (wI _ _) ?_
   simp +contextual only [↓ad,af,simprocAttr]
   refine ⟨?_,az⟩
   simp [gS]
 by_cases ak:k=2
 · subst ak
   simp +contextual only [↓ad,af,simprocAttr]
   refine iz (QW _ _) ?_
   simp +contextual only [↓ad,af,simprocAttr]
   refine ⟨?_,az⟩
   simp [gS]
 by_cases aC:k=3
 · subst aC
   simp +contextual only [↓ad,af,simprocAttr]
   refine ⟨?_,az⟩
   simp [gS]
   congr 1
   rw [decide_eq_decide]
   omega
 · have dN:=eq_false ae
   have k6:=eq_false ak
   have k7:=eq_false aC
   simp +contextual only [dN,k6,k7,↓ad,af,simprocAttr]
   refine ⟨?_,az⟩
   simp [gS,ae,ak,aC]
theorem uP (l:List At) (n:Int) (v:V) (h:aj) (H:cg h 3 v l.length (iX l)) (aK:l.length≤4611686018427387904):
 bB Tryz.prog 131 [v,.int .i64 n] h fun x aa=>x=.bool (ih l n)∧Ext h aa:=by
 refine T5 rfl (bP ?_)
 unfold K2
 simp +contextual only [↓ad,af,simprocAttr]
 refine fw (fun r aa=>Ext h aa∧r 0=v∧r 1=.int .i64 n∧∃i:Nat,r 5=.int .i64 i∧i≤l.length∧l.all gS=(l.drop i).all gS) (fun r aa=>l.length - (r 5).gn) ?_ ?_
 · exact ⟨Ext.refl h,by simp only [↓ad,bj,simprocAttr],by simp only [↓ad,bj,simprocAttr],0,by simp only [↓ad,bj,simprocAttr]<;>rfl,by omega,rfl⟩
 · rintro r aa ⟨az,bl,aU,i,e7,aG,cb⟩
   unfold K3
   have bW:=(H.ext az).len
   by_cases aX:i<l.length
   · have bM:((i:Int) < (l.length:Int))=True:=eq_true (by omega)
     obtain ⟨b,o,b_,cD,_⟩:=sy (H.ext az) (k:=.i64) aX
     rw [List.drop_eq_getElem_cons aX,List.all_cons] at cb
     have w:=gq aX aK
     simp +contextual only [bl,aU,e7,bW,bM,b_,cD,↓ad,af,simprocAttr]
     refine aV (aek l[i] aa) ?_
     rintro x ae ⟨rfl,dj⟩
     cases bU:gS l[i] with
     | true=>
       simp +contextual only [bl,aU,e7,w,↓ad,af,simprocAttr]
       exact ⟨⟨az.trans dj,⟨i+1,rfl,aX,by rw [cb,bU,Bool.true_and]⟩⟩,by omega⟩
     | false=>
       have av:ih l n=false:=by rw [ih,cb,bU,Bool.false_and,Bool.false_and]
       simp +contextual only [av,↓ad,af,simprocAttr]
       exact az.trans dj
   · have bM:((i:Int) < (l.length:Int))=False:=eq_false (by omega)
     rw [List.drop_eq_nil_of_le (by omega)] at cb
     simp +contextual only [bl,aU,e7,bW,bM,↓ad,af,simprocAttr]
     refine ⟨?_,az⟩
     rw [ih,cb]
     rfl
theorem aiT {s:List UInt8} (h:s ∈ qW):eO s=1:=by
 simp only [qW,List.mem_cons,List.not_mem_nil,or_false] at h
 rcases h with rfl | rfl | rfl | rfl | rfl | rfl<;>rfl
set_option maxHeartbeats 2000000 in
theorem Rt (s:List UInt8) (h:aj):lr Tryz.prog 132 [.str s] h (.int .i64 (eO s)) h:=by
 refine te (T6 rfl (bP ?_))
 unfold K4
 by_cases ae:s=[97,100,100]
 · have aI:=eq_true ae
   have aJ:eO s=2:=by rw [ae];rfl
   simp +contextual only [aI,aJ,↓ad,af,simprocAttr]
 have aI:=eq_false ae
 by_cases ak:s=[115,117,98]
 · have bh:=eq_true ak
   have aJ:eO s=2:=by rw [ak];rfl
   simp +contextual only [aI,bh,aJ,↓ad,af,simprocAttr]
 have bh:=eq_false ak
 by_cases aC:s=[109,117,108]
 · have cp:=eq_true aC
   have aJ:eO s=2:=by rw [aC];rfl
   simp +contextual only [aI,bh,cp,aJ,↓ad,af,simprocAttr]
 have cp:=eq_false aC
 by_cases bq:s=[100,105,118]
 · have eV:=eq_true bq
   have aJ:eO s=2:=by rw [bq];rfl
   simp +contextual only [aI,bh,cp,eV,aJ,↓ad,af,simprocAttr]
 have eV:=eq_false bq
 by_cases dZ:s=[109,111,100]
 · have j5:=eq_true dZ
   have aJ:eO s=2:=by rw [dZ];rfl
   simp +contextual only [aI,bh,cp,eV,j5,aJ,↓ad,af,simprocAttr]
 have j5:=eq_false dZ
 by_cases eM:s=[101,113]
 · have iB:=eq_true eM
   have aJ:eO s=2:=by rw [eM];rfl
   simp +contextual only [aI,bh,cp,eV,j5,iB,aJ,↓ad,af,simprocAttr]
 have iB:=eq_false eM
 by_cases c9:s=[108,116]
 · have gM:=eq_true c9
   have aJ:eO s=2:=by rw [c9];rfl
   simp +contextual only [aI,bh,cp,eV,j5,iB,gM,aJ,↓ad,af,simprocAttr]
 have gM:=eq_false c9
 by_cases fK:s=[108,101]
 · have hq:=eq_true fK
   have aJ:eO s=2:=by rw [fK];rfl
   simp +contextual only [aI,bh,cp,eV,j5,iB,gM,hq,aJ,↓ad,af,simprocAttr]
 have hq:=eq_false fK
 by_cases jG:s=[98,121,116,101]
 · have nn:=eq_true jG
   have aJ:eO s=2:=by rw [jG];rfl
   simp +contextual only [aI,bh,cp,eV,j5,iB,gM,hq,nn,aJ,↓ad,af,simprocAttr]
 have nn:=eq_false jG
 by_cases j7:s=[106,111,105,110]
 · have kg:=eq_true j7
   have aJ:eO s=2:=by rw [j7];rfl
   simp +contextual only [aI,bh,cp,eV,j5,iB,gM,hq,nn,kg,aJ,↓ad,af,simprocAttr]
 have kg:=eq_false j7
 by_cases jd:s=[115,101,116]
 · have iA:=eq_true jd
   have aJ:eO s=2:=by rw [jd];rfl
   simp +contextual only [aI,bh,cp,eV,j5,iB,gM,hq,nn,kg,iA,aJ,↓ad,af,simprocAttr]
 have iA:=eq_false jd
 by_cases mT:s=[110,101,103]
 · have nV:=eq_true mT
   have aJ:eO s=1:=by rw [mT];rfl
   simp +contextual only [aI,bh,cp,eV,j5,iB,gM,hq,nn,kg,iA,nV,aJ,↓ad,af,simprocAttr]
 have nV:=eq_false mT
 by_cases sL:s=[103,101,116,99]
 · have tV:=eq_true sL
   have aJ:eO s=1:=by rw [sL];rfl
   simp +contextual only [aI,bh,cp,eV,j5,iB,gM,hq,nn,kg,iA,nV,tV,aJ,↓ad,af,simprocAttr]
 have tV:=eq_false sL
 by_cases ua:s=[112,117,116,99]
 · have sF:=eq_true ua
   have aJ:eO s=1:=by rw [ua];rfl
   simp +contextual only [aI,bh,cp,eV,j5,iB,gM,hq,nn,kg,iA,nV,tV,sF,aJ,↓ad,af,simprocAttr]
 have sF:=eq_false ua
 by_cases xE:s=[112,117,116,115]
 · have xt:=eq_true xE
   have aJ:eO s=1:=by rw [xE];rfl
   simp +contextual only [aI,bh,cp,eV,j5,iB,gM,hq,nn,kg,iA,nV,tV,sF,xt,aJ,↓ad,af,simprocAttr]
 have xt:=eq_false xE
 by_cases xF:s=[115,105,122,101]
 · have zu:=eq_true xF
   have aJ:eO s=1:=by rw [xF];rfl
   simp +contextual only [aI,bh,cp,eV,j5,iB,gM,hq,nn,kg,iA,nV,tV,sF,xt,zu,aJ,↓ad,af,simprocAttr]
 have zu:=eq_false xF
 by_cases xG:s=[99,104,114]
 · have Ci:=eq_true xG
   have aJ:eO s=1:=by rw [xG];rfl
   simp +contextual only [aI,bh,cp,eV,j5,iB,gM,hq,nn,kg,iA,nV,tV,sF,xt,zu,Ci,aJ,↓ad,af,simprocAttr]
 have Ci:=eq_false xG
 by_cases CD:s=[99,117,116]
 · have FM:=eq_true CD
   have aJ:eO s=3:=by rw [CD];rfl
   simp +contextual only [aI,bh,cp,eV,j5,iB,gM,hq,nn,kg,iA,nV,tV,sF,xt,zu,Ci,FM,aJ,↓ad,af,simprocAttr]
 have FM:=eq_false CD
 have aJ:eO s=0:=by
  rw [eO,if_neg (by simp only [td,List.mem_cons,List.not_mem_nil,or_false,not_or];exact ⟨ae,ak,aC,bq,dZ,eM,c9,fK,jG,j7,jd⟩),if_neg (by simp only [qW,List.mem_cons,List.not_mem_nil,or_false,not_or];exact ⟨mT,sL,ua,xE,xF,xG⟩),if_neg CD]
 simp +contextual only [aI,bh,cp,eV,j5,iB,gM,hq,nn,kg,iA,nV,tV,sF,xt,zu,Ci,FM,aJ,↓ad,af,simprocAttr]
theorem pN (c:aY) (ai:List V) (h:aj) (H:eg h c ai) (x n s t:Bool):bB Tryz.prog 69 [.agg ai,.bool x,.bool n,.bool s,.bool t] h fun y aa=>y=.bool (hasB c x n s t)∧Ext h aa:=by
 obtain ⟨aN,aP,aw,rfl,cU,dU,cw⟩:=H.open
 refine UX rfl (bP ?_)
 unfold Ml
 have bZ:Ext h (h.new (.aq [.int .i64 c.k,.int .i64 c.x,.int .i64 c.n,.str c.s,aN,aP,aw] 0 false)):=(Ext.refl h).new _
 have cr:=(dU.ext bZ).len
 simp +contextual only [cr,↓ad,af,simprocAttr]
 refine ⟨?_,bZ⟩
 have aI:decide ((c.t.length:Int)=0)=decide (c.t=[]):=by rw [decide_eq_decide,←List.length_eq_zero_iff];omega
 rw [aI]
 rfl
theorem QX (hz:Bool) (l:List Int) (v:V) (h:aj) (H:cg h 1 v l.length (cd l)) (aK:l.length≤4611686018427387904):
 lr Tryz.prog 133 [v,.bool hz] h (.bool (kS hz l)) h:=by
 refine te (T7 rfl (bP ?_))
 unfold K5
 simp +contextual only [↓ad,af,simprocAttr]
 refine fw (fun r aa=>aa=h∧r 0=v∧r 1=.bool hz∧∃i:Nat,r 5=.int .i64 i∧i≤l.length∧kS hz l=r9 hz (l.take i) (l.drop i)) (fun r aa=>l.length - (r 5).gn) ?_ ?_
 · exact ⟨rfl,by simp only [↓ad,bj,simprocAttr],by simp only [↓ad,bj,simprocAttr],0,by simp only [↓ad,bj,simprocAttr]<;>rfl,by omega,by rw [List.take_zero,List.drop_zero,Rs]⟩
 · rintro r aa ⟨rfl,bl,aU,i,e7,aG,cb⟩
   unfold K6
   by_cases aX:i<l.length
   · have bM:((i:Int) < (l.length:Int))=True:=eq_true (by omega)
     obtain ⟨b,o,b_,cD⟩:=ints_at H (k:=.i64) aX
     rw [List.drop_eq_getElem_cons aX,r9] at cb
     have w:=gq aX aK
     have mi:l.take (i+1)=l.take i++[l[i]]:=by rw [List.take_add_one,List.getElem?_eq_getElem aX];rfl
     generalize ub:(if hz=true then o' l[i] else gC l[i])=e3 at cb
     have inner:∀(bT:bV) (aF:List iU) (Q:cW→bV→aj→Prop),bT 0=v→bT 5=.int .i64 i→bT 6=.int .i64 0→
      ((l.take i).contains l[i]=false→∀oi:bV,oi 0=v→oi 1=bT 1→oi 5=.int .i64 i→bR Tryz.prog aF (.exit 2) oi aa Q)→
      ((l.take i).contains l[i]=true→∀oi:bV,oi 4=.bool false→bR Tryz.prog aF .ret oi aa Q)→uB Tryz.prog Fs aF bT aa Q:=by
      intro bT aF Q tf ea fy e0 jS
      refine fw (fun oi fo=>fo=aa∧oi 0=v∧oi 1=bT 1∧oi 5=.int .i64 i∧∃j:Nat,oi 6=.int .i64 j∧j≤i∧((l.take i).contains l[i]=((l.take i).drop j).contains l[i])) (fun oi fo=>i - (oi 6).gn) ?_ ?_
      · exact ⟨rfl,tf,rfl,ea,0,by rw [fy];rfl,by omega,rfl⟩
      · rintro R fo ⟨rfl,lk,ca,fN,j,Io,bS,zW⟩
        unfold Fs
        by_cases jU:j<i
        · have bF:((j:Int) < (i:Int))=True:=eq_true (by omega)
          have Oi:j<l.length:=by omega
          obtain ⟨cG,fi,im,jV⟩:=ints_at H (k:=.i64) Oi
          have dw:=gq Oi aK
          have Yf:j < (l.take i).length:=by rw [List.length_take];omega
          rw [List.drop_eq_getElem_cons Yf,List.contains_cons,List.getElem_take] at zW
          by_cases he:l[j]=l[i]
          · have mc:=eq_true he
            simp +contextual only [lk,fN,Io,bF,im,jV,b_,cD,mc,↓ad,af,simprocAttr]
            refine jS ?_ _ (by simp only [↓ad,bj,simprocAttr])
            rw [zW,he];simp
          · have mc:=eq_false he
            simp +contextual only [lk,ca,fN,Io,bF,im,jV,b_,cD,mc,dw,↓ad,af,simprocAttr]
            refine ⟨⟨j+1,rfl,by omega,?_⟩,by omega⟩
            rw [zW]
            have:(l[i] == l[j])=false:=by simpa using fun e:l[i]=l[j]=>he e.symm
            rw [this,Bool.false_or]
        · have bF:((j:Int) < (i:Int))=False:=eq_false (by omega)
          rw [List.drop_eq_nil_of_le (by rw [List.length_take];omega)] at zW
          simp +contextual only [lk,fN,Io,bF,↓ad,af,simprocAttr]
          exact e0 (by rw [zW];rfl) _ (by simp only [lk,↓ad,bj,simprocAttr]) (by simp only [ca,↓ad,bj,simprocAttr]) (by simp only [fN,↓ad,bj,simprocAttr])
     have bW:=H.len
     cases hz with
     | true=>
       simp +contextual only [bl,aU,e7,bW,bM,b_,cD,↓ad,af,simprocAttr]
       refine iz (QW _ _) ?_
       have bp:o' l[i]=e3:=by rw [←ub];rfl
       cases e3 with
       | false=>
         have av:kS true l=false:=by rw [cb];rfl
         simp +contextual only [bp,av,↓ad,af,simprocAttr]
       | true=>
         simp +contextual only [bl,aU,e7,bp,↓ad,af,simprocAttr]
         refine inner _ _ _ (by simp only [bl,↓ad,bj,simprocAttr]) (by simp only [e7,↓ad,bj,simprocAttr]) (by simp only [↓ad,bj,simprocAttr]) ?_ ?_
         · intro aD bm lk ca fN
           have pc:bm 1=.bool true:=by rw [ca];simp only [aU,↓ad,af,simprocAttr]
           simp +contextual only [lk,pc,fN,w,↓ad,af,simprocAttr]
           exact ⟨⟨i+1,rfl,aX,by rw [cb,aD,mi];rfl⟩,by omega⟩
         · intro aD bm fR
           have av:kS true l=false:=by rw [cb,aD];rfl
           simp +contextual only [fR,av,↓ad,af,simprocAttr]
     | false=>
       simp +contextual only [bl,aU,e7,bW,bM,b_,cD,↓ad,af,simprocAttr]
       refine iz (wI _ _) ?_
       have bp:gC l[i]=e3:=by rw [←ub];rfl
       cases e3 with
       | false=>
         have av:kS false l=false:=by rw [cb];rfl
         simp +contextual only [bp,av,↓ad,af,simprocAttr]
       | true=>
         simp +contextual only [bl,aU,e7,bp,↓ad,af,simprocAttr]
         refine inner _ _ _ (by simp only [bl,↓ad,bj,simprocAttr]) (by simp only [e7,↓ad,bj,simprocAttr]) (by simp only [↓ad,bj,simprocAttr]) ?_ ?_
         · intro aD bm lk ca fN
           have pc:bm 1=.bool false:=by rw [ca];simp only [aU,↓ad,af,simprocAttr]
           simp +contextual only [lk,pc,fN,w,↓ad,af,simprocAttr]
           exact ⟨⟨i+1,rfl,aX,by rw [cb,aD,mi];rfl⟩,by omega⟩
         · intro aD bm fR
           have av:kS false l=false:=by rw [cb,aD];rfl
           simp +contextual only [fR,av,↓ad,af,simprocAttr]
   · have bM:((i:Int) < (l.length:Int))=False:=eq_false (by omega)
     rw [List.drop_eq_nil_of_le (by omega)] at cb
     have bW:=H.len
     simp +contextual only [bl,aU,e7,bW,bM,↓ad,af,simprocAttr]
     rw [cb]
     rfl
theorem rN {k:Int} (n:Int) (h:k=n):(k=1)=(n=1)∧(k=12)=(n=12)∧(k=2)=(n=2)∧(k=11)=(n=11)∧(k=3)=(n=3)∧(k=4)=(n=4)∧(k=5)=(n=5)∧(k=6)=(n=6)∧(k=9)=(n=9)∧(k=10)=(n=10):=by subst h;exact ⟨rfl,rfl,rfl,rfl,rfl,rfl,rfl,rfl,rfl,rfl⟩
set_option maxHeartbeats 4000000 in
theorem aeM (c:aY) (ai:List V) (h:aj) (H:eg h c ai) (Od:c.a.length≤1048576) (aid:c.t.length≤1048576) (hK:c.l.length≤1048576):bB Tryz.prog 71 [.agg ai] h fun x aa=>x=.bool (eT c)∧Ext h aa:=by
 obtain ⟨aN,aP,aw,rfl,cU,dU,cw⟩:=H.open
 refine U0 rfl (bP ?_)
 unfold Mn
 have bZ:Ext h (h.new (.aq [.int .i64 c.k,.int .i64 c.x,.int .i64 c.n,.str c.s,aN,aP,aw] 0 false)):=(Ext.refl h).new _
 have step:∀g eI:aj,Ext h g→(h.next<g.next∧g.get (ao h.next)=.aq [.int .i64 c.k,.int .i64 c.x,.int .i64 c.n,.str c.s,aN,aP,aw] 0 false)→Ext g eI→(h.next<eI.next∧eI.get (ao h.next)=.aq [.int .i64 c.k,.int .i64 c.x,.int .i64 c.n,.str c.s,aN,aP,aw] 0 false)∧Ext h eI:=by
  rintro g eI e ⟨bQ,cB⟩ fT
  exact ⟨⟨Nat.lt_of_lt_of_le bQ fT.next,by rw [fT.get _ (cZ bQ)];exact cB⟩,e.trans fT⟩
 have cX:h.next < (h.new (.aq [.int .i64 c.k,.int .i64 c.x,.int .i64 c.n,.str c.s,aN,aP,aw] 0 false)).next∧(h.new (.aq [.int .i64 c.k,.int .i64 c.x,.int .i64 c.n,.str c.s,aN,aP,aw] 0 false)).get (ao h.next)=.aq [.int .i64 c.k,.int .i64 c.x,.int .i64 c.n,.str c.s,aN,aP,aw] 0 false:=⟨by rw [cO];omega,gi _⟩
 have dC:=(cU.ext bZ).len
 have cr:=(dU.ext bZ).len
 have bW:=(cw.ext bZ).len
 by_cases ae:c.k=1
 · have E:=rN 1 ae
   have c':eT c=(hasB c false false false false&&ih c.a 1&&decide (c.l.length=0)):=by rw [eT];simp only [E,if_true,if_false,true_or,or_true,false_or,or_false,decide_true,decide_false,simprocAttr]
   simp +contextual only [E,dC,cr,bW,↓ad,af,simprocAttr]
   refine aV (pN c _ _ (H.ext bZ) false false false false) ?_
   rintro x bF ⟨rfl,dj⟩
   obtain ⟨b0,s1⟩:=step _ bF bZ cX dj
   obtain ⟨dE,cl⟩:=b0
   have b0:=And.intro dE cl
   cases aQ:hasB c false false false false with
   | false=>
     have av:eT c=false:=by rw [c'];grind
     simp +contextual only [E,cl,dC,cr,bW,av,↓ad,af,simprocAttr]
     exact s1
   | true=>
   simp +contextual only [E,cl,dC,cr,bW,↓ad,af,simprocAttr]
   refine aV (uP c.a (1) aN bF (cU.ext s1) (by omega)) ?_
   rintro x bz ⟨rfl,fM⟩
   obtain ⟨cG,s2⟩:=step _ bz s1 b0 fM
   obtain ⟨e6,dr⟩:=cG
   have cG:=And.intro e6 dr
   cases aB:ih c.a (1) with
   | false=>
     have av:eT c=false:=by rw [c'];grind
     simp +contextual only [E,dr,dC,cr,bW,av,↓ad,af,simprocAttr]
     exact s2
   | true=>
   simp +contextual only [E,dr,dC,cr,bW,↓ad,af,simprocAttr]
   refine ⟨?_,s2⟩
   rw [c']
   grind
 have aI:=eq_false ae
 by_cases mT:c.k=12
 · have E:=rN 12 mT
   have c':eT c=(hasB c false false false false&&ih c.a 1&&decide (c.l.length=0)):=by rw [eT];simp only [E,if_true,if_false,true_or,or_true,false_or,or_false,decide_true,decide_false,simprocAttr]
   simp +contextual only [E,dC,cr,bW,↓ad,af,simprocAttr]
   refine aV (pN c _ _ (H.ext bZ) false false false false) ?_
   rintro x bF ⟨rfl,dj⟩
   obtain ⟨b0,s1⟩:=step _ bF bZ cX dj
   obtain ⟨dE,cl⟩:=b0
   have b0:=And.intro dE cl
   cases aQ:hasB c false false false false with
   | false=>
     have av:eT c=false:=by rw [c'];grind
     simp +contextual only [E,cl,dC,cr,bW,av,↓ad,af,simprocAttr]
     exact s1
   | true=>
   simp +contextual only [E,cl,dC,cr,bW,↓ad,af,simprocAttr]
   refine aV (uP c.a (1) aN bF (cU.ext s1) (by omega)) ?_
   rintro x bz ⟨rfl,fM⟩
   obtain ⟨cG,s2⟩:=step _ bz s1 b0 fM
   obtain ⟨e6,dr⟩:=cG
   have cG:=And.intro e6 dr
   cases aB:ih c.a (1) with
   | false=>
     have av:eT c=false:=by rw [c'];grind
     simp +contextual only [E,dr,dC,cr,bW,av,↓ad,af,simprocAttr]
     exact s2
   | true=>
   simp +contextual only [E,dr,dC,cr,bW,↓ad,af,simprocAttr]
   refine ⟨?_,s2⟩
   rw [c']
   grind
 have nV:=eq_false mT
 by_cases ak:c.k=2
 · have E:=rN 2 ak
   have c':eT c=(hasB c true false false false&&gC c.x&&decide (c.a.length=0)&&decide (c.l.length=2)):=by rw [eT];simp only [E,if_true,if_false,true_or,or_true,false_or,or_false,decide_true,decide_false,simprocAttr]
   simp +contextual only [E,dC,cr,bW,↓ad,af,simprocAttr]
   refine aV (pN c _ _ (H.ext bZ) true false false false) ?_
   rintro x bF ⟨rfl,dj⟩
   obtain ⟨b0,s1⟩:=step _ bF bZ cX dj
   obtain ⟨dE,cl⟩:=b0
   have b0:=And.intro dE cl
   cases aQ:hasB c true false false false with
   | false=>
     have av:eT c=false:=by rw [c'];grind
     simp +contextual only [E,cl,dC,cr,bW,av,↓ad,af,simprocAttr]
     exact s1
   | true=>
   simp +contextual only [E,cl,dC,cr,bW,↓ad,af,simprocAttr]
   refine iz (wI _ _) ?_
   cases aB:gC c.x with
   | false=>
     have av:eT c=false:=by rw [c'];grind
     simp +contextual only [E,cl,dC,cr,bW,av,↓ad,af,simprocAttr]
     exact s1
   | true=>
   simp +contextual only [E,cl,dC,cr,bW,↓ad,af,simprocAttr]
   refine ⟨?_,s1⟩
   rw [c']
   grind
 have bh:=eq_false ak
 by_cases jd:c.k=11
 · have E:=rN 11 jd
   have c':eT c=(hasB c true false false false&&gC c.x&&decide (c.a.length=0)&&decide (c.l.length=2)):=by rw [eT];simp only [E,if_true,if_false,true_or,or_true,false_or,or_false,decide_true,decide_false,simprocAttr]
   simp +contextual only [E,dC,cr,bW,↓ad,af,simprocAttr]
   refine aV (pN c _ _ (H.ext bZ) true false false false) ?_
   rintro x bF ⟨rfl,dj⟩
   obtain ⟨b0,s1⟩:=step _ bF bZ cX dj
   obtain ⟨dE,cl⟩:=b0
   have b0:=And.intro dE cl
   cases aQ:hasB c true false false false with
   | false=>
     have av:eT c=false:=by rw [c'];grind
     simp +contextual only [E,cl,dC,cr,bW,av,↓ad,af,simprocAttr]
     exact s1
   | true=>
   simp +contextual only [E,cl,dC,cr,bW,↓ad,af,simprocAttr]
   refine iz (wI _ _) ?_
   cases aB:gC c.x with
   | false=>
     have av:eT c=false:=by rw [c'];grind
     simp +contextual only [E,cl,dC,cr,bW,av,↓ad,af,simprocAttr]
     exact s1
   | true=>
   simp +contextual only [E,cl,dC,cr,bW,↓ad,af,simprocAttr]
   refine ⟨?_,s1⟩
   rw [c']
   grind
 have iA:=eq_false jd
 by_cases aC:c.k=3
 · have E:=rN 3 aC
   have c':eT c=(hasB c false false true false&&decide (0<eO c.s)&&ih c.a (eO c.s)&&decide (c.l.length=0)):=by rw [eT];simp only [E,if_true,if_false,true_or,or_true,false_or,or_false,decide_true,decide_false,simprocAttr]
   simp +contextual only [E,dC,cr,bW,↓ad,af,simprocAttr]
   refine aV (pN c _ _ (H.ext bZ) false false true false) ?_
   rintro x bF ⟨rfl,dj⟩
   obtain ⟨b0,s1⟩:=step _ bF bZ cX dj
   obtain ⟨dE,cl⟩:=b0
   have b0:=And.intro dE cl
   cases aQ:hasB c false false true false with
   | false=>
     have av:eT c=false:=by rw [c'];grind
     simp +contextual only [E,cl,dC,cr,bW,av,↓ad,af,simprocAttr]
     exact s1
   | true=>
   simp +contextual only [E,cl,dC,cr,bW,↓ad,af,simprocAttr]
   refine iz (Rt _ _) ?_
   simp +contextual only [E,cl,dC,cr,bW,↓ad,af,simprocAttr]
   by_cases aJ:0<eO c.s
   · have m2:=eq_true aJ
     simp +contextual only [E,cl,dC,cr,bW,m2,↓ad,af,simprocAttr]
     refine iz (Rt _ _) ?_
     simp +contextual only [E,cl,dC,cr,bW,m2,↓ad,af,simprocAttr]
     refine aV (uP c.a (eO c.s) aN bF (cU.ext s1) (by omega)) ?_
     rintro x bz ⟨rfl,fM⟩
     obtain ⟨⟨e6,dr⟩,s2⟩:=step bF bz s1 b0 fM
     cases aB:ih c.a (eO c.s) with
     | false=>
       have av:eT c=false:=by rw [c'];grind
       simp +contextual only [E,cl,dr,dC,cr,bW,m2,av,↓ad,af,simprocAttr]
       exact s2
     | true=>
       simp +contextual only [E,cl,dr,dC,cr,bW,m2,↓ad,af,simprocAttr]
       refine ⟨?_,s2⟩
       rw [c']
       grind
   · have m2:=eq_false aJ
     have av:eT c=false:=by rw [c'];grind
     simp +contextual only [E,cl,dC,cr,bW,m2,av,↓ad,af,simprocAttr]
     exact s1
 have cp:=eq_false aC
 by_cases bq:c.k=4
 · have E:=rN 4 bq
   have c':eT c=(hasB c false true false false&&gC c.n&&decide (c.a.length≤1024)&&ih c.a c.a.length&&decide (c.l.length=0)):=by rw [eT];simp only [E,if_true,if_false,true_or,or_true,false_or,or_false,decide_true,decide_false,simprocAttr]
   simp +contextual only [E,dC,cr,bW,↓ad,af,simprocAttr]
   refine aV (pN c _ _ (H.ext bZ) false true false false) ?_
   rintro x bF ⟨rfl,dj⟩
   obtain ⟨b0,s1⟩:=step _ bF bZ cX dj
   obtain ⟨dE,cl⟩:=b0
   have b0:=And.intro dE cl
   cases aQ:hasB c false true false false with
   | false=>
     have av:eT c=false:=by rw [c'];grind
     simp +contextual only [E,cl,dC,cr,bW,av,↓ad,af,simprocAttr]
     exact s1
   | true=>
   simp +contextual only [E,cl,dC,cr,bW,↓ad,af,simprocAttr]
   refine iz (wI _ _) ?_
   cases aB:gC c.n with
   | false=>
     have av:eT c=false:=by rw [c'];grind
     simp +contextual only [E,cl,dC,cr,bW,av,↓ad,af,simprocAttr]
     exact s1
   | true=>
   simp +contextual only [E,cl,dC,cr,bW,↓ad,af,simprocAttr]
   by_cases aJ:c.a.length≤1024
   · have m2:((c.a.length:Int)≤1024)=True:=eq_true (by omega)
     simp +contextual only [E,cl,dC,cr,bW,m2,↓ad,af,simprocAttr]
     refine aV (uP c.a (c.a.length) aN bF (cU.ext s1) (by omega)) ?_
     rintro x bz ⟨rfl,fM⟩
     obtain ⟨⟨e6,dr⟩,s2⟩:=step bF bz s1 b0 fM
     cases a':ih c.a c.a.length with
     | false=>
       have av:eT c=false:=by rw [c'];grind
       simp +contextual only [E,cl,dr,dC,cr,bW,m2,av,↓ad,af,simprocAttr]
       exact s2
     | true=>
       simp +contextual only [E,cl,dr,dC,cr,bW,m2,↓ad,af,simprocAttr]
       refine ⟨?_,s2⟩
       rw [c']
       grind
   · have m2:((c.a.length:Int)≤1024)=False:=eq_false (by omega)
     have av:eT c=false:=by rw [c'];grind
     simp +contextual only [E,cl,dC,cr,bW,m2,av,↓ad,af,simprocAttr]
     exact s1
 have eV:=eq_false bq
 by_cases dZ:c.k=5
 · have E:=rN 5 dZ
   have c':eT c=(hasB c false true false false&&decide (0≤c.n)&&decide (c.n<1024)&&ih c.a 1&&decide (c.l.length=0)):=by rw [eT];simp only [E,if_true,if_false,true_or,or_true,false_or,or_false,decide_true,decide_false,simprocAttr]
   simp +contextual only [E,dC,cr,bW,↓ad,af,simprocAttr]
   refine aV (pN c _ _ (H.ext bZ) false true false false) ?_
   rintro x bF ⟨rfl,dj⟩
   obtain ⟨b0,s1⟩:=step _ bF bZ cX dj
   obtain ⟨dE,cl⟩:=b0
   have b0:=And.intro dE cl
   cases aQ:hasB c false true false false with
   | false=>
     have av:eT c=false:=by rw [c'];grind
     simp +contextual only [E,cl,dC,cr,bW,av,↓ad,af,simprocAttr]
     exact s1
   | true=>
   simp +contextual only [E,cl,dC,cr,bW,↓ad,af,simprocAttr]
   by_cases aJ:0≤c.n∧c.n<1024
   · have mh:=eq_true aJ.1
     have Hi:=eq_true aJ.2
     simp +contextual only [E,cl,dC,cr,bW,mh,Hi,↓ad,af,simprocAttr]
     refine aV (uP c.a 1 aN bF (cU.ext s1) (by omega)) ?_
     rintro x bz ⟨rfl,fM⟩
     obtain ⟨⟨e6,dr⟩,s2⟩:=step bF bz s1 b0 fM
     cases a':ih c.a 1 with
     | false=>
       have av:eT c=false:=by rw [c'];grind
       simp +contextual only [E,cl,dr,dC,cr,bW,mh,Hi,av,↓ad,af,simprocAttr]
       exact s2
     | true=>
       simp +contextual only [E,cl,dr,dC,cr,bW,mh,Hi,↓ad,af,simprocAttr]
       refine ⟨?_,s2⟩
       rw [c']
       grind
   · have av:eT c=false:=by rw [c'];grind
     by_cases mh:0≤c.n
     · have Hh:=eq_true mh
       have Y9:(c.n<1024)=False:=eq_false (by omega)
       simp +contextual only [E,cl,dC,cr,bW,Hh,Y9,av,↓ad,af,simprocAttr]
       exact s1
     · have Hh:=eq_false mh
       simp +contextual only [E,cl,dC,cr,bW,Hh,av,↓ad,af,simprocAttr]
       exact s1
 have j5:=eq_false dZ
 by_cases eM:c.k=6
 · have E:=rN 6 eM
   have c':eT c=(hasB c false false false false&&ih c.a 2&&decide (c.l.length=0)):=by rw [eT];simp only [E,if_true,if_false,true_or,or_true,false_or,or_false,decide_true,decide_false,simprocAttr]
   simp +contextual only [E,dC,cr,bW,↓ad,af,simprocAttr]
   refine aV (pN c _ _ (H.ext bZ) false false false false) ?_
   rintro x bF ⟨rfl,dj⟩
   obtain ⟨b0,s1⟩:=step _ bF bZ cX dj
   obtain ⟨dE,cl⟩:=b0
   have b0:=And.intro dE cl
   cases aQ:hasB c false false false false with
   | false=>
     have av:eT c=false:=by rw [c'];grind
     simp +contextual only [E,cl,dC,cr,bW,av,↓ad,af,simprocAttr]
     exact s1
   | true=>
   simp +contextual only [E,cl,dC,cr,bW,↓ad,af,simprocAttr]
   refine aV (uP c.a (2) aN bF (cU.ext s1) (by omega)) ?_
   rintro x bz ⟨rfl,fM⟩
   obtain ⟨cG,s2⟩:=step _ bz s1 b0 fM
   obtain ⟨e6,dr⟩:=cG
   have cG:=And.intro e6 dr
   cases aB:ih c.a (2) with
   | false=>
     have av:eT c=false:=by rw [c'];grind
     simp +contextual only [E,dr,dC,cr,bW,av,↓ad,af,simprocAttr]
     exact s2
   | true=>
   simp +contextual only [E,dr,dC,cr,bW,↓ad,af,simprocAttr]
   refine ⟨?_,s2⟩
   rw [c']
   grind
 have iB:=eq_false eM
 by_cases jG:c.k=9
 · have E:=rN 9 jG
   have c':eT c=(hasB c false false false true&&ih c.a 1&&kS (decide (c.k=10)) c.t&&tY c):=by rw [eT];simp only [E,if_true,if_false,true_or,or_true,false_or,or_false,decide_true,decide_false,simprocAttr]
   have wt:IntKind.i64.wrap ((c.t.length:Int)+1)=(c.t.length:Int)+1:=by rw [wrap_i64 (by omega) (by omega)]
   have zR:(decide (1≤(c.l.length:Int))&&(decide ((c.l.length:Int)=c.t.length)||decide ((c.l.length:Int)=c.t.length+1)))=tY c:=rfl
   simp +contextual only [wt,zR,E,dC,cr,bW,↓ad,af,simprocAttr]
   refine aV (pN c _ _ (H.ext bZ) false false false true) ?_
   rintro x bF ⟨rfl,dj⟩
   obtain ⟨⟨dE,cl⟩,s1⟩:=step _ bF bZ cX dj
   have b0:=And.intro dE cl
   cases aQ:hasB c false false false true with
   | false=>
     have av:eT c=false:=by rw [c'];grind
     simp +contextual only [E,cl,dC,cr,bW,av,↓ad,af,simprocAttr]
     exact s1
   | true=>
   simp +contextual only [E,cl,dC,cr,bW,↓ad,af,simprocAttr]
   refine aV (uP c.a 1 aN bF (cU.ext s1) (by omega)) ?_
   rintro x bz ⟨rfl,fM⟩
   obtain ⟨⟨e6,dr⟩,s2⟩:=step bF bz s1 b0 fM
   cases aB:ih c.a 1 with
   | false=>
     have av:eT c=false:=by rw [c'];grind
     simp +contextual only [E,dr,cr,av,↓ad,af,simprocAttr]
     exact s2
   | true=>
   simp +contextual only [E,dr,cr,↓ad,af,simprocAttr]
   refine iz (QX false c.t aP bz (dU.ext s2) (by omega)) ?_
   simp only [E,decide_true,decide_false,simprocAttr] at c'
   cases a':kS false c.t with
   | false=>
     have av:eT c=false:=by rw [c'];grind
     simp +contextual only [E,dr,cr,av,↓ad,af,simprocAttr]
     exact s2
   | true=>
   simp +contextual only [E,dr,cr,↓ad,af,simprocAttr]
   refine ⟨?_,s2⟩
   rw [c']
   grind
 have nn:=eq_false jG
 by_cases j7:c.k=10
 · have E:=rN 10 j7
   have c':eT c=(hasB c false false false true&&ih c.a 1&&kS (decide (c.k=10)) c.t&&tY c):=by rw [eT];simp only [E,if_true,if_false,true_or,or_true,false_or,or_false,decide_true,decide_false,simprocAttr]
   have wt:IntKind.i64.wrap ((c.t.length:Int)+1)=(c.t.length:Int)+1:=by rw [wrap_i64 (by omega) (by omega)]
   have zR:(decide (1≤(c.l.length:Int))&&(decide ((c.l.length:Int)=c.t.length)||decide ((c.l.length:Int)=c.t.length+1)))=tY c:=rfl
   simp +contextual only [wt,zR,E,dC,cr,bW,↓ad,af,simprocAttr]
   refine aV (pN c _ _ (H.ext bZ) false false false true) ?_
   rintro x bF ⟨rfl,dj⟩
   obtain ⟨⟨dE,cl⟩,s1⟩:=step _ bF bZ cX dj
   have b0:=And.intro dE cl
   cases aQ:hasB c false false false true with
   | false=>
     have av:eT c=false:=by rw [c'];grind
     simp +contextual only [E,cl,dC,cr,bW,av,↓ad,af,simprocAttr]
     exact s1
   | true=>
   simp +contextual only [E,cl,dC,cr,bW,↓ad,af,simprocAttr]
   refine aV (uP c.a 1 aN bF (cU.ext s1) (by omega)) ?_
   rintro x bz ⟨rfl,fM⟩
   obtain ⟨⟨e6,dr⟩,s2⟩:=step bF bz s1 b0 fM
   cases aB:ih c.a 1 with
   | false=>
     have av:eT c=false:=by rw [c'];grind
     simp +contextual only [E,dr,cr,av,↓ad,af,simprocAttr]
     exact s2
   | true=>
   simp +contextual only [E,dr,cr,↓ad,af,simprocAttr]
   refine iz (QX true c.t aP bz (dU.ext s2) (by omega)) ?_
   simp only [E,decide_true,decide_false,simprocAttr] at c'
   cases a':kS true c.t with
   | false=>
     have av:eT c=false:=by rw [c'];grind
     simp +contextual only [E,dr,cr,av,↓ad,af,simprocAttr]
     exact s2
   | true=>
   simp +contextual only [E,dr,cr,↓ad,af,simprocAttr]
   refine ⟨?_,s2⟩
   rw [c']
   grind
 have kg:=eq_false j7
 have av:eT c=false:=by rw [eT];simp only [aI,nV,bh,iA,cp,eV,j5,iB,nn,kg,if_false,or_self]
 simp +contextual only [aI,nV,bh,iA,cp,eV,j5,iB,nn,kg,dC,cr,bW,av,↓ad,af,simprocAttr]
 exact bZ
theorem QQ (b:Bool) (c:aY) (ai:List V) (h:aj) (H:eg h c ai):bB Tryz.prog 70 [.agg ai,.bool b] h fun x aa=>x=.bool (jF c b)∧Ext h aa:=by
 obtain ⟨aN,aP,aw,rfl,cU,dU,cw⟩:=H.open
 refine UZ rfl (bP ?_)
 unfold Mm
 have bZ:Ext h (h.new (.aq [.int .i64 c.k,.int .i64 c.x,.int .i64 c.n,.str c.s,aN,aP,aw] 0 false)):=(Ext.refl h).new _
 have dC:=cU.len
 have bW:=cw.len
 have c':jF c b=(decide (c.k=7)&&hasB c true b false false&&gC c.x&&(!b||gC c.n)&&decide (c.a.length=0)&&decide (c.l.length=1)):=rfl
 by_cases c9:c.k=7
 · have gM:=eq_true c9
   simp +contextual only [gM,↓ad,af,simprocAttr]
   refine aV (pN c _ _ (H.ext bZ) true b false false) ?_
   rintro x bF ⟨rfl,dj⟩
   have cl:bF.get (ao h.next)=.aq [.int .i64 c.k,.int .i64 c.x,.int .i64 c.n,.str c.s,aN,aP,aw] 0 false:=by rw [dj.get _ (cZ (by rw [cO];omega)),gi]
   have s1:=bZ.trans dj
   cases aQ:hasB c true b false false with
   | false=>
     have av:jF c b=false:=by rw [c'];grind
     simp +contextual only [gM,cl,av,↓ad,af,simprocAttr]
     exact s1
   | true=>
   simp +contextual only [gM,cl,↓ad,af,simprocAttr]
   refine iz (wI _ _) ?_
   cases aB:gC c.x with
   | false=>
     have av:jF c b=false:=by rw [c'];grind
     simp +contextual only [gM,cl,av,↓ad,af,simprocAttr]
     exact s1
   | true=>
   cases b with
   | false=>
     simp +contextual only [gM,cl,dC,bW,Bool.not_false,↓ad,af,simprocAttr]
     refine ⟨?_,s1⟩
     rw [c']
     grind
   | true=>
     simp +contextual only [gM,cl,dC,bW,Bool.not_true,↓ad,af,simprocAttr]
     refine iz (wI _ _) ?_
     cases a':gC c.n with
     | false=>
       have av:jF c true=false:=by rw [c'];grind
       simp +contextual only [gM,cl,dC,bW,av,↓ad,af,simprocAttr]
       exact s1
     | true=>
     simp +contextual only [gM,cl,dC,bW,↓ad,af,simprocAttr]
     refine ⟨?_,s1⟩
     rw [c']
     grind
 · have gM:=eq_false c9
   have av:jF c b=false:=by rw [c'];grind
   simp +contextual only [gM,av,↓ad,af,simprocAttr]
   exact bZ
theorem Tg (c:aY):tL c=(hasB c false false false false&&decide (c.a.length=0)):=by
 have bh:decide (c.a=[])=decide (c.a.length=0):=by rw [decide_eq_decide,List.length_eq_zero_iff]
 simp only [tL,hasB,Bool.false_or,bh]
theorem acA (c:aY) (h:0<c.l.length):lJ ej c=may ej c.l[0]:=by
 obtain ⟨k,x,n,s,a,t,l⟩:=c
 cases l with
 | nil=>simp [aY.l] at h
 | cons d l=>simp only [lJ,qR,aY.l,List.getElem_cons_zero]
theorem adN {c:aY}:(decide (c.k=7)&&ej true c)=jF c true:=by
 simp only [ej,if_true]
 by_cases h:c.k=7
 · simp [h]
 · simp [h,jF]
theorem WQ {c:aY} {b:Bool} (h:jF c b=true):c.l.length=1:=by
 simp only [jF,Bool.and_eq_true] at h
 exact of_decide_eq_true h.2
set_option maxHeartbeats 2000000 in
theorem IH:∀(N:Nat) (c:aY),size c≤N→fit 1048576 c→∀(ai:List V) (h:aj),eg h c ai→bB Tryz.prog 47 [.agg ai] h fun x aa=>x=.bool (may ej c)∧Ext h aa
 | 0,c,aM,_,_,_,_=>by have:=size_pos c;omega
 | N+1,c,aM,av,ai,h,H=>by
   obtain ⟨f1,f2,f3,f4,f5⟩:=av.kids
   have m1:=p' c
   have et:∀(i:Nat) (d:aY) (g:aj) (u:List V),c.l[i]? =some d→eg g d u→bB Tryz.prog 47 [.agg u] g fun x aa=>x=.bool (may ej d)∧Ext g aa:=
    fun i d g u aG hu=>IH N d (by have:=oq aG;omega) (ns f5 aG) u g hu
   obtain ⟨aN,aP,aw,rfl,cU,dU,cw⟩:=H.open
   refine UG rfl (bP ?_)
   unfold LR
   have bZ:Ext h (h.new (.aq [.int .i64 c.k,.int .i64 c.x,.int .i64 c.n,.str c.s,aN,aP,aw] 0 false)):=(Ext.refl h).new _
   by_cases an:c.k=8
   · have ef:=eq_true an
     have eC:=Pz (own:=ej) an
     rw [Tg] at eC
     simp +contextual only [ef,↓ad,af,simprocAttr]
     refine aV (pN c _ _ (H.ext bZ) false false false false) ?_
     rintro x bF ⟨rfl,dj⟩
     have mZ:h.next<bF.next:=by have:=dj.next;rw [cO] at this;omega
     have cl:bF.get (ao h.next)=.aq [.int .i64 c.k,.int .i64 c.x,.int .i64 c.n,.str c.s,aN,aP,aw] 0 false:=by rw [dj.get _ (cZ (by rw [cO];omega)),gi]
     have s1:=bZ.trans dj
     have Ge:=(cU.ext s1).len
     have Gh:=(cw.ext s1).len
     cases nZ:(!hasB c false false false false||decide (0 < (c.a.length:Int))||decide ((c.l.length:Int)<2)) with
     | true=>
       have av:may ej c=false:=by rw [eC];grind
       cases a2:hasB c false false false false with
       | false=>
         simp +contextual only [cl,Ge,Gh,av,↓ad,af,simprocAttr]
         exact s1
       | true=>
         rw [a2,Bool.not_true,Bool.false_or] at nZ
         simp +contextual only [cl,Ge,Gh,nZ,av,↓ad,af,simprocAttr]
         exact s1
     | false=>
       have me:may ej c=hN ej c.l:=by rw [eC];grind
       have hlen:2≤c.l.length:=by grind
       have a2:hasB c false false false false=true:=by grind
       rw [a2,Bool.not_true,Bool.false_or] at nZ
       have aZ:IntKind.i64.wrap ((c.l.length:Int)-1)=((c.l.length-1:Nat):Int):=by rw [wrap_i64 (by omega) (by omega)];omega
       simp +contextual only [a2,cl,Ge,Gh,nZ,↓ad,af,simprocAttr]
       refine fw (fun r aa=>Ext h aa∧aa.get (ao h.next)=.aq [.int .i64 c.k,.int .i64 c.x,.int .i64 c.n,.str c.s,aN,aP,aw] 0 false∧h.next<aa.next∧r 1=.ptr (ao h.next) 0∧
        ∃i:Nat,r 3=.int .i64 i∧i≤c.l.length-1∧hN ej c.l=hN ej (c.l.drop i)) (fun r aa=>c.l.length - (r 3).gn) ?_ ?_
       · exact ⟨s1,cl,mZ,by simp only [↓ad,bj,simprocAttr],0,by simp only [↓ad,bj,simprocAttr]<;>rfl,by omega,rfl⟩
       · rintro r aa ⟨az,ah,a7,aU,i,cj,aG,cb⟩
         unfold LS
         have bW:=(cw.ext az).len
         by_cases aX:i<c.l.length-1
         · have bM:((i:Int) < ((c.l.length-1:Nat):Int))=True:=eq_true (by omega)
           have kJ:i<c.l.length:=by omega
           obtain ⟨b,o,u,b_,hu,cD,d'⟩:=(cw.ext az).at (k:=.i64) kJ
           rw [Pw (by omega),adN] at cb
           generalize rB:c.l[i]=f at *
           have g1:c.l[i]? =some f:=by rw [List.getElem?_eq_getElem kJ,rB]
           have w:=gq kJ (by omega)
           obtain ⟨Wx,Wy,Wz,WA,FW⟩:=(ns f5 g1).kids
           simp +contextual only [aU,cj,ah,bW,aZ,bM,b_,cD,↓ad,af,simprocAttr]
           refine aV (QQ true f u aa hu) ?_
           rintro x bz ⟨rfl,fM⟩
           have je:bz.get (ao h.next)=.aq [.int .i64 c.k,.int .i64 c.x,.int .i64 c.n,.str c.s,aN,aP,aw] 0 false:=by rw [fM.get _ (cZ a7)];exact ah
           cases bD:jF f true with
           | false=>
             have nx:may ej c=false:=by rw [me,cb,bD,Bool.false_and,Bool.false_and]
             simp +contextual only [je,nx,↓ad,af,simprocAttr]
             exact az.trans fM
           | true=>
             have e4:=WQ bD
             obtain ⟨fa,gz,gB,Aj,ON,rP,ab6⟩:=(cw.ext (az.trans fM)).at (k:=.i64) kJ
             rw [rB] at ON
             obtain ⟨c2,gx,cC,rfl,nc,nd,l1⟩:=ON.open
             have Da:=ab6 6 (by omega)
             rw [show ([V.int .i64 f.k,.int .i64 f.x,.int .i64 f.n,.str f.s,c2,gx,cC])[6]? =some cC from rfl] at Da
             obtain ⟨b1,dP,iQ,jf,fL,qM,_⟩:=l1.at (k:=.i64) (i:=0) (by omega)
             have b7:fc 7 cC (.int .i64 0)=some (.ptr b1 dP):=by simpa using jf
             have b2:jv 7 (bz.get b1) dP=some (.agg iQ):=by simpa using qM
             have hh:f.l[0]? =some f.l[0]:=List.getElem?_eq_getElem (by omega)
             simp +contextual only [aU,cj,je,Aj,Da,b7,b2,↓ad,af,simprocAttr]
             refine aV (IH N f.l[0] (by have:=oq g1;have:=oq hh;have:=p' f;omega) (ns FW hh) iQ bz fL) ?_
             rintro x cL ⟨rfl,qJ⟩
             have C2:=fM.trans qJ
             rw [acA f (by omega)] at cb
             cases hm:may ej f.l[0] with
             | false=>
               have nx:may ej c=false:=by rw [me,cb,hm,Bool.and_false,Bool.false_and]
               simp +contextual only [nx,↓ad,af,simprocAttr]
               exact az.trans C2
             | true=>
               simp +contextual only [aU,cj,w,↓ad,af,simprocAttr]
               exact ⟨⟨az.trans C2,by rw [C2.get _ (cZ a7)];exact ah,by have:=C2.next;omega,⟨i+1,rfl,by omega,by rw [cb,bD,hm];rfl⟩⟩,by omega⟩
         · have bM:((i:Int) < ((c.l.length-1:Nat):Int))=False:=eq_false (by omega)
           obtain rfl:i=c.l.length-1:=by omega
           obtain ⟨b,o,u,b_,hu,cD,_⟩:=(cw.ext az).at (k:=.i64) (i:=c.l.length-1) (by omega)
           simp +contextual only [aU,cj,ah,bW,aZ,bM,b_,cD,↓ad,af,simprocAttr]
           refine aV (et (c.l.length-1) _ aa u (List.getElem?_eq_getElem (by omega)) hu) ?_
           rintro x bz ⟨rfl,fM⟩
           have nx:may ej c=may ej (c.l[c.l.length-1]'(by omega)):=by rw [me,cb,Px (by omega)]
           simp +contextual only [nx,↓ad,af,simprocAttr]
           exact az.trans fM
   · have ef:=eq_false an
     have eC:=PA (own:=ej) an
     have c':ej false c=(eT c||jF c false):=rfl
     simp +contextual only [ef,↓ad,af,simprocAttr]
     refine aV (aeM c _ _ (H.ext bZ) (by omega) (by omega) (by omega)) ?_
     rintro x bF ⟨rfl,dj⟩
     have s1:=bZ.trans dj
     have mZ:h.next<bF.next:=by have:=dj.next;rw [cO] at this;omega
     have cl:bF.get (ao h.next)=.aq [.int .i64 c.k,.int .i64 c.x,.int .i64 c.n,.str c.s,aN,aP,aw] 0 false:=by rw [dj.get _ (cZ (by rw [cO];omega)),gi]
     have rest:∀(g:aj) (r:bV),Ext h g→g.get (ao h.next)=.aq [.int .i64 c.k,.int .i64 c.x,.int .i64 c.n,.str c.s,aN,aP,aw] 0 false→h.next<g.next→r 1=.ptr (ao h.next) 0→r 4=.int .i64 0→may ej c=iP ej c.l→
      ∀(aF:List iU) (Q:cW→bV→aj→Prop),(∀eI bT,Ext h eI→iP ej c.l=true→bR Tryz.prog aF (.exit 2) bT eI Q)→(∀eI bT,Ext h eI→iP ej c.l=false→bT 2=.bool false→bR Tryz.prog aF .ret bT eI Q)→uB Tryz.prog Fv aF r g Q:=by
      intro g r s eh a7 aQ cn js aF Q cr vr
      refine fw (fun r aa=>Ext h aa∧aa.get (ao h.next)=.aq [.int .i64 c.k,.int .i64 c.x,.int .i64 c.n,.str c.s,aN,aP,aw] 0 false∧h.next<aa.next∧r 1=.ptr (ao h.next) 0∧
       ∃i:Nat,r 4=.int .i64 i∧i≤c.l.length∧iP ej c.l=iP ej (c.l.drop i)) (fun r aa=>c.l.length - (r 4).gn) ?_ ?_
      · exact ⟨s,eh,a7,aQ,0,by rw [cn];rfl,by omega,rfl⟩
      · rintro r aa ⟨az,ah,a7,aU,i,c0,aG,cb⟩
        unfold Fv
        have bW:=(cw.ext az).len
        by_cases aX:i<c.l.length
        · have bM:((i:Int) < (c.l.length:Int))=True:=eq_true (by omega)
          obtain ⟨b,o,u,b_,hu,cD,_⟩:=(cw.ext az).at (k:=.i64) aX
          rw [List.drop_eq_getElem_cons aX,iP] at cb
          have w:=gq aX (by omega)
          simp +contextual only [aU,c0,ah,bW,bM,b_,cD,↓ad,af,simprocAttr]
          refine aV (et i _ aa u (List.getElem?_eq_getElem aX) hu) ?_
          rintro x bz ⟨rfl,fM⟩
          cases hm:may ej c.l[i] with
          | false=>
            simp +contextual only [↓ad,af,simprocAttr]
            exact vr _ _ (az.trans fM) (by rw [cb,hm];rfl) (by simp only [↓ad,bj,simprocAttr])
          | true=>
            simp +contextual only [aU,c0,w,↓ad,af,simprocAttr]
            exact ⟨⟨az.trans fM,by rw [fM.get _ (cZ a7)];exact ah,by have:=fM.next;omega,⟨i+1,rfl,aX,by rw [cb,hm,Bool.true_and]⟩⟩,by omega⟩
        · have bM:((i:Int) < (c.l.length:Int))=False:=eq_false (by omega)
          rw [List.drop_eq_nil_of_le (by omega)] at cb
          simp +contextual only [aU,c0,ah,bW,bM,↓ad,af,simprocAttr]
          exact cr _ _ az (by rw [cb];rfl)
     cases bD:eT c with
     | true=>
       have js:may ej c=iP ej c.l:=by rw [eC,c',bD];rfl
       simp +contextual only [cl,↓ad,af,simprocAttr]
       refine rest bF _ s1 cl mZ (by simp only [↓ad,bj,simprocAttr]) (by simp only [↓ad,bj,simprocAttr]) js _ _ ?_ ?_
       · intro eI bT m3 hm
         simp +contextual only [js,hm,↓ad,af,simprocAttr]
         exact m3
       · intro eI bT m3 hm aB
         simp +contextual only [js,hm,aB,↓ad,af,simprocAttr]
         exact m3
     | false=>
       simp +contextual only [cl,↓ad,af,simprocAttr]
       refine aV (QQ false c _ bF (H.ext s1)) ?_
       rintro x bz ⟨rfl,fM⟩
       have s2:=s1.trans fM
       have mf:h.next<bz.next:=by have:=fM.next;omega
       have dr:bz.get (ao h.next)=.aq [.int .i64 c.k,.int .i64 c.x,.int .i64 c.n,.str c.s,aN,aP,aw] 0 false:=by rw [fM.get _ (cZ mZ)];exact cl
       cases Of:jF c false with
       | false=>
         have nx:may ej c=false:=by rw [eC,c',bD,Of];rfl
         simp +contextual only [dr,nx,↓ad,af,simprocAttr]
         exact s2
       | true=>
         have js:may ej c=iP ej c.l:=by rw [eC,c',bD,Of];rfl
         simp +contextual only [dr,↓ad,af,simprocAttr]
         refine rest bz _ s2 dr mf (by simp only [↓ad,bj,simprocAttr]) (by simp only [↓ad,bj,simprocAttr]) js _ _ ?_ ?_
         · intro eI bT m3 hm
           simp +contextual only [js,hm,↓ad,af,simprocAttr]
           exact m3
         · intro eI bT m3 hm aB
           simp +contextual only [js,hm,aB,↓ad,af,simprocAttr]
           exact m3
theorem s3 (l m:List Int):cd (l++m)=cd l++cd m:=by simp [cd]
theorem uv (l:List Int):gh (cd l)=true:=by
 induction l with
 | nil=>rfl
 | cons x l bN=>exact bN
theorem Dw (h:aj) (x:Int) (B:Nat) (dJ:B≤h.next):cm B (h.new (.aq [.int .i64 x] 0 false)) 1 (.slice (ao h.next) 0 1 1) 1 (cd [x]):=
 ⟨rfl,rfl,by rw [cS];exact dJ,cZ (by rw [cO];omega),Nat.le_refl _,by unfold top;omega,[.int .i64 x],0,false,gi _,by simp,rfl⟩
theorem Ka (c:aY) (ai:List V) (h:aj) (H:eg h c ai) (av:fit 1048576 c) (fK:c.k=8→1≤c.l.length) (ua:c.k≠14):
 bB Tryz.prog 65 [.agg ai] h fun x aa=>cm (h.next+1) aa 1 x (ownNames c.k c.x c.l).length (cd (ownNames c.k c.x c.l))∧Ext h aa:=by
 obtain ⟨f1,f2,f3,f4,f5⟩:=av.kids
 obtain ⟨aN,aP,aw,rfl,cU,dU,cw⟩:=H.open
 refine US rfl (bP ?_)
 unfold Md
 have bZ:Ext h (h.new (.aq [.int .i64 c.k,.int .i64 c.x,.int .i64 c.n,.str c.s,aN,aP,aw] 0 false)):=(Ext.refl h).new _
 have sF:=eq_false ua
 by_cases c9:c.k=7
 · have gM:=eq_true c9
   simp +contextual only [gM,↓ad,af,simprocAttr]
   rw [show ownNames c.k c.x c.l=[c.x] from by rw [ownNames,if_pos c9]]
   exact ⟨Dw (h.new (.aq [.int .i64 c.k,.int .i64 c.x,.int .i64 c.n,.str c.s,aN,aP,aw] 0 false)) c.x _ (by rw [cO];omega),bZ.new _⟩
 have gM:=eq_false c9
 by_cases an:c.k=8
 · have hq:=eq_true an
   have e4:=fK an
   have bW:=(cw.ext bZ).len
   have aZ:IntKind.i64.wrap ((c.l.length:Int)-1)=((c.l.length-1:Nat):Int):=by rw [wrap_i64 (by omega) (by omega)];omega
   obtain ⟨dg,FK,zp⟩:=(cw.ext bZ).cut (k:=.i64) (m:=c.l.length-1) (by omega)
   have zI:=zp.len
   rw [List.length_take,Nat.min_eq_left (Nat.sub_le _ _)] at zI
   simp +contextual only [gM,hq,bW,aZ,FK,zI,↓ad,af,simprocAttr]
   have hE:ownNames c.k c.x c.l=c.l.dropLast.map aY.n:=by rw [ownNames,if_neg c9,if_pos an]
   refine fw (fun r aa=>Ext (h.new (.aq [.int .i64 c.k,.int .i64 c.x,.int .i64 c.n,.str c.s,aN,aP,aw] 0 false)) aa∧r 23=dg∧r 24=.int .i64 ((c.l.length-1:Nat):Int)∧
    ∃(i:Nat) (v:V),r 25=.int .i64 i∧i≤c.l.length-1∧r 3=v∧cm (h.next+1) aa 1 v i (cd ((c.l.take i).map aY.n))) (fun r aa=>c.l.length - (r 25).gn) ?_ ?_
   · exact ⟨Ext.refl _,by simp only [↓ad,bj,simprocAttr],by simp only [↓ad,bj,simprocAttr],0,.ay,by simp only [↓ad,bj,simprocAttr]<;>rfl,by omega,by simp only [↓ad,bj,simprocAttr],⟨rfl,rfl⟩⟩
   · rintro r aa ⟨az,tg,th,i,v,ti,aG,cj,bk⟩
     unfold Me
     by_cases aX:i<c.l.length-1
     · have bM:((i:Int) < ((c.l.length-1:Nat):Int))=True:=eq_true (by omega)
       have kJ:i<c.l.length:=by omega
       have xQ:i < (c.l.take (c.l.length-1)).length:=by rw [List.length_take];omega
       obtain ⟨b,o,u,b_,hu,cD,_⟩:=(zp.ext az).at (k:=.i64) xQ
       rw [List.getElem_take] at hu
       have mi:(c.l.take (i+1)).map aY.n=(c.l.take i).map aY.n++[c.l[i].n]:=by rw [List.take_add_one,List.getElem?_eq_getElem kJ,List.map_append];rfl
       generalize rB:c.l[i]=f at *
       obtain ⟨c2,gx,cC,rfl,nc,nd,l1⟩:=hu.open
       have w:=gq kJ (by omega)
       have dz:=nc.one.1
       have fi:=nd.one.1
       have gz:=l1.one.1
       have dj:Ext aa ((aa.new (.aq [.int .i64 0,.int .i64 0,.int .i64 0,.str [],.ay,.ay,.ay] 0 false)).set (ao aa.next) (.aq [.int .i64 f.k,.int .i64 f.x,.int .i64 f.n,.str f.s,c2,gx,cC] 0 false)):=((Ext.refl aa).new _).set (Nat.le_refl _) _
       have xR:=az.next
       rw [cO] at xR
       have qv:((aa.new (.aq [.int .i64 0,.int .i64 0,.int .i64 0,.str [],.ay,.ay,.ay] 0 false)).set (ao aa.next) (.aq [.int .i64 f.k,.int .i64 f.x,.int .i64 f.n,.str f.s,c2,gx,cC] 0 false)).next=aa.next+1:=by rw [gU,cO]
       simp +contextual only [cj,tg,th,ti,bM,b_,cD,dz,fi,gz,Bool.and_self,↓ad,af,simprocAttr]
       obtain ⟨v3,aC,aQ,aB,a',cn,ea⟩:=iW (cs:=[.int .i64 f.n]) (by omega) (bk.ext dj) (by rw [qv];omega) (by unfold top;omega) rfl rfl
       rw [qv] at aQ
       simp +contextual only [aQ,tg,th,ti,w,↓ad,af,simprocAttr]
       have qJ:Ext (h.new (.aq [.int .i64 c.k,.int .i64 c.x,.int .i64 c.n,.str c.s,aN,aP,aw] 0 false)) aC:=(az.trans dj).lf a' (fun b ah=>by rw [cO];exact bk.base ah)
       exact ⟨⟨qJ,⟨i+1,v3,rfl,by omega,rfl,by rw [mi,s3];exact aB⟩⟩,by omega⟩
     · have bM:((i:Int) < ((c.l.length-1:Nat):Int))=False:=eq_false (by omega)
       obtain rfl:i=c.l.length-1:=by omega
       simp +contextual only [cj,tg,th,ti,bM,↓ad,af,simprocAttr]
       rw [hE,List.dropLast_eq_take,List.length_map,List.length_take,Nat.min_eq_left (Nat.sub_le _ _)]
       exact ⟨bk,bZ.trans az⟩
 · have hq:=eq_false an
   simp +contextual only [gM,hq,sF,↓ad,af,simprocAttr]
   rw [show ownNames c.k c.x c.l=[] from by rw [ownNames,if_neg c9,if_neg an]]
   exact ⟨⟨rfl,rfl⟩,bZ⟩
theorem sl {M N:a6→Prop} {h ae ak:aj} (m:Mod M h ae) (e:Mod N ae ak) (e0:∀b,Old h b→N b→M b):Mod M h ak:=
 ⟨Nat.le_trans m.next e.next,fun b ah hm=>(e.get b (m.b6 ah) (fun q=>hm (e0 b ah q))).trans (m.get b ah hm)⟩
structure py (g:FuncId) (ah h:aj) (cM df:a6) (acc:List Int) (bn:V):Prop where
 ext:Ext ah h
 m0:h.get cM=.aq [bn] 0 false
 pV:h.get df=.aq [.func g [.ptr cM 0,.ptr df 0]] 0 false
 wA:Old h cM
 wz:Old h df
 H_:ah.next≤cu cM
 PN:ah.next≤cu df
 ne:cM≠df
 own:cm ah.next h 1 bn acc.length (cd acc)
 x':∀b,bn.bb b→b≠cM∧b≠df
theorem py.hi {g:FuncId} {ah h aa:aj} {cM df:a6} {acc:List Int} {bn:V} (O:py g ah h cM df acc bn) (e:Ext h aa):py g ah aa cM df acc bn:=
 ⟨O.ext.trans e,by rw [e.get _ O.wA];exact O.m0,by rw [e.get _ O.wz];exact O.pV,e.b6 O.wA,e.b6 O.wz,O.H_,O.PN,O.ne,O.own.ext e,O.x'⟩
theorem py.push {g:FuncId} {ah h aC:aj} {cM df:a6} {acc m:List Int} {bn v3:V} (O:py g ah h cM df acc bn) (aB:cm ah.next aC 1 v3 (acc.length+m.length) (cd acc++cd m)) (a':Mod bn.bb h aC) (ea:∀b,v3.bb b→bn.bb b∨h.next≤cu b):
 py g ah (aC.set cM (.aq [v3] 0 false)) cM df (acc++m) v3∧Mod (fun b=>b=cM∨bn.bb b) h (aC.set cM (.aq [v3] 0 false)):=by
 have uk:Mod (fun b=>b=cM∨bn.bb b) h (aC.set cM (.aq [v3] 0 false)):=(a'.mono fun b _ ah=>.inr ah).set (fun _=>.inl rfl) _
 have X2:Ext ah (aC.set cM (.aq [v3] 0 false)):=O.ext.lf uk (fun b ah=>by
  rcases ah with rfl | ah
  · exact O.H_
  · exact O.own.base ah)
 have RH:∀b,v3.bb b→b≠cM∧b≠df:=by
  intro b ah
  rcases ea b ah with q | q
  · exact O.x' b q
  · have ae:=O.wA
    have ak:=O.wz
    unfold Old at ae ak
    exact ⟨fun e=>by rw [e] at q;omega,fun e=>by rw [e] at q;omega⟩
 refine ⟨⟨X2,by rw [du,if_pos rfl],?_,?_,?_,O.H_,O.PN,O.ne,?_,RH⟩,uk⟩
 · rw [du,if_neg O.ne,a'.get _ O.wz (fun q=>(O.x' _ q).2 rfl)];exact O.pV
 · exact a'.b6 O.wA
 · exact a'.b6 O.wz
 · rw [List.length_append,s3]
   exact aB.mod (M:=fun b=>b=cM) ((Mod.refl (fun b=>b=cM) aC).set (b:=cM) (fun _=>rfl) (.aq [v3] 0 false)) (fun b ah=>(RH b ah).1)
theorem P7 (N:Nat) (bN:∀c:aY,size c≤N→(order c).length+1≤3 * size c) (late:Bool) (x:Int):∀(l:List aY) (i:Nat),(∀d ∈ l,size d≤N)→(jj late x l i).length+l.length≤3 * na l + (if late=true∧i≤1 then 1 else 0)
 | [],i,_=>by simp [jj]
 | d::l,i,cc=>by
   have ae:=bN d (cc d (by simp))
   have ak:=P7 N bN late x l (i+1) (fun e he=>cc e (by simp [he]))
   simp only [jj,na,List.length_append,List.length_cons]
   by_cases aD:late=true
   · subst aD
     by_cases al:i=0
     · subst al
       simp at ak ⊢
       omega
     · by_cases dN:i=1
       · subst dN
         simp at ak ⊢
         omega
       · have aI:(i == 1)=false:=by simpa using dN
         have bh:¬(i≤1):=by omega
         have cp:¬(i+1≤1):=by omega
         simp [aI,bh,al] at ak ⊢
         omega
   · have:late=false:=by simpa using aD
     subst this
     simp at ak ⊢
     omega
theorem P6:∀(N:Nat) (c:aY),size c≤N→(order c).length+1≤3 * size c
 | 0,c,h=>by have:=size_pos c;omega
 | N+1,c,h=>by
   obtain ⟨k,x,n,s,a,t,l⟩:=c
   simp only [size] at h ⊢
   have ae:=P7 N (P6 N) (dS k) x l 0 (fun d cc=>by have:=DW cc;omega)
   simp only [order,List.length_append]
   by_cases c9:k=7
   · subst c9
     have aI:(ownNames 7 x l).length=1:=rfl
     have bh:dS 7=false:=rfl
     rw [bh] at ae ⊢
     simp at ae
     omega
   · by_cases fK:k=8
     · subst fK
       have aI:(ownNames 8 x l).length≤l.length:=by rw [ownNames,if_neg (by decide),if_pos rfl,List.length_map,List.length_dropLast];omega
       have bh:dS 8=false:=rfl
       rw [bh] at ae ⊢
       simp at ae
       omega
     · have aI:(ownNames k x l).length=0:=by rw [ownNames,if_neg c9,if_neg fK];rfl
       have cp:(if dS k=true∧0≤1 then 1 else 0)≤1:=by split<;>omega
       omega
theorem Im (c:aY):(order c).length≤3 * size c:=by have:=P6 _ c (Nat.le_refl _);omega
theorem AG:∀{l:List aY} {i:Nat} {c:aY},rY l→l[i]? =some c→qT c
 | [],_,_,_,h=>by simp at h
 | d::l,0,c,av,h=>by simp only [List.getElem?_cons_zero,Option.some.injEq] at h;subst h;exact av.1
 | d::l,i+1,c,av,h=>AG av.2 (by simpa using h)
theorem P5:∀(N:Nat) (c:aY),size c≤N→fit 1048576 c→qT c→∀(ai:List V) (ah:aj),eg ah c ai→∀(h:aj) (cM df:a6) (acc:List Int) (bn:V),py 64 ah h cM df acc bn→acc.length + (order c).length≤8000000→
 bB Tryz.prog 64 [.agg ai,.ptr cM 0,.ptr df 0] h fun x aa=>∃jK,py 64 ah aa cM df (acc++order c) jK∧(∀b,jK.bb b→bn.bb b∨h.next≤cu b)∧Mod (fun b=>b=cM∨bn.bb b) h aa
 | 0,c,aM,_,_,_,_,_,_,_,_,_,_,_,_=>by have:=size_pos c;omega
 | N+1,c,aM,av,cb,ai,ah,H,h,cM,df,acc,bn,O,aK=>by
   obtain ⟨f1,f2,f3,f4,f5⟩:=av.kids
   have m1:=p' c
   obtain ⟨aN,aP,aw,rfl,cU,dU,cw⟩:=H.open
   have jx:=H
   refine UR rfl (bP ?_)
   unfold Mb
   have bZ:Ext h (h.new (.aq [.int .i64 c.k,.int .i64 c.x,.int .i64 c.n,.str c.s,aN,aP,aw] 0 false)):=(Ext.refl h).new _
   have E4:=O.hi bZ
   simp +contextual only [E4.m0,↓ad,bj,cW.ends,fb,oneOf,top,↓reduceIte,Nat.reduceEqDiff,Nat.reduceLeDiff,Nat.reduceAdd,Nat.reduceSub,Nat.reduceMul,reduceCtorEq,Int.reduceEq,Int.reduceLT,Int.reduceLE,Int.reduceNeg]
   have vK:(c.k=8→1≤c.l.length)∧c.k≠14∧(dS c.k=true→c.l.length=2)∧rY c.l:=by cases c;exact cb
   obtain ⟨bQ,cB,fX,jJ⟩:=vK
   refine aV (Ka c _ _ (H.ext (O.ext.trans bZ)) av bQ cB) ?_
   rintro x bF ⟨hE,dj⟩
   have hT:=E4.hi dj
   have Zw:=bZ.trans dj
   have W7:h.next<bF.next:=by have:=dj.next;rw [cO] at this;omega
   have cl:bF.get (ao h.next)=.aq [.int .i64 c.k,.int .i64 c.x,.int .i64 c.n,.str c.s,aN,aP,aw] 0 false:=by rw [dj.get _ (cZ (by rw [cO];omega)),gi]
   have aip:=Im c
   have aiq:(ownNames c.k c.x c.l).length≤(order c).length:=by
    cases c
    simp only [order,List.length_append,aY.k,aY.x,aY.l]
    omega
   obtain ⟨v3,aC,aQ,aB,a',ea⟩:=sw (by omega) hT.own hE.v (hT.ext.next) (by unfold top;omega) (uv _)
   obtain ⟨qf,fY⟩:=hT.push aB a' ea
   have Ow:cu cM<h.next:=O.wA
   have pT:∀b,bn.bb b→cu b<h.next:=fun b ah=>O.own.v.b6 ah
   have G8:(ao h.next=cM)=False:=eq_false (fun e=>by rw [←e,cS] at Ow;omega)
   have iM:(aC.set cM (.aq [v3] 0 false)).get (ao h.next)=.aq [.int .i64 c.k,.int .i64 c.x,.int .i64 c.n,.str c.s,aN,aP,aw] 0 false:=by
    have a7:¬(ao h.next=cM∨bn.bb (ao h.next)):=by
     rintro (e | e)
     · exact G8.mp e
     · have:=pT _ e
       rw [cS] at this
       omega
    rw [fY.get _ (cZ W7) a7]
    exact cl
   have Xr:aC.get cM=.aq [bn] 0 false:=by rw [a'.get _ hT.wA (fun q=>(O.x' _ q).1 rfl)];exact hT.m0
   have Zl:v3.one=true:=aB.v.one.1
   have Zj:v3.cells=[v3]:=aB.v.one.2.1
   have XC:=(cw.ext qf.ext).len
   simp +contextual only [E4.m0,hT.m0,Xr,cl,iM,aQ,Zl,Zj,XC,↓ad,bj,cW.ends,fb,oneOf,top,↓reduceIte,Nat.reduceEqDiff,Nat.reduceLeDiff,Nat.reduceAdd,Nat.reduceSub,Nat.reduceMul,reduceCtorEq,Int.reduceEq,Int.reduceLT,Int.reduceLE,Int.reduceNeg]
   generalize aC.set cM (.aq [v3] 0 false)=hc at *
   have ad':∀b,v3.bb b→bn.bb b∨h.next≤cu b:=fun b ah=>(ea b ah).imp id (fun q=>by omega)
   have acq:Mod (fun b=>b=cM∨bn.bb b) h hc:=(Zw.mod _).trans fY
   have W8:h.next<hc.next:=by have:=fY.next;omega
   have YJ:cu df<h.next:=O.wz
   refine fw (fun r aa=>r 1=.ptr cM 0∧r 2=.ptr df 0∧r 3=.ptr (ao h.next) 0∧r 11=aw∧r 12=.int .i64 c.l.length∧h.next<aa.next∧aa.get (ao h.next)=.aq [.int .i64 c.k,.int .i64 c.x,.int .i64 c.n,.str c.s,aN,aP,aw] 0 false∧Mod (fun b=>b=cM∨bn.bb b) h aa∧
    ∃(i:Nat) (done:List Int) (w:V),r 13=.int .i64 i∧i≤c.l.length∧py 64 ah aa cM df done w∧(∀b,w.bb b→(bn.bb b∨h.next≤cu b)∧b≠ao h.next)∧done++jj (dS c.k) c.x (c.l.drop i) i=acc++order c) (fun r aa=>c.l.length - (r 13).gn) ?_ ?_
   · refine ⟨by simp only [↓ad,bj,↓reduceIte,Nat.reduceEqDiff,reduceCtorEq],by simp only [↓ad,bj,↓reduceIte,Nat.reduceEqDiff,reduceCtorEq],by simp only [↓ad,bj,↓reduceIte,Nat.reduceEqDiff,reduceCtorEq],by simp only [↓ad,bj,↓reduceIte,Nat.reduceEqDiff,reduceCtorEq],by simp only [↓ad,bj,↓reduceIte,Nat.reduceEqDiff,reduceCtorEq],W8,iM,acq,0,acc++ownNames c.k c.x c.l,v3,by simp only [↓ad,bj,↓reduceIte,Nat.reduceEqDiff,reduceCtorEq]<;>rfl,by omega,qf,fun b ah=>⟨ad' b ah,?_⟩,?_⟩
     · rintro rfl
       rcases ea _ ah with q | q
       · have:=pT _ q;rw [cS] at this;omega
       · rw [cS] at q;omega
     · cases c
       simp only [order,List.append_assoc,List.drop_zero,aY.k,aY.x,aY.l]
   · rintro r aa ⟨aU,bm,cj,kQ,pf,a7,nv,uk,i,done,w,pg,aG,sm,hw,hs⟩
     unfold Mc
     by_cases aX:i<c.l.length
     · have bM:((i:Int) < (c.l.length:Int))=True:=eq_true (by omega)
       obtain ⟨b,o,u,b_,hu,hM⟩:=cw.kF (k:=.i64) aX
       have cD:=(hM aa sm.ext).1
       rw [List.drop_eq_getElem_cons aX,jj] at hs
       have g1:c.l[i]? =some c.l[i]:=List.getElem?_eq_getElem aX
       generalize rB:c.l[i]=f at *
       obtain ⟨c2,gx,cC,rfl,nc,nd,l1⟩:=hu.open
       have gD:=gq aX (by omega)
       have dz:=nc.one.1
       have fi:=nd.one.1
       have gz:=l1.one.1
       have dj:Ext aa ((aa.new (.aq [.int .i64 0,.int .i64 0,.int .i64 0,.str [],.ay,.ay,.ay] 0 false)).set (ao aa.next) (.aq [.int .i64 f.k,.int .i64 f.x,.int .i64 f.n,.str f.s,c2,gx,cC] 0 false)):=((Ext.refl aa).new _).set (Nat.le_refl _) _
       have qv:((aa.new (.aq [.int .i64 0,.int .i64 0,.int .i64 0,.str [],.ay,.ay,.ay] 0 false)).set (ao aa.next) (.aq [.int .i64 f.k,.int .i64 f.x,.int .i64 f.n,.str f.s,c2,gx,cC] 0 false)).next=aa.next+1:=by rw [gU,cO]
       have hD:((aa.new (.aq [.int .i64 0,.int .i64 0,.int .i64 0,.str [],.ay,.ay,.ay] 0 false)).set (ao aa.next) (.aq [.int .i64 f.k,.int .i64 f.x,.int .i64 f.n,.str f.s,c2,gx,cC] 0 false)).get (ao aa.next)=.aq [.int .i64 f.k,.int .i64 f.x,.int .i64 f.n,.str f.s,c2,gx,cC] 0 false:=by rw [du,if_pos rfl]
       have Ay:(aa.next=h.next)=False:=eq_false (by omega)
       have Az:(h.next=aa.next)=False:=eq_false (by omega)
       have ya:(ao aa.next=df)=False:=eq_false (fun e=>by rw [←e,cS] at YJ;omega)
       have wv:(ao aa.next=cM)=False:=eq_false (fun e=>by rw [←e,cS] at Ow;omega)
       have o1:∀(w:V),(∀b,w.bb b→b≠ao h.next)→¬(ao h.next=cM∨w.bb (ao h.next)):=by
        rintro w hw (e | e)
        · exact G8.mp e
        · exact hw _ e rfl
       have after:∀(G:aj) (zs:List Int) (aW:V),py 64 ah G cM df zs aW→h.next<G.next→G.get (ao h.next)=.aq [.int .i64 c.k,.int .i64 c.x,.int .i64 c.n,.str c.s,aN,aP,aw] 0 false→Mod (fun b=>b=cM∨bn.bb b) h G→
        (∀b,aW.bb b→(bn.bb b∨h.next≤cu b)∧b≠ao h.next)→zs.length + (order f).length≤8000000→
        bB Tryz.prog 64 [.agg [.int .i64 f.k,.int .i64 f.x,.int .i64 f.n,.str f.s,c2,gx,cC],.ptr cM 0,.ptr df 0] G fun x bz=>∃dw,py 64 ah bz cM df (zs++order f) dw∧h.next<bz.next∧bz.get (ao h.next)=.aq [.int .i64 c.k,.int .i64 c.x,.int .i64 c.n,.str c.s,aN,aP,aw] 0 false∧Mod (fun b=>b=cM∨bn.bb b) h bz∧
         (∀b,dw.bb b→(bn.bb b∨h.next≤cu b)∧b≠ao h.next):=by
        intro G zs aW rh xH Xx Xz Gf Xy
        refine (P5 N f (by have:=oq g1;omega) (ns f5 g1) (AG jJ g1) _ ah hu G cM df zs aW rh Xy).mono ?_
        rintro x bz ⟨dw,kZ,ca,b'⟩
        refine ⟨dw,kZ,by have:=b'.next;omega,?_,?_,?_⟩
        · rw [b'.get _ (cZ xH) (o1 aW fun b ah=>(Gf b ah).2)];exact Xx
        · refine sl Xz b' fun b ah e0=>?_
          rcases e0 with e | e
          · exact .inl e
          · rcases (Gf b e).1 with q | q
            · exact .inr q
            · unfold Old at ah;omega
        · intro b ah
          rcases ca b ah with q | q
          · exact Gf b q
          · exact ⟨.inr (by omega),by rintro rfl;rw [cS] at q;omega⟩
       have Om:Mod (fun b=>b=cM∨bn.bb b) h ((aa.new (.aq [.int .i64 0,.int .i64 0,.int .i64 0,.str [],.ay,.ay,.ay] 0 false)).set (ao aa.next) (.aq [.int .i64 f.k,.int .i64 f.x,.int .i64 f.n,.str f.s,c2,gx,cC] 0 false)):=sl uk (dj.mod fun _=>False) (fun _ _ q=>q.elim)
       have N6:((aa.new (.aq [.int .i64 0,.int .i64 0,.int .i64 0,.str [],.ay,.ay,.ay] 0 false)).set (ao aa.next) (.aq [.int .i64 f.k,.int .i64 f.x,.int .i64 f.n,.str f.s,c2,gx,cC] 0 false)).get (ao h.next)=.aq [.int .i64 c.k,.int .i64 c.x,.int .i64 c.n,.str c.s,aN,aP,aw] 0 false:=by rw [dj.get _ (cZ a7)];exact nv
       have rh:=sm.hi dj
       by_cases g2:dS c.k=true∧i=1
       · obtain ⟨vG,rfl⟩:=g2
         have oV:(if (dS c.k&&(1:Nat) == 1)=true then [c.x] else [])=[c.x]:=by
          rw [if_pos]
          rw [vG];rfl
         rw [oV] at hs
         have hlen:=congrArg List.length hs
         simp only [List.length_append,List.length_cons,List.length_nil] at hlen
         have ue:(decide (c.k=2)||decide (c.k=11))=true:=by simpa [dS] using vG
         have pS:(((1:Nat):Int)=1)=True:=eq_true rfl
         obtain ⟨D_,k7,bw,b3,a3,a4,a5⟩:=iW (cs:=[.int .i64 c.x]) (by omega) rh.own rh.ext.next (by unfold top;omega) rfl rfl
         rw [qv] at bw
         obtain ⟨Sj,ob⟩:=rh.push (m:=[c.x]) b3 a3 (fun b ah=>(a5 b ah).imp id (fun q=>by omega))
         have Zm:D_.one=true:=b3.v.one.1
         have Zk:D_.cells=[D_]:=b3.v.one.2.1
         have Xs:k7.get cM=.aq [w] 0 false:=by rw [a3.get _ rh.wA (fun q=>(sm.x' _ q).1 rfl)];exact rh.m0
         have Xq:k7.get df=.aq [.func 64 [.ptr cM 0,.ptr df 0]] 0 false:=by rw [a3.get _ rh.wz (fun q=>(sm.x' _ q).2 rfl)];exact rh.pV
         have YH:Old ((aa.new (.aq [.int .i64 0,.int .i64 0,.int .i64 0,.str [],.ay,.ay,.ay] 0 false)).set (ao aa.next) (.aq [.int .i64 f.k,.int .i64 f.x,.int .i64 f.n,.str f.s,c2,gx,cC] 0 false)) (ao aa.next):=cZ (by rw [qv];omega)
         have Zs:∀b,w.bb b→cu b<aa.next:=fun b ah=>sm.own.v.b6 ah
         have Xp:k7.get (ao aa.next)=.aq [.int .i64 f.k,.int .i64 f.x,.int .i64 f.n,.str f.s,c2,gx,cC] 0 false:=by
          rw [a3.get _ YH (fun q=>by have:=Zs _ q;rw [cS] at this;omega)];exact hD
         have NY:k7.get (ao h.next)=.aq [.int .i64 c.k,.int .i64 c.x,.int .i64 c.n,.str c.s,aN,aP,aw] 0 false:=by
          rw [a3.get _ (cZ (by rw [qv];omega)) (fun q=>(hw _ q).2 rfl)];exact N6
         have OB:(cM=ao h.next)=False:=eq_false (fun e=>G8.mp e.symm)
         have acT:(cM=ao aa.next)=False:=eq_false (fun e=>wv.mp e.symm)
         have ac4:(cM=df)=False:=eq_false O.ne
         simp +contextual only [aU,bm,cj,kQ,pf,pg,nv,sm.m0,sm.pV,pS,bM,b_,cD,dz,fi,gz,Ay,Az,ya,wv,ue,Bool.and_self,bw,Zm,Zk,Xs,Xq,Xp,NY,OB,acT,ac4,↓ad,bj,cW.ends,fb,oneOf,top,↓reduceIte,Nat.reduceEqDiff,Nat.reduceLeDiff,Nat.reduceAdd,Nat.reduceSub,Nat.reduceMul,reduceCtorEq,Int.reduceEq,Int.reduceLT,Int.reduceLE,Int.reduceNeg]
         refine aV (after _ (done++[c.x]) D_ Sj (by rw [gU];have:=a3.next;rw [qv] at this;omega) (by rw [du,if_neg (fun e=>OB.mp e)];exact NY) (sl Om ob fun b ah e0=>?_) (fun b ah=>?_) (by simp only [List.length_append,List.length_cons,List.length_nil];omega)) ?_
         · rcases e0 with e | e
           · exact .inl e
           · rcases (hw b e).1 with q | q
             · exact .inr q
             · unfold Old at ah;omega
         · rcases a5 b ah with q | q
           · exact hw b q
           · rw [qv] at q
             exact ⟨.inr (by omega),by rintro rfl;rw [cS] at q;omega⟩
         rintro x bz ⟨dw,kZ,ca,b',cE,fR⟩
         simp +contextual only [aU,bm,cj,kQ,pf,pg,gD,↓ad,bj,cW.ends,fb,oneOf,top,↓reduceIte,Nat.reduceEqDiff,Nat.reduceLeDiff,Nat.reduceAdd,Nat.reduceSub,Nat.reduceMul,reduceCtorEq,Int.reduceEq,Int.reduceLT,Int.reduceLE,Int.reduceNeg]
         exact ⟨⟨ca,b',cE,2,done++[c.x]++order f,dw,rfl,aX,kZ,fR,by rw [←hs];simp only [List.append_assoc]⟩,by omega⟩
       · have oV:(if (dS c.k&&i == 1)=true then [c.x] else [])=([]:List Int):=by
          rw [if_neg]
          simp only [Bool.and_eq_true,beq_iff_eq]
          exact g2
         rw [oV,List.nil_append] at hs
         have hlen:=congrArg List.length hs
         simp only [List.length_append,List.length_cons,List.length_nil] at hlen
         have ue:(decide ((i:Int)=1)&&(decide (c.k=2)||decide (c.k=11)))=false:=by
          rw [Bool.and_eq_false_iff]
          by_cases ae:i=1
          · right
            have:¬dS c.k=true:=fun q=>g2 ⟨q,ae⟩
            simpa [dS] using this
          · left
            exact decide_eq_false (by omega)
         simp +contextual only [aU,bm,cj,kQ,pf,pg,nv,sm.pV,bM,b_,cD,dz,fi,gz,Ay,Az,ya,wv,ue,Bool.and_self,↓ad,bj,cW.ends,fb,oneOf,top,↓reduceIte,Nat.reduceEqDiff,Nat.reduceLeDiff,Nat.reduceAdd,Nat.reduceSub,Nat.reduceMul,reduceCtorEq,Int.reduceEq,Int.reduceLT,Int.reduceLE,Int.reduceNeg]
         refine aV (after _ done w rh (by rw [qv];omega) N6 Om hw (by omega)) ?_
         rintro x bz ⟨dw,kZ,ca,b',cE,fR⟩
         simp +contextual only [aU,bm,cj,kQ,pf,pg,gD,↓ad,bj,cW.ends,fb,oneOf,top,↓reduceIte,Nat.reduceEqDiff,Nat.reduceLeDiff,Nat.reduceAdd,Nat.reduceSub,Nat.reduceMul,reduceCtorEq,Int.reduceEq,Int.reduceLT,Int.reduceLE,Int.reduceNeg]
         exact ⟨⟨ca,b',cE,i+1,done++order f,dw,rfl,aX,kZ,fR,by rw [List.append_assoc];exact hs⟩,by omega⟩
     · have bM:((i:Int) < (c.l.length:Int))=False:=eq_false (by omega)
       rw [List.drop_eq_nil_of_le (by omega),jj,List.append_nil] at hs
       simp +contextual only [aU,bm,cj,kQ,pf,pg,bM,↓ad,bj,cW.ends,fb,oneOf,top,↓reduceIte,Nat.reduceEqDiff,Nat.reduceLeDiff,Nat.reduceAdd,Nat.reduceSub,Nat.reduceMul,reduceCtorEq,Int.reduceEq,Int.reduceLT,Int.reduceLE,Int.reduceNeg]
       rw [←hs]
       exact ⟨w,sm,fun b ah=>(hw b ah).1,uk⟩
theorem JK (c:aY) (ai:List V) (h:aj) (H:eg h c ai) (av:fit 1048576 c) (cb:qT c) (aK:(order c).length≤8000000):
 bB Tryz.prog 45 [.agg ai] h fun x aa=>cm h.next aa 1 x (order c).length (cd (order c))∧Ext h aa:=by
 obtain ⟨aN,aP,aw,rfl,cU,dU,cw⟩:=H.open
 refine UE rfl (bP ?_)
 unfold LP
 simp +contextual only [↓ad,af,simprocAttr]
 generalize xH:((((h.new (.aq [.int .i64 c.k,.int .i64 c.x,.int .i64 c.n,.str c.s,aN,aP,aw] 0 false)).new (.aq [.ay] 0 false)).new (.aq [.kN] 0 false)).set (ao (h.next+2)) (.aq [.func 64 [.ptr (ao (h.next+1)) 0,.ptr (ao (h.next+2)) 0]] 0 false))=G at *
 have az:Ext h G:=by rw [←xH];exact (((Ext.refl h).new _).new _ |>.new _).set (by omega) _
 have a7:G.next=h.next+3:=by rw [←xH];simp only [gU,cO]
 have bF:G.get (ao (h.next+1))=.aq [.ay] 0 false:=by
  rw [←xH,du,if_neg (by rw [iH];omega),eB,if_neg (by simp only [cO];rw [iH];omega),eB,if_pos (by simp only [cO])]
 have bz:G.get (ao (h.next+2))=.aq [.func 64 [.ptr (ao (h.next+1)) 0,.ptr (ao (h.next+2)) 0]] 0 false:=by rw [←xH,du,if_pos rfl]
 have O:py 64 h G (ao (h.next+1)) (ao (h.next+2)) [] .ay:=⟨az,bF,bz,cZ (by omega),cZ (by omega),by rw [cS];omega,by rw [cS];omega,by rw [Ne,iH];omega,⟨rfl,rfl⟩,fun b ah=>ah.elim⟩
 refine aV (P5 (size c) c (Nat.le_refl _) av cb _ h H G _ _ [] .ay O (by simpa using aK)) ?_
 rintro x aa ⟨w,BV,ca,b'⟩
 rw [List.nil_append] at BV
 simp +contextual only [BV.m0,↓ad,af,simprocAttr]
 exact ⟨BV.own,BV.ext⟩
theorem P8 {x:Int}:∀{l:List aY} (h:l.length=2),jj true x l 0=order (l[0]'(by omega))++[x]++order (l[1]'(by omega))
 | [p,q],_=>by simp [jj]
structure Grown (ah al:aj) (v0:V) (h:aj) (l:List Int) (v:V):Prop where
 ext:Ext ah h
 own:cm ah.next h 1 v l.length (cd l)
 mod:Mod v0.bb al h
 new:∀b,v.bb b→v0.bb b∨al.next≤cu b
theorem Grown.start {ah h:aj} {l:List Int} {v:V} (e:Ext ah h) (o:cm ah.next h 1 v l.length (cd l)):Grown ah h v h l v:=⟨e,o,Mod.refl _ _,fun b ah=>.inl ah⟩
theorem Grown.hi {ah al h aa:aj} {v0 v:V} {l:List Int} (G:Grown ah al v0 h l v) (e:Ext h aa):Grown ah al v0 aa l v:=
 ⟨G.ext.trans e,G.own.ext e,sl G.mod (e.mod fun _=>False) (fun _ _ q=>q.elim),G.new⟩
theorem Grown.off {ah al h:aj} {v0 v:V} {l:List Int} (G:Grown ah al v0 h l v) {b:a6} (bD:Old al b) (a7:¬v0.bb b):¬v.bb b:=by
 intro q
 rcases G.new b q with e | e
 · exact a7 e
 · unfold Old at bD;omega
theorem Grown.step {ah al h aa:aj} {v0 v dg:V} {l m:List Int} (G:Grown ah al v0 h l v) (aB:cm ah.next aa 1 dg (l.length+m.length) (cd l++cd m)) (a':Mod v.bb h aa) (ea:∀b,dg.bb b→v.bb b∨h.next≤cu b):Grown ah al v0 aa (l++m) dg:=by
 refine ⟨G.ext.lf a' (fun b ah=>G.own.base ah),by rw [List.length_append,s3];exact aB,sl G.mod a' (fun b ah a2=>?_),fun b ah=>?_⟩
 · rcases G.new b a2 with e | e
   · exact e
   · unfold Old at ah;omega
 · have:=G.mod.next
   rcases ea b ah with e | e
   · exact G.new b e
   · exact .inr (by omega)
theorem Grown.call {ah al h aa:aj} {v0 v dg:V} {l m:List Int} (G:Grown ah al v0 h l v) (mG:Grown ah h v aa m dg):Grown ah al v0 aa m dg:=by
 refine ⟨mG.ext,mG.own,sl G.mod mG.mod (fun b ah a2=>?_),fun b ah=>?_⟩
 · rcases G.new b a2 with e | e
   · exact e
   · unfold Old at ah;omega
 · have:=G.mod.next
   rcases mG.new b ah with e | e
   · exact G.new b e
   · exact .inr (by omega)
set_option maxHeartbeats 2000000 in
theorem II:∀(N:Nat) (c:aY),size c≤N→fit 1048576 c→qT c→∀(ai:List V) (ah:aj),eg ah c ai→∀(h:aj) (acc:List Int) (bn:V),Ext ah h→cm ah.next h 1 bn acc.length (cd acc)→acc.length + (order c).length≤8000000→
 bB Tryz.prog 48 [.agg ai,bn] h fun x aa=>Grown ah h bn aa (acc++order c) x
 | 0,c,aM,_,_,_,_,_,_,_,_,_,_,_=>by have:=size_pos c;omega
 | N+1,c,aM,av,cb,ai,ah,H,h,acc,bn,CI,hE,aK=>by
   obtain ⟨f1,f2,f3,f4,f5⟩:=av.kids
   have m1:=p' c
   obtain ⟨aN,aP,aw,rfl,cU,dU,cw⟩:=H.open
   have vK:(c.k=8→1≤c.l.length)∧c.k≠14∧(dS c.k=true→c.l.length=2)∧rY c.l:=by cases c;exact cb
   obtain ⟨bQ,cB,fX,jJ⟩:=vK
   have et:∀(i:Nat) (d:aY) (u:List V) (g:aj) (l:List Int) (w:V),c.l[i]? =some d→eg ah d u→Ext ah g→cm ah.next g 1 w l.length (cd l)→l.length + (order d).length≤8000000→
    bB Tryz.prog 48 [.agg u,w] g fun x aa=>Grown ah g w aa (l++order d) x:=
    fun i d u g l w aG hu bp hw aK=>II N d (by have:=oq aG;omega) (ns f5 aG) (AG jJ aG) u ah hu g l w bp hw aK
   refine UH rfl (bP ?_)
   unfold LU
   have bZ:Ext h (h.new (.aq [.int .i64 c.k,.int .i64 c.x,.int .i64 c.n,.str c.s,aN,aP,aw] 0 false)):=(Ext.refl h).new _
   have u0:Grown ah h bn (h.new (.aq [.int .i64 c.k,.int .i64 c.x,.int .i64 c.n,.str c.s,aN,aP,aw] 0 false)) acc bn:=(Grown.start CI hE).hi bZ
   have Hp:∀b,bn.bb b→cu b<h.next:=fun b ah=>hE.v.b6 ah
   have sU:order c=ownNames c.k c.x c.l++jj (dS c.k) c.x c.l 0:=by cases c;rfl
   have eU:(h.new (.aq [.int .i64 c.k,.int .i64 c.x,.int .i64 c.n,.str c.s,aN,aP,aw] 0 false)).get (ao h.next)=.aq [.int .i64 c.k,.int .i64 c.x,.int .i64 c.n,.str c.s,aN,aP,aw] 0 false:=gi _
   have k3:(h.new (.aq [.int .i64 c.k,.int .i64 c.x,.int .i64 c.n,.str c.s,aN,aP,aw] 0 false)).next=h.next+1:=cO _ _
   have box:∀(g:aj) (l:List Int) (w:V),Grown ah (h.new (.aq [.int .i64 c.k,.int .i64 c.x,.int .i64 c.n,.str c.s,aN,aP,aw] 0 false)) bn g l w→g.get (ao h.next)=.aq [.int .i64 c.k,.int .i64 c.x,.int .i64 c.n,.str c.s,aN,aP,aw] 0 false∧h.next<g.next∧¬w.bb (ao h.next):=by
    intro g l w G
    have o1:¬bn.bb (ao h.next):=fun q=>by have:=Hp _ q;rw [cS] at this;omega
    exact ⟨by rw [G.mod.get _ (cZ (by rw [k3];omega)) o1];exact eU,by have:=G.mod.next;omega,G.off (cZ (by rw [k3];omega)) o1⟩
   have fin:∀(g:aj) (l:List Int) (w:V),Grown ah (h.new (.aq [.int .i64 c.k,.int .i64 c.x,.int .i64 c.n,.str c.s,aN,aP,aw] 0 false)) bn g l w→Grown ah h bn g l w:=fun g l w G=>u0.call G
   have j0:Grown ah (h.new (.aq [.int .i64 c.k,.int .i64 c.x,.int .i64 c.n,.str c.s,aN,aP,aw] 0 false)) bn (h.new (.aq [.int .i64 c.k,.int .i64 c.x,.int .i64 c.n,.str c.s,aN,aP,aw] 0 false)) acc bn:=Grown.start u0.ext u0.own
   generalize vs:(h.new (.aq [.int .i64 c.k,.int .i64 c.x,.int .i64 c.n,.str c.s,aN,aP,aw] 0 false))=hS at *
   have loop:∀(g:aj) (l:List Int) (w:V) (r:bV) (aF:List iU) (Q:cW→bV→aj→Prop),Grown ah hS bn g l w→dS c.k=false→l++jj (dS c.k) c.x c.l 0=acc++order c→r 1=w→r 2=.ptr (ao h.next) 0→r 6=.int .i64 0→
    (∀eI aW bT,Grown ah hS bn eI (acc++order c) aW→bT 1=aW→bR Tryz.prog aF (.exit 3) bT eI Q)→uB Tryz.prog Fw aF r g Q:=by
    intro g l w r aF Q G g2 gO aQ aB fy dh
    refine fw (fun r aa=>r 2=.ptr (ao h.next) 0∧∃(i:Nat) (done:List Int) (w:V),r 6=.int .i64 i∧i≤c.l.length∧r 1=w∧Grown ah hS bn aa done w∧done++jj (dS c.k) c.x (c.l.drop i) i=acc++order c) (fun r aa=>c.l.length - (r 6).gn) ?_ ?_
    · exact ⟨aB,0,l,w,by rw [fy];rfl,by omega,aQ,G,by simpa using gO⟩
    · rintro r aa ⟨bm,i,done,w,mu,aG,aU,fH,hs⟩
      unfold Fw
      obtain ⟨dR,Du,_⟩:=box _ _ _ fH
      have bW:=(cw.ext fH.ext).len
      by_cases aX:i<c.l.length
      · have bM:((i:Int) < (c.l.length:Int))=True:=eq_true (by omega)
        obtain ⟨b,o,u,b_,hu,hM⟩:=cw.kF (k:=.i64) aX
        have cD:=(hM aa fH.ext).1
        have gD:=gq aX (by omega)
        rw [List.drop_eq_getElem_cons aX,jj] at hs
        have oV:(if (dS c.k&&i == 1)=true then [c.x] else [])=([]:List Int):=by rw [g2];rfl
        rw [oV,List.nil_append] at hs
        have hlen:=congrArg List.length hs
        simp only [List.length_append] at hlen
        simp +contextual only [aU,bm,mu,dR,bW,bM,b_,cD,↓ad,af,simprocAttr]
        refine aV (et i _ u aa done w (List.getElem?_eq_getElem aX) hu fH.ext fH.own (by omega)) ?_
        rintro x bz fm
        simp +contextual only [bm,mu,gD,↓ad,af,simprocAttr]
        exact ⟨⟨i+1,done++order c.l[i],x,rfl,aX,rfl,fH.call fm,by rw [List.append_assoc];exact hs⟩,by omega⟩
      · have bM:((i:Int) < (c.l.length:Int))=False:=eq_false (by omega)
        rw [List.drop_eq_nil_of_le (by omega),jj,List.append_nil] at hs
        rw [hs] at fH
        simp +contextual only [aU,bm,mu,dR,bW,bM,↓ad,af,simprocAttr]
        exact dh _ w _ fH (by simp only [aU,↓ad,bj,simprocAttr])
   by_cases ak:c.k=2
   · have bh:=eq_true ak
     have g2:dS c.k=true:=by simp [dS,ak]
     have g8:=fX g2
     obtain ⟨b,o,u,b_,hu,hM⟩:=cw.kF (k:=.i64) (i:=0) (by omega)
     obtain ⟨b1,dP,iQ,jf,fL,s6⟩:=cw.kF (k:=.i64) (i:=1) (by omega)
     have b7:fc 7 aw (.int .i64 0)=some (.ptr b o):=by simpa using b_
     have cH:fc 7 aw (.int .i64 1)=some (.ptr b1 (dP+7)):=by simpa using jf
     have b2:∀g,Ext ah g→jv 7 (g.get b) o=some (.agg u):=fun g e=>by simpa using (hM g e).1
     have b9:∀g,Ext ah g→jv 7 (g.get b1) (dP+7)=some (.agg iQ):=fun g e=>by simpa using (s6 g e).1
     have Ab:order c=order c.l[0]++[c.x]++order c.l[1]:=by
      rw [sU,show ownNames c.k c.x c.l=[] from by rw [ownNames,if_neg (by omega),if_neg (by omega)],g2]
      rw [P8 g8]
      rfl
     have hlen:=congrArg List.length Ab
     simp only [List.length_append,List.length_cons,List.length_nil] at hlen
     simp +contextual only [vs,bh,eU,b7,b2 hS j0.ext,↓ad,af,simprocAttr]
     refine aV (et 0 _ u hS acc bn (List.getElem?_eq_getElem (by omega)) hu j0.ext j0.own (by omega)) ?_
     rintro x bz fm
     obtain ⟨cG,e6,dw⟩:=box _ _ _ fm
     have sG:Ext bz (bz.new (.aq [.int .i64 c.x] 0 false)):=(Ext.refl bz).new _
     obtain ⟨v3,aC,aQ,aB,a',cn,ea⟩:=iW (cs:=[.int .i64 c.x]) (by omega) fm.own fm.ext.next (by simp only [List.length_append];unfold top;omega) rfl rfl
     have hc:=fm.step (m:=[c.x]) aB a' (fun b ah=>(ea b ah).imp id (fun q=>by omega))
     obtain ⟨fa,PH,hF⟩:=box _ _ _ hc
     have zb:(bz.new (.aq [.int .i64 c.x] 0 false)).get (ao h.next)=.aq [.int .i64 c.k,.int .i64 c.x,.int .i64 c.n,.str c.s,aN,aP,aw] 0 false:=by rw [sG.get _ (cZ e6)];exact cG
     simp +contextual only [cG,zb,fa,aQ,cH,b9 bz fm.ext,b9 aC hc.ext,b9 _ (fm.ext.trans sG),↓ad,af,simprocAttr]
     refine aV (et 1 _ iQ aC (acc++order c.l[0]++[c.x]) v3 (List.getElem?_eq_getElem (by omega)) fL hc.ext hc.own (by simp only [List.length_append,List.length_cons,List.length_nil];omega)) ?_
     rintro y gy ka
     have yD:=hc.call ka
     obtain ⟨gZ,PI,h2⟩:=box _ _ _ yD
     have mV:Grown ah h bn gy (acc++order c) y:=by
      have:=fin _ _ _ yD
      rw [Ab]
      simpa only [List.append_assoc] using this
     simp +contextual only [cG,zb,fa,gZ,cH,b9 bz fm.ext,b9 aC hc.ext,b9 _ (fm.ext.trans sG),↓ad,af,simprocAttr]
     refine ⟨?_,mV⟩
     have:=b9 _ (fm.ext.trans sG)
     rw [eB] at this
     exact this
   have bh:=eq_false ak
   by_cases jd:c.k=11
   · have iA:=eq_true jd
     have g2:dS c.k=true:=by simp [dS,jd]
     have g8:=fX g2
     obtain ⟨b,o,u,b_,hu,hM⟩:=cw.kF (k:=.i64) (i:=0) (by omega)
     obtain ⟨b1,dP,iQ,jf,fL,s6⟩:=cw.kF (k:=.i64) (i:=1) (by omega)
     have b7:fc 7 aw (.int .i64 0)=some (.ptr b o):=by simpa using b_
     have cH:fc 7 aw (.int .i64 1)=some (.ptr b1 (dP+7)):=by simpa using jf
     have b2:∀g,Ext ah g→jv 7 (g.get b) o=some (.agg u):=fun g e=>by simpa using (hM g e).1
     have b9:∀g,Ext ah g→jv 7 (g.get b1) (dP+7)=some (.agg iQ):=fun g e=>by simpa using (s6 g e).1
     have Ab:order c=order c.l[0]++[c.x]++order c.l[1]:=by
      rw [sU,show ownNames c.k c.x c.l=[] from by rw [ownNames,if_neg (by omega),if_neg (by omega)],g2]
      rw [P8 g8]
      rfl
     have hlen:=congrArg List.length Ab
     simp only [List.length_append,List.length_cons,List.length_nil] at hlen
     simp +contextual only [vs,bh,iA,eU,b7,b2 hS j0.ext,↓ad,af,simprocAttr]
     refine aV (et 0 _ u hS acc bn (List.getElem?_eq_getElem (by omega)) hu j0.ext j0.own (by omega)) ?_
     rintro x bz fm
     obtain ⟨cG,e6,dw⟩:=box _ _ _ fm
     have sG:Ext bz (bz.new (.aq [.int .i64 c.x] 0 false)):=(Ext.refl bz).new _
     obtain ⟨v3,aC,aQ,aB,a',cn,ea⟩:=iW (cs:=[.int .i64 c.x]) (by omega) fm.own fm.ext.next (by simp only [List.length_append];unfold top;omega) rfl rfl
     have hc:=fm.step (m:=[c.x]) aB a' (fun b ah=>(ea b ah).imp id (fun q=>by omega))
     obtain ⟨fa,PH,hF⟩:=box _ _ _ hc
     have zb:(bz.new (.aq [.int .i64 c.x] 0 false)).get (ao h.next)=.aq [.int .i64 c.k,.int .i64 c.x,.int .i64 c.n,.str c.s,aN,aP,aw] 0 false:=by rw [sG.get _ (cZ e6)];exact cG
     simp +contextual only [cG,zb,fa,aQ,cH,b9 bz fm.ext,b9 aC hc.ext,b9 _ (fm.ext.trans sG),↓ad,af,simprocAttr]
     refine aV (et 1 _ iQ aC (acc++order c.l[0]++[c.x]) v3 (List.getElem?_eq_getElem (by omega)) fL hc.ext hc.own (by simp only [List.length_append,List.length_cons,List.length_nil];omega)) ?_
     rintro y gy ka
     have yD:=hc.call ka
     obtain ⟨gZ,PI,h2⟩:=box _ _ _ yD
     have mV:Grown ah h bn gy (acc++order c) y:=by
      have:=fin _ _ _ yD
      rw [Ab]
      simpa only [List.append_assoc] using this
     simp +contextual only [cG,zb,fa,gZ,cH,b9 bz fm.ext,b9 aC hc.ext,b9 _ (fm.ext.trans sG),↓ad,af,simprocAttr]
     refine ⟨?_,mV⟩
     have:=b9 _ (fm.ext.trans sG)
     rw [eB] at this
     exact this
   have iA:=eq_false jd
   have g2:dS c.k=false:=by simp [dS,ak,jd]
   by_cases c9:c.k=7
   · have gM:=eq_true c9
     have Ox:order c=[c.x]++jj (dS c.k) c.x c.l 0:=by rw [sU,ownNames,if_pos c9]
     have hlen:=congrArg List.length Ox
     simp only [List.length_append,List.length_cons,List.length_nil] at hlen
     obtain ⟨v3,aC,aQ,aB,a',cn,ea⟩:=iW (cs:=[.int .i64 c.x]) (by omega) j0.own j0.ext.next (by unfold top;omega) rfl rfl
     have hc:=j0.step (m:=[c.x]) aB a' (fun b ah=>(ea b ah).imp id (fun q=>by omega))
     simp +contextual only [vs,bh,iA,gM,eU,aQ,↓ad,af,simprocAttr]
     refine loop aC (acc++[c.x]) v3 _ _ _ hc g2 (by rw [Ox];simp only [List.append_assoc]) (by simp only [↓ad,bj,simprocAttr]) (by simp only [↓ad,bj,simprocAttr]) (by simp only [↓ad,bj,simprocAttr]) ?_
     intro eI aW bT mG ca
     simp +contextual only [ca,↓ad,af,simprocAttr]
     exact fin _ _ _ mG
   have gM:=eq_false c9
   by_cases fK:c.k=8
   · have hq:=eq_true fK
     have Oy:order c=c.l.dropLast.map aY.n++jj (dS c.k) c.x c.l 0:=by rw [sU,ownNames,if_neg c9,if_pos fK]
     have hlen:=congrArg List.length Oy
     simp only [List.length_append] at hlen
     have e4:=bQ fK
     have aZ:IntKind.i64.wrap ((c.l.length:Int)-1)=((c.l.length-1:Nat):Int):=by rw [wrap_i64 (by omega) (by omega)];omega
     simp +contextual only [vs,bh,iA,gM,hq,eU,↓ad,af,simprocAttr]
     refine fw (fun r aa=>r 2=.ptr (ao h.next) 0∧∃(i:Nat) (w:V),r 5=.int .i64 i∧i≤c.l.length-1∧r 1=w∧Grown ah hS bn aa (acc++(c.l.take i).map aY.n) w) (fun r aa=>c.l.length - (r 5).gn) ?_ ?_
     · exact ⟨by simp only [↓ad,bj,simprocAttr],0,bn,by simp only [↓ad,bj,simprocAttr]<;>rfl,by omega,by simp only [↓ad,bj,simprocAttr],by simpa using j0⟩
     · rintro r aa ⟨bm,i,w,e7,aG,aU,fH⟩
       unfold LV
       obtain ⟨dR,Du,_⟩:=box _ _ _ fH
       have bW:=(cw.ext fH.ext).len
       by_cases aX:i<c.l.length-1
       · have bM:((i:Int) < ((c.l.length-1:Nat):Int))=True:=eq_true (by omega)
         have kJ:i<c.l.length:=by omega
         obtain ⟨b,o,u,b_,hu,hM⟩:=cw.kF (k:=.i64) kJ
         have d':=(hM aa fH.ext).2
         have gD:=gq kJ (by omega)
         have mi:(c.l.take (i+1)).map aY.n=(c.l.take i).map aY.n++[c.l[i].n]:=by rw [List.take_add_one,List.getElem?_eq_getElem kJ,List.map_append];rfl
         have Ob:(c.l.dropLast.map aY.n).length=c.l.length-1:=by rw [List.length_map,List.length_dropLast]
         have qH:((c.l.take i).map aY.n).length=i:=by rw [List.length_map,List.length_take];omega
         generalize rB:c.l[i]=f at *
         obtain ⟨c2,gx,cC,rfl,nc,nd,l1⟩:=hu.open
         have eJ:=d' 2 (by omega)
         rw [show ([V.int .i64 f.k,.int .i64 f.x,.int .i64 f.n,.str f.s,c2,gx,cC])[2]? =some (.int .i64 f.n) from rfl] at eJ
         obtain ⟨v3,aC,aQ,aB,a',cn,ea⟩:=iW (cs:=[.int .i64 f.n]) (by omega) fH.own fH.ext.next (by rw [List.length_append,qH];unfold top;omega) rfl rfl
         have hc:=fH.step (m:=[f.n]) aB a' (fun b ah=>(ea b ah).imp id (fun q=>by omega))
         simp +contextual only [aU,bm,e7,dR,bW,aZ,bM,b_,eJ,aQ,gD,↓ad,af,simprocAttr]
         exact ⟨⟨i+1,v3,rfl,by omega,rfl,by rw [mi,←List.append_assoc];exact hc⟩,by omega⟩
       · have bM:((i:Int) < ((c.l.length-1:Nat):Int))=False:=eq_false (by omega)
         obtain rfl:i=c.l.length-1:=by omega
         simp +contextual only [aU,bm,e7,dR,bW,aZ,bM,↓ad,af,simprocAttr]
         refine loop aa _ w _ _ _ fH g2 (by rw [Oy,List.dropLast_eq_take];simp only [List.append_assoc]) (by simp only [aU,↓ad,bj,simprocAttr]) (by simp only [bm,↓ad,bj,simprocAttr]) (by simp only [↓ad,bj,simprocAttr]) ?_
         intro eI aW bT mG ca
         simp +contextual only [ca,↓ad,af,simprocAttr]
         exact fin _ _ _ mG
   have hq:=eq_false fK
   have YG:order c=jj (dS c.k) c.x c.l 0:=by rw [sU,ownNames,if_neg c9,if_neg fK,List.nil_append]
   simp +contextual only [vs,bh,iA,gM,hq,eU,↓ad,af,simprocAttr]
   refine loop hS acc bn _ _ _ j0 g2 (by rw [YG]) (by simp only [↓ad,bj,simprocAttr]) (by simp only [↓ad,bj,simprocAttr]) (by simp only [↓ad,bj,simprocAttr]) ?_
   intro eI aW bT mG ca
   simp +contextual only [ca,↓ad,af,simprocAttr]
   exact fin _ _ _ mG
def tK (l:List Int) (n:Int):Bool:=l.any (fun m=>decide (m=n))
theorem SU (l:List Int) (n:Int) (v:V) (h:aj) (H:cg h 1 v l.length (cd l)) (aK:l.length≤4611686018427387904):
 bB Tryz.prog 74 [v,.int .i64 n] h fun x aa=>x=.bool (tK l n)∧aa=h:=by
 refine U1 rfl (bP ?_)
 unfold Mo
 simp +contextual only [↓ad,af,simprocAttr]
 refine fw (fun r aa=>aa=h∧r 0=v∧r 1=.int .i64 n∧∃i:Nat,r 5=.int .i64 i∧i≤l.length∧tK l n=tK (l.drop i) n) (fun r aa=>l.length - (r 5).gn) ?_ ?_
 · exact ⟨rfl,by simp only [↓ad,bj,simprocAttr],by simp only [↓ad,bj,simprocAttr],0,by simp only [↓ad,bj,simprocAttr]<;>rfl,by omega,rfl⟩
 · rintro r aa ⟨rfl,bl,aU,i,e7,aG,cb⟩
   unfold Mp
   have bW:=H.len
   by_cases aX:i<l.length
   · have bM:((i:Int) < (l.length:Int))=True:=eq_true (by omega)
     obtain ⟨b,o,b_,cD⟩:=ints_at H (k:=.i64) aX
     rw [List.drop_eq_getElem_cons aX] at cb
     have w:=gq aX aK
     have aM:tK (l[i]::l.drop (i+1)) n=(decide (l[i]=n)||tK (l.drop (i+1)) n):=rfl
     rw [aM] at cb
     by_cases aD:l[i]=n
     · have e:=eq_true aD
       simp +contextual only [bl,aU,e7,bW,bM,b_,cD,e,↓ad,af,simprocAttr]
       rw [cb];simp [aD]
     · have e:=eq_false aD
       simp +contextual only [bl,aU,e7,bW,bM,b_,cD,e,w,↓ad,af,simprocAttr]
       exact ⟨⟨i+1,rfl,aX,by rw [cb];simp [aD]⟩,by omega⟩
   · have bM:((i:Int) < (l.length:Int))=False:=eq_false (by omega)
     rw [List.drop_eq_nil_of_le (by omega)] at cb
     simp +contextual only [bl,aU,e7,bW,bM,↓ad,af,simprocAttr]
     rw [cb];rfl
theorem wrap_add {a b:Nat} (h:a+b≤4611686018427387904):IntKind.i64.wrap ((a:Int) + (b:Int))=((a+b:Nat):Int):=by
 rw [wrap_i64 (by omega) (by omega)]
 push_cast;rfl
theorem Q_:∀(N:Nat) (c:aY),size c≤N→size c≤4611686018427387904→∀(ai:List V) (h:aj),eg h c ai→
 bB Tryz.prog 49 [.agg ai] h fun x aa=>x=.int .i64 (size c)∧Ext h aa
 | 0,c,aM,_,_,_,_=>by have:=size_pos c;omega
 | N+1,c,aM,av,ai,h,H=>by
   have m1:=p' c
   obtain ⟨aN,aP,aw,rfl,cU,dU,cw⟩:=H.open
   have gP:=IU c.l
   refine UI rfl (bP ?_)
   unfold LW
   have bZ:Ext h (h.new (.aq [.int .i64 c.k,.int .i64 c.x,.int .i64 c.n,.str c.s,aN,aP,aw] 0 false)):=(Ext.refl h).new _
   have bW:=(cw.ext bZ).len
   simp +contextual only [bW,↓ad,af,simprocAttr]
   refine fw (fun r aa=>Ext h aa∧r 7=aw∧r 8=.int .i64 c.l.length∧∃i a:Nat,r 9=.int .i64 i∧i≤c.l.length∧r 3=.int .i64 a∧a+na (c.l.drop i)=size c) (fun r aa=>c.l.length - (r 9).gn) ?_ ?_
   · exact ⟨bZ,by simp only [↓ad,bj,simprocAttr],by simp only [↓ad,bj,simprocAttr],0,1,by simp only [↓ad,bj,simprocAttr]<;>rfl,by omega,by simp only [↓ad,bj,simprocAttr]<;>rfl,by cases c;simp only [size,List.drop_zero,aY.l]⟩
   · rintro r aa ⟨az,fr,hZ,i,a,h0,aG,cj,bU⟩
     unfold LX
     by_cases aX:i<c.l.length
     · have bM:((i:Int) < (c.l.length:Int))=True:=eq_true (by omega)
       obtain ⟨b,o,u,b_,hu,hM⟩:=cw.kF (k:=.i64) aX
       have cD:=(hM aa az).1
       rw [List.drop_eq_getElem_cons aX,na] at bU
       have g1:c.l[i]? =some c.l[i]:=List.getElem?_eq_getElem aX
       have gd:=oq g1
       generalize rB:c.l[i]=f at *
       obtain ⟨c2,gx,cC,rfl,nc,nd,l1⟩:=hu.open
       have gD:=gq aX (by omega)
       have ag3:=wrap_add (a:=a) (b:=size f) (by omega)
       have dz:=nc.one.1
       have fi:=nd.one.1
       have gz:=l1.one.1
       have dj:Ext aa ((aa.new (.aq [.int .i64 0,.int .i64 0,.int .i64 0,.str [],.ay,.ay,.ay] 0 false)).set (ao aa.next) (.aq [.int .i64 f.k,.int .i64 f.x,.int .i64 f.n,.str f.s,c2,gx,cC] 0 false)):=((Ext.refl aa).new _).set (Nat.le_refl _) _
       simp +contextual only [cj,fr,hZ,h0,bM,b_,cD,dz,fi,gz,↓ad,af,simprocAttr]
       refine aV (Q_ N f (by omega) (by omega) _ _ (hu.ext (az.trans dj))) ?_
       rintro x bz ⟨rfl,fM⟩
       simp +contextual only [cj,fr,hZ,h0,gD,ag3,↓ad,af,simprocAttr]
       exact ⟨⟨(az.trans dj).trans fM,i+1,a+size f,rfl,aX,rfl,by omega⟩,by omega⟩
     · have bM:((i:Int) < (c.l.length:Int))=False:=eq_false (by omega)
       rw [List.drop_eq_nil_of_le (by omega),na] at bU
       simp +contextual only [cj,fr,hZ,h0,bM,↓ad,af,simprocAttr]
       exact ⟨by rw [←bU];rfl,az⟩
theorem HE {x:Int}:∀{o:List Int} {k:Nat} (an:k≤o.length),(∀(j:Nat) (h:j<k),o[j]'(by omega)<x)→(∀h:k<o.length,¬o[k]<x)→
 ins x o=if (∃h:k<o.length,o[k]=x) then o else o.take k++[x]++o.drop k
 | [],k,an,_,_=>by
   obtain rfl:k=0:=by simpa using an
   simp [ins]
 | y::o,0,an,_,ak=>by
   have:=ak (by simp)
   simp only [List.getElem_cons_zero] at this
   simp only [ins,if_neg this,List.getElem_cons_zero,List.length_cons,Nat.zero_lt_succ,exists_true_left,List.take_zero,List.nil_append,List.drop_zero,List.cons_append]
 | y::o,k+1,an,ae,ak=>by
   have al:=ae 0 (by omega)
   simp only [List.getElem_cons_zero] at al
   have bN:=HE (x:=x) (o:=o) (k:=k) (by simpa using an) (fun j bS=>by simpa using ae (j+1) (by omega)) (fun h=>by have:=ak (Nat.succ_lt_succ h);simp only [List.getElem_cons_succ] at this;exact this)
   simp only [ins,if_pos al,bN,List.getElem_cons_succ,List.length_cons,Nat.add_lt_add_iff_right,List.take_succ_cons,List.drop_succ_cons,List.cons_append]
   split<;>rfl
theorem OY (x:Int):∀o:List Int,(ins x o).length≤o.length+1
 | []=>by simp [ins]
 | y::o=>by
   have:=OY x o
   simp only [ins]
   split
   · simp only [List.length_cons];omega
   · split<;>simp
theorem aew (l:List Int):(rising l).length≤l.length:=by
 have:∀(l o:List Int),(l.foldl (fun o x=>ins x o) o).length≤o.length+l.length:=by
  intro l
  induction l with
  | nil=>intro o;simp
  | cons x l bN=>intro o;rw [List.foldl_cons];have:=bN (ins x o);have:=OY x o;simp only [List.length_cons];omega
 simpa [rising] using this l []
theorem cm.Wa {B:Nat} {h:aj} {size:Nat} {v:V} {n:Nat} {ai:List V} (H:cm B h size v n ai) {k:IntKind} {m:Nat} (hm:m≤n) (aJ:m≤top):
 ∃dg,gV size v none (some (.int k m)) (some (.int k m))=some dg∧cm B h size dg m (ai.take (m * size))∧∀b,dg.bb b→v.bb b:=by
 obtain ⟨aQ,aB⟩:=H
 have Yw:=Nat.mul_le_mul_right size hm
 have gP:(ai.take (m * size)).length=m * size:=by rw [List.length_take];omega
 cases v<;>simp only at aB<;>try (exact aB.elim)
 case ay=>
  subst aB
  obtain rfl:m=0:=by omega
  refine ⟨.ay,?_,⟨gP,rfl⟩,fun b ah=>ah⟩
  have e:=fun d=>ni (k:=k) (m:=0) (d:=d) (y:=0) (Nat.le_refl 0)
  simp only [gV,wK,e,mP]
 case slice b off len cap=>
  obtain ⟨rfl,a',cn,ea,fy,us,c3,st,fZ,gI,ky⟩:=aB
  have e:gV size (.slice b off len cap) none (some (.int k m)) (some (.int k m))=some (.slice b off m m):=by
   simp only [gV,p_,ni (k:=k) (m:=m) (d:=cap) (y:=cap) (by omega),ni (k:=k) (m:=m) (d:=len) (y:=m) (Nat.le_refl _),mP]
   cases Nat.beq m 0<;>simp
  rw [e]
  have aij:=Nat.mul_le_mul_right size (Nat.le_trans hm ea)
  refine ⟨_,rfl,⟨gP,rfl,a',cn,Nat.le_refl _,aJ,us,c3,st,fZ,by omega,?_⟩,fun b1 ah=>ah⟩
  rw [gP,←ky,List.take_take]
  congr 1
  omega
 case ev b off len idx=>
  obtain ⟨rfl,a',cn,rfl,rfl,us,st,fZ,gI,ky⟩:=aB
  have e:gV size (.ev b 0 len 0) none (some (.int k m)) (some (.int k m))=some (.slice b 0 m m):=by
   simp only [gV,pr,ni (k:=k) (m:=m) (d:=len) (y:=len) (by omega),ni (k:=k) (m:=m) (d:=len) (y:=m) (Nat.le_refl _),mP]
   cases Nat.beq m 0<;>simp
  rw [e]
  refine ⟨_,rfl,⟨gP,rfl,a',cn,Nat.le_refl _,aJ,us,size,st,fZ,by omega,?_⟩,fun b1 ah=>ah⟩
  rw [gP,List.drop_zero,←ky,List.take_take]
  congr 1
  omega
theorem cm.empty {B:Nat} {h:aj} (size:Nat) (dJ:B≤h.next):cm B (h.new (.aq [] 0 false)) size (.slice (ao h.next) 0 0 0) 0 []:=
 ⟨by simp,rfl,by rw [cS];exact dJ,cZ (by rw [cO];omega),Nat.le_refl _,Nat.zero_le _,[],0,false,gi _,by simp,by simp⟩
theorem cg.MS {h:aj} {B size:Nat} {v:V} {n:Nat} {ai:List V} (H:cm B h size v n ai):∀b off l c,v=.slice b off l c→l≤c:=by
 intro b off l c e
 subst e
 obtain ⟨_,rfl,_,_,q,_⟩:=H
 exact q
theorem ZR (l:List Int) (k:Nat):(cd l).drop k=cd (l.drop k):=by
 induction l generalizing k with
 | nil=>simp [cd]
 | cons x l bN=>cases k<;>simp [cd,bN]
theorem C7 (l:List Int) (k:Nat):(cd l).take k=cd (l.take k):=by
 induction l generalizing k with
 | nil=>simp [cd]
 | cons x l bN=>cases k<;>simp [cd,bN]
theorem ZP {B:Nat} {h:aj} {w:V} {o:List Int} (O:cm B h 1 w o.length (cd o)) (dJ:B≤h.next) {k:Nat} (an:k≤o.length) (aK:o.length+1≤top) (x:Int):
 ∃v1 v2 ak v3 v4 bq v5 dZ,gV 1 w (some (.int .i64 k)) none none=some v1∧l6 1 (.slice (ao h.next) 0 0 0) v1 (h.new (.aq [] 0 false))=.val v2 ak∧Ext h ak∧
  gV 1 w none (some (.int .i64 k)) (some (.int .i64 k))=some v3∧l6 1 v3 (.slice (ao ak.next) 0 1 1) (ak.new (.aq [.int .i64 x] 0 false))=.val v4 bq∧l6 1 v4 v2 bq=.val v5 dZ∧
  Mod w.bb h dZ∧cm B dZ 1 v5 (o.take k++[x]++o.drop k).length (cd (o.take k++[x]++o.drop k))∧∀b,v5.bb b→w.bb b∨h.next≤cu b:=by
 obtain ⟨v1,bw,b3,a3⟩:=O.v.cut (k:=.i64) (cf:=.i64) (cq:=k) (aG:=o.length) an (Nat.le_refl _) (some (.int .i64 k)) none (.inl rfl) (.inr ⟨rfl,rfl⟩) (cg.MS O)
 have cc:((cd o).drop (k * 1)).take ((o.length-k) * 1)=cd (o.drop k):=by
  rw [Nat.mul_one,Nat.mul_one,ZR,C7,List.take_of_length_le (by rw [List.length_drop];omega)]
 rw [cc] at b3
 have bZ:Ext h (h.new (.aq [] 0 false)):=(Ext.refl h).new _
 obtain ⟨v2,ak,b0,cG,fa,gZ⟩:=sw (B:=h.next) (Nat.le_refl 1) (cm.empty (h:=h) 1 (Nat.le_refl _)) (b3.ext bZ) (by rw [cO];omega) (by omega) (uv _)
 have bh:Ext h ak:=bZ.lf fa (fun b ah=>by
  have:b=ao h.next:=ah
  rw [this,cS];exact Nat.le_refl _)
 rw [List.nil_append,Nat.zero_add] at cG
 obtain ⟨v3,cl,dr,iM⟩:=cm.Wa (O.ext bh) (k:=.i64) (m:=k) an (by omega)
 rw [Nat.mul_one,C7] at dr
 obtain ⟨v4,bq,d1,d2,d3,d4,d5⟩:=iW (cs:=[.int .i64 x]) (Nat.le_refl 1) dr (Nat.le_trans dJ bh.next) (by omega) rfl rfl
 have Zh:cm h.next bq 1 v2 (o.length-k) (cd (o.drop k)):=cG.mod d3 (fun b aQ aB=>by
  have f1:=cG.base aQ
  have f2:cu b<h.next:=O.v.b6 (iM b aB)
  omega)
 obtain ⟨v5,dZ,f1,f2,f3,f4⟩:=sw (Nat.le_refl 1) d2 Zh.v (by have:=bh.next;omega) (by omega) (uv _)
 have ob:Mod w.bb h bq:=sl (bh.mod _) d3 (fun b _ q=>iM b q)
 refine ⟨v1,v2,ak,v3,v4,bq,v5,dZ,bw,b0,bh,cl,d1,f1,sl ob f3 (fun b bD q=>?_),?_,fun b ah=>?_⟩
 · rcases d5 b q with q | q
   · exact iM b q
   · have:=bh.next
     unfold Old at bD
     omega
 · have:(o.take k++[x]++o.drop k).length=k+1 + (o.length-k):=by
    simp only [List.length_append,List.length_take,List.length_drop,List.length_cons,List.length_nil]
    omega
   rw [this,s3,s3]
   exact f2
 · have:=bh.next
   rcases f4 b ah with q | q
   · rcases d5 b q with q | q
     · exact .inl (iM b q)
     · exact .inr (by omega)
   · exact .inr (by omega)
theorem ZT {h:aj} {l:List Int} {v:V} (H:cg h 1 v l.length (cd l)) {k:IntKind} {i:Nat} (aG:i<l.length):
 ∃b off,fc 1 v (.int k i)=some (.ptr b (off+i * 1))∧∀aa,Ext h aa→hX (aa.get b) (off+i * 1)=some (.int .i64 l[i]):=by
 obtain ⟨b,off,aI,bh⟩:=H.b_ (k:=k) aG
 refine ⟨b,off,aI,fun aa az=>?_⟩
 rw [Nat.mul_one,(bh.ext az).b9 (by rw [la];exact aG)]
 simp [cd]
set_option maxHeartbeats 1000000 in
theorem QR (l:List Int) (v:V) (h:aj) (H:cg h 1 v l.length (cd l)) (aK:l.length≤8000000):
 bB Tryz.prog 53 [v] h fun x aa=>cm h.next aa 1 x (rising l).length (cd (rising l))∧Ext h aa:=by
 refine UK rfl (bP ?_)
 unfold L1
 simp +contextual only [↓ad,af,simprocAttr]
 refine fw (fun r aa=>Ext h aa∧r 0=v∧∃(i:Nat) (w:V),r 4=.int .i64 i∧i≤l.length∧r 3=w∧cm h.next aa 1 w (rising (l.take i)).length (cd (rising (l.take i)))) (fun r aa=>l.length - (r 4).gn) ?_ ?_
 · exact ⟨Ext.refl _,by simp only [↓ad,bj,simprocAttr],0,.ay,by simp only [↓ad,bj,simprocAttr]<;>rfl,by omega,by simp only [↓ad,bj,simprocAttr],⟨rfl,rfl⟩⟩
 · rintro r aa ⟨az,bl,i,w,c0,aG,cj,O⟩
   unfold L3
   have bW:=(H.ext az).len
   by_cases aX:i<l.length
   · have bM:((i:Int) < (l.length:Int))=True:=eq_true (by omega)
     obtain ⟨b,o,b_,hM⟩:=ZT (H.ext az) (k:=.i64) aX
     have cD:=hM aa (Ext.refl _)
     have Hb:rising (l.take (i+1))=ins l[i] (rising (l.take i)):=by
      rw [rising,rising,List.take_succ_eq_append_getElem aX,List.foldl_append];rfl
     have rI:(rising (l.take i)).length≤8000000:=by have:=aew (l.take i);rw [List.length_take] at this;omega
     generalize rising (l.take i)=q at *
     have qw:=O.v.len
     have gD:=gq aX (by omega)
     simp +contextual only [bl,c0,bW,bM,↓ad,af,simprocAttr]
     refine fw (fun bT ak=>ak=aa∧bT 0=v∧bT 3=w∧bT 4=.int .i64 i∧∃k:Nat,bT 5=.int .i64 k∧∃an:k≤q.length,∀(j:Nat) (bS:j<k),q[j]'(by omega)<l[i]) (fun r aa=>q.length - (r 5).gn) ?_ ?_
     · exact ⟨rfl,by simp only [bl,↓ad,bj,simprocAttr],by simp only [cj,↓ad,bj,simprocAttr],by simp only [c0,↓ad,bj,simprocAttr],0,by simp only [↓ad,bj,simprocAttr]<;>rfl,by omega,fun j bS=>by omega⟩
     · rintro bT ak ⟨rfl,DV,iu,pk,k,p9,an,Gr⟩
       unfold L2
       have fin:=ZP O az.next an (by unfold top;omega) l[i]
       obtain ⟨v1,v2,bz,v3,v4,gy,v5,ik,bw,b3,a3,a4,a5,jR,u_,tI,a9⟩:=fin
       have jV:=hM bz a3
       have done:(∀h:k<q.length,¬q[k]<l[i])→(¬∃h:k<q.length,q[k]=l[i])→ins l[i] q=q.take k++[l[i]]++q.drop k:=fun ca b'=>by rw [HE an Gr ca,if_neg b']
       have Nw:Ext h ik:=az.lf u_ (fun b ah=>O.base ah)
       by_cases bU:k<q.length
       · have mS:((k:Int) < (q.length:Int))=True:=eq_true (by omega)
         obtain ⟨b1,dP,jf,qM⟩:=ints_at O.v (k:=.i64) bU
         have ag':=gq bU (by omega)
         by_cases aD:q[k]<l[i]
         · have e:=eq_true aD
           simp +contextual only [DV,iu,pk,p9,qw,mS,jf,qM,b_,cD,e,ag',↓ad,af,simprocAttr]
           exact ⟨⟨k+1,rfl,by omega,fun j bS=>by
            by_cases Ye:j<k
            · exact Gr j Ye
            · obtain rfl:j=k:=by omega
              exact aD⟩,by omega⟩
         · have e:=eq_false aD
           by_cases he:q[k]=l[i]
           · have fT:=eq_true he
             simp +contextual only [DV,iu,pk,p9,qw,mS,jf,qM,b_,cD,e,fT,gD,↓ad,af,simprocAttr]
             refine ⟨⟨az,i+1,w,rfl,aX,rfl,?_⟩,by omega⟩
             rw [Hb,HE an Gr (fun _=>aD),if_pos ⟨bU,he⟩]
             exact O
           · have fT:=eq_false he
             simp +contextual only [DV,iu,pk,p9,qw,mS,jf,qM,b_,cD,e,fT,gD,bw,b3,a4,a5,jR,jV,↓ad,af,simprocAttr]
             refine ⟨by have:=hM (bz.new (.aq [.int .i64 l[i]] 0 false)) (a3.new _);rw [eB] at this;exact this,⟨Nw,i+1,v5,rfl,aX,rfl,?_⟩,by omega⟩
             rw [Hb,done (fun _=>aD) (fun ⟨_,p⟩=>he p)]
             exact tI
       · have mS:((k:Int) < (q.length:Int))=False:=eq_false (by omega)
         simp +contextual only [DV,iu,pk,p9,qw,mS,b_,cD,gD,bw,b3,a4,a5,jR,jV,↓ad,af,simprocAttr]
         refine ⟨by have:=hM (bz.new (.aq [.int .i64 l[i]] 0 false)) (a3.new _);rw [eB] at this;exact this,⟨Nw,i+1,v5,rfl,aX,rfl,?_⟩,by omega⟩
         rw [Hb,done (fun p=>absurd p bU) (fun ⟨p,_⟩=>bU p)]
         exact tI
   · have bM:((i:Int) < (l.length:Int))=False:=eq_false (by omega)
     rw [List.take_of_length_le (by omega)] at O
     simp +contextual only [bl,cj,c0,bW,bM,↓ad,af,simprocAttr]
     exact ⟨O,az⟩
end Go.Proofs.YtjbiefneffiogaaGreat
