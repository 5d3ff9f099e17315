/- The chapter's functions, walked by the abstract machine: plain lemmas, no condition. Printed by a program from longer texts: names made short. -/
import Derived.Test.YtahfljfikfkpnaaGreatDoorM7
import Derived.Test.YtahfljfikfkpnaaGreatDoorM9
set_option linter.unusedSectionVars false
set_option linter.unusedSimpArgs false
set_option linter.unusedVariables false
set_option maxHeartbeats 64000000
noncomputable section
namespace Go.Proofs.YtahfljfikfkpnaaGreatDoor
section
open Go ba
set_option maxHeartbeats 40000000
set_option maxRecDepth 100000
noncomputable section
def Ol:cB Tryz.f9:=⟨_,by conv=>lhs;reduce;simp only [cy,simprocAttr]⟩
theorem YQ:wa 9 44 Tryz.f9 Ol.1 [.cf 2,.eB 3 2]:=⟨Tryz.func9,by kernel_rfl⟩
def Nv:cB Tryz.f23:=⟨_,by conv=>lhs;reduce;simp only [cy,simprocAttr]⟩
theorem XU:cn 23 65 Tryz.f23 Nv.1 [.eB 2 5]:=⟨Tryz.func23,by kernel_rfl⟩
def NC:cB Tryz.f24:=⟨_,by conv=>lhs;reduce;simp only [cy,simprocAttr]⟩
theorem XV:cn 24 11 Tryz.f24 NC.1 []:=⟨Tryz.func24,by kernel_rfl⟩
def ND:cB Tryz.f25:=⟨_,by conv=>lhs;reduce;simp only [cy,simprocAttr]⟩
theorem XW:cn 25 12 Tryz.f25 ND.1 []:=⟨Tryz.func25,by kernel_rfl⟩
def c49:cB Tryz.f49:=⟨_,by conv=>lhs;reduce;simp only [cy,simprocAttr]⟩
theorem Ya:cn 49 28 Tryz.f49 c49.1 [.t 2]:=⟨Tryz.func49,by kernel_rfl⟩
def NR:cB Tryz.f50:=⟨_,by conv=>lhs;reduce;simp only [cy,simprocAttr]⟩
theorem Yb:cn 50 15 Tryz.f50 NR.1 [.t 4]:=⟨Tryz.func50,by kernel_rfl⟩
def c51:cB Tryz.f51:=⟨_,by conv=>lhs;reduce;simp only [cy,simprocAttr]⟩
theorem Yc:cn 51 30 Tryz.f51 c51.1 [.t 2]:=⟨Tryz.func51,by kernel_rfl⟩
def NS:cB Tryz.f52:=⟨_,by conv=>lhs;reduce;simp only [cy,simprocAttr]⟩
theorem Yd:cn 52 31 Tryz.f52 NS.1 [.eB 4 4]:=⟨Tryz.func52,by kernel_rfl⟩
def NT:cB Tryz.f53:=⟨_,by conv=>lhs;reduce;simp only [cy,simprocAttr]⟩
theorem Ye:cn 53 22 Tryz.f53 NT.1 [.eB 4 5]:=⟨Tryz.func53,by kernel_rfl⟩
def NU:cB Tryz.f54:=⟨_,by conv=>lhs;reduce;simp only [cy,simprocAttr]⟩
theorem Yf:cn 54 30 Tryz.f54 NU.1 [.t 2]:=⟨Tryz.func54,by kernel_rfl⟩
def NV:cB Tryz.f55:=⟨_,by conv=>lhs;reduce;simp only [cy,simprocAttr]⟩
theorem Yg:wa 55 16 Tryz.f55 NV.1 [.eB 2 5]:=⟨Tryz.func55,by kernel_rfl⟩
def NW:cB Tryz.f56:=⟨_,by conv=>lhs;reduce;simp only [cy,simprocAttr]⟩
theorem Yh:wa 56 16 Tryz.f56 NW.1 [.eB 2 5]:=⟨Tryz.func56,by kernel_rfl⟩
def NX:cB Tryz.f57:=⟨_,by conv=>lhs;reduce;simp only [cy,simprocAttr]⟩
theorem Yi:cn 57 11 Tryz.f57 NX.1 []:=⟨Tryz.func57,by kernel_rfl⟩
def Om:cB Tryz.f97:=⟨_,by conv=>lhs;reduce;simp only [cy,simprocAttr]⟩
theorem YN:cn 97 26 Tryz.f97 Om.1 [.t 4]:=⟨Tryz.func97,by kernel_rfl⟩
def On:cB Tryz.f98:=⟨_,by conv=>lhs;reduce;simp only [cy,simprocAttr]⟩
theorem YO:cn 98 10 Tryz.f98 On.1 [.eB 1 5]:=⟨Tryz.func98,by kernel_rfl⟩
def Oo:cB Tryz.f99:=⟨_,by conv=>lhs;reduce;simp only [cy,simprocAttr]⟩
theorem YP:cn 99 30 Tryz.f99 Oo.1 [.t 4]:=⟨Tryz.func99,by kernel_rfl⟩
def My:cB Tryz.f100:=⟨_,by conv=>lhs;reduce;simp only [cy,simprocAttr]⟩
theorem WJ:cn 100 11 Tryz.f100 My.1 []:=⟨Tryz.func100,by kernel_rfl⟩
def Mz:cB Tryz.f101:=⟨_,by conv=>lhs;reduce;simp only [cy,simprocAttr]⟩
theorem WK:wa 101 16 Tryz.f101 Mz.1 [.eB 2 5]:=⟨Tryz.func101,by kernel_rfl⟩
def MA:cB Tryz.f102:=⟨_,by conv=>lhs;reduce;simp only [cy,simprocAttr]⟩
theorem WL:cn 102 16 Tryz.f102 MA.1 [.eB 4 5]:=⟨Tryz.func102,by kernel_rfl⟩
def MB:cB Tryz.f103:=⟨_,by conv=>lhs;reduce;simp only [cy,simprocAttr]⟩
theorem WM:cn 103 18 Tryz.f103 MB.1 []:=⟨Tryz.func103,by kernel_rfl⟩
def G7:cB Tryz.f104:=⟨_,by conv=>lhs;reduce;simp only [cy,simprocAttr]⟩
theorem MC:cn 104 9 Tryz.f104 G7.1 []:=⟨Tryz.func104,by kernel_rfl⟩
def MD:cB Tryz.f105:=⟨_,by conv=>lhs;reduce;simp only [cy,simprocAttr]⟩
theorem WN:cn 105 37 Tryz.f105 MD.1 [.eB 2 5]:=⟨Tryz.func105,by kernel_rfl⟩
def ME:cB Tryz.f106:=⟨_,by conv=>lhs;reduce;simp only [cy,simprocAttr]⟩
theorem WO:cn 106 14 Tryz.f106 ME.1 [.eB 6 5]:=⟨Tryz.func106,by kernel_rfl⟩
def MF:cB Tryz.f107:=⟨_,by conv=>lhs;reduce;simp only [cy,simprocAttr]⟩
theorem WQ:cn 107 60 Tryz.f107 MF.1 [.eB 2 5]:=⟨Tryz.func107,by kernel_rfl⟩
def M4:cB Tryz.f146:=⟨_,by conv=>lhs;reduce;simp only [cy,simprocAttr]⟩
theorem Xd:cn 146 13 Tryz.f146 M4.1 [.eB 2 5]:=⟨Tryz.func146,by kernel_rfl⟩
def M5:cB Tryz.f147:=⟨_,by conv=>lhs;reduce;simp only [cy,simprocAttr]⟩
theorem Xe:cn 147 66 Tryz.f147 M5.1 [.eB 2 5]:=⟨Tryz.func147,by kernel_rfl⟩
def M6:cB Tryz.f148:=⟨_,by conv=>lhs;reduce;simp only [cy,simprocAttr]⟩
theorem Xf:cn 148 17 Tryz.f148 M6.1 [.t 4]:=⟨Tryz.func148,by kernel_rfl⟩
def M7:cB Tryz.f149:=⟨_,by conv=>lhs;reduce;simp only [cy,simprocAttr]⟩
theorem Xg:cn 149 36 Tryz.f149 M7.1 [.eB 4 5]:=⟨Tryz.func149,by kernel_rfl⟩
def M8:cB Tryz.f150:=⟨_,by conv=>lhs;reduce;simp only [cy,simprocAttr]⟩
theorem Xh:cn 150 20 Tryz.f150 M8.1 [.eB 6 5]:=⟨Tryz.func150,by kernel_rfl⟩
def M9:cB Tryz.f151:=⟨_,by conv=>lhs;reduce;simp only [cy,simprocAttr]⟩
theorem Xi:cn 151 13 Tryz.f151 M9.1 [.eB 2 5]:=⟨Tryz.func151,by kernel_rfl⟩
def Nf:cB Tryz.f184:=⟨_,by conv=>lhs;reduce;simp only [cy,simprocAttr]⟩
theorem Xt:cn 184 17 Tryz.f184 Nf.1 [.eB 2 5]:=⟨Tryz.func184,by kernel_rfl⟩
def Ng:cB Tryz.f185:=⟨_,by conv=>lhs;reduce;simp only [cy,simprocAttr]⟩
theorem Xu:cn 185 8 Tryz.f185 Ng.1 [.t 2]:=⟨Tryz.func185,by kernel_rfl⟩
def Nh:cB Tryz.f186:=⟨_,by conv=>lhs;reduce;simp only [cy,simprocAttr]⟩
theorem Xv:cn 186 22 Tryz.f186 Nh.1 [.t 2]:=⟨Tryz.func186,by kernel_rfl⟩
def Ni:cB Tryz.f187:=⟨_,by conv=>lhs;reduce;simp only [cy,simprocAttr]⟩
theorem Xw:cn 187 20 Tryz.f187 Ni.1 [.eB 2 5]:=⟨Tryz.func187,by kernel_rfl⟩
def c206:cB Tryz.f206:=⟨_,by conv=>lhs;reduce;simp only [cy,simprocAttr]⟩
theorem XB:cn 206 52 Tryz.f206 c206.1 [.eB 2 5]:=⟨Tryz.func206,by kernel_rfl⟩
def DJ:cB Tryz.f207:=⟨_,by conv=>lhs;reduce;simp only [cy,simprocAttr]⟩
theorem G':cn 207 32 Tryz.f207 DJ.1 [.eB 4 5]:=⟨Tryz.func207,by kernel_rfl⟩
def c208:cB Tryz.f208:=⟨_,by conv=>lhs;reduce;simp only [cy,simprocAttr]⟩
theorem XC:cn 208 21 Tryz.f208 c208.1 [.t 4,.t 5]:=⟨Tryz.func208,by kernel_rfl⟩
def No:cB Tryz.f209:=⟨_,by conv=>lhs;reduce;simp only [cy,simprocAttr]⟩
theorem XD:cn 209 14 Tryz.f209 No.1 [.eB 6 5]:=⟨Tryz.func209,by kernel_rfl⟩
def Nr:cB Tryz.f223:=⟨_,by conv=>lhs;reduce;simp only [cy,simprocAttr]⟩
theorem XI:wa 223 27 Tryz.f223 Nr.1 [.eB 2 5]:=⟨Tryz.func223,by kernel_rfl⟩
def Ns:cB Tryz.f224:=⟨_,by conv=>lhs;reduce;simp only [cy,simprocAttr]⟩
theorem XJ:cn 224 6 Tryz.f224 Ns.1 [.t 0]:=⟨Tryz.func224,by kernel_rfl⟩
def Nu:cB Tryz.f229:=⟨_,by conv=>lhs;reduce;simp only [cy,simprocAttr]⟩
theorem XL:cn 229 40 Tryz.f229 Nu.1 [.eB 2 5]:=⟨Tryz.func229,by kernel_rfl⟩
def Nx:cB Tryz.f231:=⟨_,by conv=>lhs;reduce;simp only [cy,simprocAttr]⟩
theorem XP:cn 231 69 Tryz.f231 Nx.1 [.eB 2 5]:=⟨Tryz.func231,by kernel_rfl⟩
def Ny:cB Tryz.f232:=⟨_,by conv=>lhs;reduce;simp only [cy,simprocAttr]⟩
theorem XQ:cn 232 22 Tryz.f232 Ny.1 [.t 2]:=⟨Tryz.func232,by kernel_rfl⟩
end
end
section
open Go ba
theorem TM:∀W:List aq,gX W=(W.map aq.enc).flatten
 | []=>rfl
 | w::W=>by rw [gX,TM W];rfl
theorem F6 {W:List aq} {i:Nat} (aJ:i<W.length):((gX W).drop (i * 4)).take 4=(W[i]).enc:=by rw [TM];exact HO (W.map aq.enc) i _ (fun u hu=>by obtain ⟨w,_,rfl⟩:=aqm.1 hu;rfl) (by simp [aJ])
structure ed (W:List aq) (af ak:Nat) (h:ah) (d:Nat) (ws:List aq) (aC:V) (i:Nat):Prop where
 at_:Has h ak [aC,.int .i64 i,.int .i64 af,.int .i64 d]
 c':hi h 4 aC W.length (gX W)
 ap:¬aC.bp (ao ak)
 le:i<=W.length
 eq:ws=W.drop i
 nC:W.length<=1000000
 wF:d<=1000
 fh:∀w ∈ W,w.text.length<=100000
 num:∀w ∈ W,w.kind=1->-1073741824<=w.num/\w.num<=1073741823
section
variable {W:List aq} {af ak:Nat} {h ae:ah} {d:Nat} {ws:List aq} {aC:V} {i:Nat}
abbrev b3 (ak:Nat):aN->Prop:=fun b=>b=ao ak
theorem ed.ext (c:ed W af ak h d ws aC i) (e:Ext h ae):ed W af ak ae d ws aC i:=⟨c.at_.ext e,c.c'.mod (e.mod (fun _=>False)) (fun _ _ q=>q),c.ap,c.le,c.eq,c.nC,c.wF,c.fh,c.num⟩
theorem ed.put (c:ed W af ak h d ws aC i) {fV dF:Nat} {bS:List aq} (aJ:fV<=W.length) (he:bS=W.drop fV) (bk:dF<=1000):ed W af ak (h.set (ao ak) (.bd [aC,.int .i64 fV,.int .i64 af,.int .i64 dF] 0 false)) dF bS aC fV:=
 ⟨c.at_.put _,c.c'.mod ((Mod.refl (b3 ak) h).set (fun _=>rfl) _) (fun b ai q=>c.ap (by rw [<-show b=ao ak from q];exact ai)),c.ap,aJ,he,c.nC,bk,c.fh,c.num⟩
theorem ed.box {H:ah} {dF:Nat} {bS:List aq} {fV:Nat} (c:ed W af ak h d ws aC i) (eV:ed W af ak H dF bS aC fV) {n:Nat} (aI:h.next<=n) (k:c_):ed W af ak (H.set (ao n) k) dF bS aC fV:=
 ⟨eV.at_.set (by have:=c.at_.lt;omega) k,eV.c'.mod ((Mod.refl (fun b=>b=ao n) H).set (fun _=>rfl) k) (fun b ai q=>dj aI (by rw [<-show b=ao n from q];exact c.c'.cu ai)),c.ap,eV.le,eV.eq,c.nC,eV.wF,c.fh,c.num⟩
theorem ed.len (c:ed W af ak h d ws aC i):k' aC=some (.int .i64 W.length):=c.c'.len
theorem ed.word (c:ed W af ak h d ws aC i) {j:Nat} (cW:j<W.length):∃b o,j9 4 aC (.int .i64 j)=some (.ptr b o)/\gv (h.get b) o=some (.int .i64 W[j].kind)/\gv (h.get b) (o+1)=some (.int .i64 W[j].num)/\gv (h.get b) (o+2)=some (.int .i64 W[j].pos)/\gv (h.get b) (o+3)=some (.str W[j].text)/\
 rE 4 (h.get b) o=some (.agg W[j].enc):=by
 obtain ⟨b,off,an,av⟩:=c.c'.l5 (k:=.i64) cW;have aG:(gX W).length=W.length * 4:=Lj W;have cell:∀k,k<4->gv (h.get b) (off+j * 4+k)=(W[j].enc)[k]? :=fun k aD=>av.cell (F6 cW) (by omega) aD;refine ⟨b,off+j * 4,an,cell 0 (by omega),cell 1 (by omega),cell 2 (by omega),cell 3 (by omega),?_⟩;have:=av.k9 (i:=j * 4) (n:=4) (by omega);rw [this,F6 cW]
theorem ed.here {w:aq} {r:List aq} (c:ed W af ak h d (w::r) aC i):i<W.length/\r=W.drop (i+1)/\∃b o,j9 4 aC (.int .i64 i)=some (.ptr b o)/\gv (h.get b) o=some (.int .i64 w.kind)/\gv (h.get b) (o+1)=some (.int .i64 w.num)/\gv (h.get b) (o+2)=some (.int .i64 w.pos)/\gv (h.get b) (o+3)=some (.str w.text)/\
 rE 4 (h.get b) o=some (.agg w.enc):=by
 have aJ:i<W.length:=by
  rcases apK i W.length with q | q
  . exact q
  . have:=c.eq;rw [ao_ q] at this;cases this
 have e:=c.eq;rw [apa aJ] at e;obtain ⟨aO,bs⟩:=List.cons.inj e;obtain ⟨b,o,q⟩:=c.word aJ;rw [<-aO] at q;exact ⟨aJ,bs,b,o,q⟩
theorem ed.done (c:ed W af ak h d [] aC i):i=W.length:=by have e:=c.eq;have:=congrArg List.length e;simp only [aoS,aoZ] at this;have:=c.le;omega
end
def cF (e:Int × Nat):V:=.iface 54 (.agg [.int .i64 e.1,.int .i64 (e.2:Nat)])
def kB (W:List aq) (af:Nat) (e:Int × Nat):Prop:=(e.1=270\/e.1=271)/\∃i,e.2=bI af (W.drop i)
def s7 {α:Type} (W:List aq) (af ak:Nat) (aM:ah) (res:bJ α) (x:V) (ae:ah):Prop:=∃e,res=.error e/\x=cF e/\Mod (b3 ak) aM ae/\∃l a b c,Has ae ak [l,.int .i64 a,.int .i64 b,.int .i64 c]/\kB W af e
section
variable {W:List aq} {af ak:Nat} {h ae:ah} {d:Nat} {ws:List aq} {aC:V} {i:Nat}
theorem qO (C:ed W af ak h d ws aC i):e5 Tryz.prog 49 [.ptr (ao ak) 0] h (.int .i64 (bI af ws)) h:=by
 refine je (Ya.z rfl (cm ?_));unfold c49;cases ws with
 | nil=>
   have aJ:=C.done;have f0:((i:Int) < (W.length:Int))=False:=aoV (by omega);simp only [C.at_.g,C.len,f0,↓aa,ab,simprocAttr];rfl
 | cons w r=>
   obtain ⟨aJ,_,b,o,an,av,aB,bt,ca,cx⟩:=C.here;have f0:((i:Int) < (W.length:Int))=True:=aoU (by omega);simp only [C.at_.g,C.len,f0,an,bt,↓aa,ab,simprocAttr];rfl
theorem j' (C:ed W af ak h d ws aC i) (k:Int):e5 Tryz.prog 99 [.ptr (ao ak) 0,.int .i64 k] h (.bool (cS k ws)) h:=by
 refine je (YP.z rfl (cm ?_));unfold Oo;cases ws with
 | nil=>
   have aJ:=C.done;have f0:((i:Int) < (W.length:Int))=False:=aoV (by omega);simp only [C.at_.g,C.len,f0,↓aa,ab,simprocAttr];rfl
 | cons w r=>
   obtain ⟨aJ,_,b,o,an,av,aB,bt,ca,cx⟩:=C.here;have f0:((i:Int) < (W.length:Int))=True:=aoU (by omega);simp only [C.at_.g,C.len,f0,an,av,apO,↓aa,ab,simprocAttr];rfl
theorem S1 (C:ed W af ak h d ws aC i) (s:List UInt8):e5 Tryz.prog 97 [.ptr (ao ak) 0,.str s] h (.bool (bm s ws)) h:=by
 refine je (YN.z rfl (cm ?_));unfold Om;simp only [↓aa,ab,simprocAttr];refine bQ (j' C 7) ?_;cases ws with
 | nil=>
   have jK:cS 7 []=false:=rfl;have hR:cS 6 []=false:=rfl;simp only [jK,↓aa,ab,simprocAttr];refine bQ (j' C 6) ?_;simp only [hR,↓aa,ab,simprocAttr];rfl
 | cons w r=>
   obtain ⟨aJ,_,b,o,an,av,aB,bt,ca,cx⟩:=C.here;by_cases jK:w.kind=7
   . have dR:cS 7 (w::r)=true:=by simp [cS,jK]
     have es:bm s (w::r)=decide (w.text=s):=by simp [bm,jK]
     simp only [dR,↓aa,ab,simprocAttr];simp only [C.at_.g,C.len,an,ca,es,↓aa,ab,simprocAttr]
   . have dR:cS 7 (w::r)=false:=by simp [cS,jK]
     simp only [dR,↓aa,ab,simprocAttr];refine bQ (j' C 6) ?_;by_cases hR:w.kind=6
     . have e3:cS 6 (w::r)=true:=by simp [cS,hR]
       have es:bm s (w::r)=decide (w.text=s):=by simp [bm,hR]
       simp only [e3,↓aa,ab,simprocAttr];simp only [C.at_.g,C.len,an,ca,es,↓aa,ab,simprocAttr]
     . have e3:cS 6 (w::r)=false:=by simp [cS,hR]
       have es:bm s (w::r)=false:=by simp [bm,hR,jK]
       simp only [e3,↓aa,ab,simprocAttr];simp only [es]
theorem ho (C:ed W af ak h d ws aC i) (s:List UInt8):dY Tryz.prog 50 [.ptr (ao ak) 0,.str s] h fun x ae=>x=.bool (bm s ws)/\Mod (b3 ak) h ae/\∃fV,ed W af ak ae d (if bm s ws then ws.tail else ws) aC fV:=by
 refine Yb.z rfl (cm ?_);unfold NR;simp only [↓aa,ab,simprocAttr];refine bQ (S1 C s) ?_;cases al:bm s ws with
 | false=>
   simp only [↓aa,ab,simprocAttr];exact ⟨Mod.refl _ _,i,C⟩
 | true=>
   cases ws with
   | nil=>cases al
   | cons w r=>
     obtain ⟨aJ,HI,_⟩:=C.here;have ai:=C.nC;have kS:=uF aJ (by omega);simp only [C.at_.g,kS,↓aa,ab,simprocAttr];exact ⟨(Mod.refl (b3 ak) h).set (fun _=>rfl) _,i+1,C.put (fV:=i+1) (dF:=d) aJ HI C.wF⟩
theorem ed.pl (C:ed W af ak h d ws aC i) {k:Int} (aD:k=270\/k=271):kB W af (k,bI af ws):=⟨aD,i,by rw [C.eq]⟩
theorem AY (C:ed W af ak h d ws aC i) (e:Int) (a:Nat) (aF:kB W af (e,a)) {α:Type}:jW Tryz.prog 57 [.ptr (ao ak) 0,.int .i64 e,.int .i64 (a:Nat)] h (fun _ _=>False) (s7 (α:=α) W af ak h (.error (e,a))):=by refine Yi.x rfl (cm ?_);unfold NX;simp only [↓aa,ab,simprocAttr,QV,Ts,Fo,EW,DV];exact ⟨(e,a),rfl,rfl,Mod.refl _ _,_,_,_,_,C.at_,aF⟩
theorem kM (C:ed W af ak h d ws aC i) (s:List UInt8):jW Tryz.prog 25 [.ptr (ao ak) 0,.str s] h (fun x ae=>∃bS,eD af s ws=.ok bS/\Mod (b3 ak) h ae/\∃fV,ed W af ak ae d bS aC fV) (s7 W af ak h (eD af s ws)):=by
 refine XW.x rfl (cm ?_);unfold ND;simp only [↓aa,ab,simprocAttr];refine aY (ho C s) ?_;rintro x ad ⟨rfl,m1,i1,cz⟩;cases al:bm s ws with
 | true=>
   rw [al,aoN rfl] at cz;simp only [O3,↓aa,ab,simprocAttr];exact ⟨ws.tail,by simp [eD,al],m1,i1,cz⟩
 | false=>
   rw [al,aoI ao2] at cz;simp only [↓aa,ab,simprocAttr];refine bQ (qO cz) ?_;simp only [↓aa,ab,simprocAttr];refine cH (AY (α:=List aq) cz 270 (bI af ws) (cz.pl (.inl rfl))) (fun _ _ q=>q.elim) ?_;rintro x ag ⟨e,he,rfl,m2,bn⟩;cases he;simp only [cF,Fo,EW,DV];exact ⟨(270,bI af ws),by simp [eD,al],rfl,m1.trans m2,bn⟩
theorem mK (C:ed W af ak h d ws aC i) (k:Int):jW Tryz.prog 52 [.ptr (ao ak) 0,.int .i64 k] h (fun x ae=>∃q,fc af k ws=.ok q/\x=.agg q.1.enc/\(q.1 ∈ W/\q.1.kind=k)/\Mod (b3 ak) h ae/\∃fV,ed W af ak ae d q.2 aC fV) (s7 W af ak h (fc af k ws)):=by
 refine Yd.x rfl (cm ?_);unfold NS;obtain ⟨aM,mG,ej,yk⟩:=fS h [.int .i64 0,.int .i64 0,.int .i64 0,.str []];have nX:=C.ext ej;have d':ak≠h.next:=by have:=C.at_.lt;omega
 simp only [mG,↓aa,ab,simprocAttr];refine bQ (j' nX k) ?_;cases aD:cS k ws with
 | false=>
   simp only [↓aa,ab,simprocAttr];refine bQ (qO nX) ?_;simp only [↓aa,ab,simprocAttr];refine cH (AY (α:=aq × List aq) nX 270 (bI af ws) (nX.pl (.inl rfl))) (fun _ _ q=>q.elim) ?_;rintro x ag ⟨e,he,rfl,m2,bn⟩;cases he;simp only [cF,Fo,EW,DV,↓aa,ab,simprocAttr];refine ⟨(270,bI af ws),?_,rfl,(ej.mod _).trans m2,bn⟩;cases ws with
   | nil=>rfl
   | cons w r=>simp only [cS,apC] at aD;simp [fc,aD,bI]
 | true=>
   cases ws with
   | nil=>cases aD
   | cons w r=>
     obtain ⟨aJ,HI,_⟩:=nX.here;have Bt:w=W[i]:=by have e:=nX.eq;rw [apa aJ] at e;exact (List.cons.inj e).1
     have ai:=C.nC;have kS:=uF aJ (by omega);have aR:IntKind.i64.wrap (((i+1:Nat):Int)-1)=(i:Nat):=by rw [wrap_i64 (by omega) (by omega)];omega
     have cz:=nX.put (fV:=i+1) (dF:=d) aJ HI C.wF;have bz:=yk.set d'.symm (.bd [aC,.int .i64 (i+1:Nat),.int .i64 af,.int .i64 d] 0 false);obtain ⟨b,o,an,av,aB,bt,ca,cx⟩:=cz.word aJ;simp only [nX.at_.g,kS,↓aa,ab,simprocAttr];generalize pF:aM.set (ao ak) (.bd [aC,.int .i64 (i+1:Nat),.int .i64 af,.int .i64 d] 0 false)=H at cz bz av aB bt ca cx ⊢;simp only [cz.at_.g,bz.g,aR,an,cx,aq.enc,↓aa,ab,simprocAttr];have fu:=bz.put [.int .i64 W[i].kind,.int .i64 W[i].num,.int .i64 W[i].pos,.str W[i].text];simp only [fu.g,aX,↓aa,ab,simprocAttr];refine ⟨(w,r),?_,by rw [Bt],⟨by rw [Bt];exact apQ aJ,by simpa only [cS,aoO] using aD⟩,?_,i+1,C.box (pF ▸ cz) (aoz _) _⟩
     . simp only [cS,aoO] at aD;simp [fc,aD]
     . rw [<-pF];exact (((ej.mod (b3 ak)).set (b:=ao ak) (fun _=>rfl) _)).set (fun o=>absurd o (dj (aoz _))) _
theorem D0 (C:ed W af ak h d ws aC i):jW Tryz.prog 103 [.ptr (ao ak) 0] h (fun x ae=>d<1000/\Mod (b3 ak) h ae/\ed W af ak ae (d+1) ws aC i) (fun x ae=>1000<=d/\s7 (α:=aP) W af ak h (.error (271,bI af ws)) x ae):=by
 refine WM.x rfl (cm ?_);unfold MB;by_cases bk:d<1000
 . have f0:(1000<=(d:Int))=False:=aoV (by omega);have wd:IntKind.i64.wrap ((d:Int)+1)=((d+1:Nat):Int):=by rw [wrap_i64 (by omega) (by omega)];rfl
   simp only [C.at_.g,f0,wd,aX,↓aa,ab,simprocAttr];exact ⟨bk,(Mod.refl (b3 ak) h).set (fun _=>rfl) _,C.put (fV:=i) (dF:=d+1) C.le C.eq bk⟩
 . have f0:(1000<=(d:Int))=True:=aoU (by omega);simp only [C.at_.g,f0,↓aa,ab,simprocAttr];refine bQ (qO C) ?_;simp only [↓aa,ab,simprocAttr];refine cH (AY (α:=aP) C 271 (bI af ws) (C.pl (.inr rfl))) (fun _ _ q=>q.elim) ?_;rintro x ag ⟨e,he,rfl,m2,bn⟩;cases he;simp only [cF,aX,↓aa,ab,simprocAttr];exact ⟨by omega,(271,bI af ws),rfl,rfl,m2,bn⟩
theorem tT {u:Option V} (C:ed W af ak h (d+1) ws aC i):pt Tryz.prog 104 [.ptr (ao ak) 0] u h fun fx ae=>fx=u/\Mod (b3 ak) h ae/\ed W af ak ae d ws aC i:=by
 refine MC.d rfl (cm ?_);unfold G7;have bk:=C.wF;have wd:IntKind.i64.wrap (((d+1:Nat):Int)-1)=(d:Int):=by rw [wrap_i64 (by omega) (by omega)];omega
 simp only [C.at_.g,wd,↓aa,ab,simprocAttr];exact ⟨(Mod.refl (b3 ak) h).set (fun _=>rfl) _,C.put (fV:=i) (dF:=d) C.le C.eq (by omega)⟩
theorem tU {u:Option V} {l:V} {a b c:Int} (C:Has h ak [l,.int .i64 a,.int .i64 b,.int .i64 c]):pt Tryz.prog 104 [.ptr (ao ak) 0] u h fun fx ae=>fx=u/\Mod (b3 ak) h ae/\∃l a b c,Has ae ak [l,.int .i64 a,.int .i64 b,.int .i64 c]:=by refine MC.d rfl (cm ?_);unfold G7;simp only [C.g,↓aa,ab,simprocAttr];exact ⟨(Mod.refl (b3 ak) h).set (fun _=>rfl) _,_,_,_,_,C.put _⟩
theorem Pf (C:ed W af ak h d ws aC i) {l:List aP} {dc:V} (aG:k' dc=some (.int .i64 l.length)):jW Tryz.prog 100 [.ptr (ao ak) 0,dc] h (fun x ae=>jl af l ws=.ok ()/\ae=h) (s7 W af ak h (jl af l ws)):=by
 refine WJ.x rfl (cm ?_);unfold My;by_cases vc:l.length=64
 . have f0:((l.length:Int)=64)=True:=aoU (by omega);simp only [aG,f0,↓aa,ab,simprocAttr];refine bQ (qO C) ?_;simp only [↓aa,ab,simprocAttr];refine cH (AY (α:=Unit) C 270 (bI af ws) (C.pl (.inl rfl))) (fun _ _ q=>q.elim) ?_;rintro x ag ⟨e,he,rfl,m2,bn⟩;cases he;simp only [cF,aX,↓aa,ab,simprocAttr];exact ⟨(270,bI af ws),by simp [jl,vc],rfl,m2,bn⟩
 . have f0:((l.length:Int)=64)=False:=aoV (by omega);simp only [aG,f0,aX,↓aa,ab,simprocAttr];simp [jl,vc]
theorem ahl (n:Int) (aM:-1073741824<=n) (ad:n<=1073741823) (h:ah):e5 Tryz.prog 185 [.int .i64 n] h (.int .i64 (sF n)) h:=by
 refine je (Xu.z rfl (cm ?_));unfold Ng sF;by_cases aI:n=-1073741824
 . simp only [aI,↓aa,ab,simprocAttr]
 . have w:IntKind.i64.wrap (0-n)=-n:=by rw [wrap_i64 (by omega) (by omega)];omega
   simp only [aI,w,↓aa,ab,simprocAttr]
end
end
end Go.Proofs.YtahfljfikfkpnaaGreatDoor
