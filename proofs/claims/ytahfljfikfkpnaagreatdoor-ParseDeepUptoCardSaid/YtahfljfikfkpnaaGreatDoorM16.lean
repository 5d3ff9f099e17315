/- The chapter's functions, walked by the abstract machine: plain lemmas, no condition. Printed by a program from longer texts: names made short. -/
import Derived.Test.YtahfljfikfkpnaaGreatDoorM15
import Derived.Test.YtahfljfikfkpnaaGreatDoorM4
import Derived.Test.YtahfljfikfkpnaaGreatDoorM7
import Derived.Test.YtahfljfikfkpnaaGreatDoorM9
import Derived.Lay
import Derived.LaidLaws
import Derived.PinnedBridge
import Derived.Lib.LaidU8T
import Derived.Shelf.Vars
import Derived.MakeChecks
set_option linter.unusedSectionVars false
set_option linter.unusedSimpArgs false
set_option linter.unusedVariables false
set_option maxHeartbeats 64000000
noncomputable section
namespace Go.Proofs.YtahfljfikfkpnaaGreatDoor
section
open Go ba
def w3:List (List UInt8):=[[40],[45,32],[33,32],[108,101,116,32,120,32,61,32,49,32,105,110,32],[102,117,110,32,120,32,45,62,32],[97,32,59,32],[97,32,44,32],[98,101,103,105,110,32],[49,32,43,32],[97,32,58,61,32]]
def C6:List (List UInt8):=[[41],[],[],[],[],[],[],[32,101,110,100],[],[]]
theorem acv:∀{k:Nat} (h:k<w3.length),(w3[k]).length<=13:=by decide
theorem alG:∀{k:Nat} (h:k<C6.length),(C6[k]).length<=4:=by decide
theorem OK (s:List UInt8) (h:ah):(dY Tryz.prog 9 [.str s] h fun x ae=>Ext h ae/\∃v,x=.tuple [v,.agg [.int .i64 (ph s).1,.int .i64 ((ph s).2:Nat)]]/\e_ Any ae 5 ((xY s).map aP.enc) v)/\
 (dY Tryz.prog 10 [.str s] h fun x ae=>Ext h ae/\∃v,x=.tuple [v,.agg [.int .i64 (ph s).1,.int .i64 ((ph s).2:Nat)]]/\e_ Any ae 5 ((xY s).map aP.enc) v):=
 ⟨(Kj s h).mono fun _ _=>aiF,(akw s h).mono fun _ _=>aiG⟩
theorem Te {bZ:V} {h:ah} {l:List (List UInt8)} (H:hi h 1 bZ l.length (l.map V.str)) {k:Nat} (aD:k<l.length):∃b off,j9 1 bZ (.int .i64 k)=some (.ptr b off)/\gv (h.get b) off=some (.str l[k]):=by obtain ⟨b,off,an,av⟩:=H.l5 (k:=.i64) aD;have aB:=av.kJ (i:=k * 1) (by simp;omega);rw [aqc] at aB;exact ⟨b,off+k * 1,an,by rw [aB];congr 3;omega⟩
theorem deep_law (a:Int) (aQ:List Int) (Jw:V) (h:ah) (K:e_ Any h 1 (aQ.map Bm) Jw):dY Tryz.prog 3 [.int .i64 a,Jw] h fun x ae=>x=.bool true:=by
 refine X9.z rfl (cm ?_);unfold c3;have mX:=K.len;have tB:=K.le;rw [ao6] at mX tB;by_cases mZ:(10:Int) < (aQ.length:Int)
 . simp only [mX,mZ,↓aa,ab,simprocAttr];refine aY (Mi h) ?_;rintro x g ⟨rfl,_⟩;simp only [↓aa,ab,simprocAttr]
 simp only [mX,mZ,↓aa,ab,simprocAttr];refine aY (Se a 1011 (by omega) (by omega) h) ?_;rintro x aM ⟨rfl,m,hm,rfl⟩;obtain ⟨ad,an,aO,lq,_⟩:=xy aM 1 10 (w3.map V.str) rfl (by unfold top;omega);obtain ⟨ag,av,bs,mN,_⟩:=xy ad 1 10 (C6.map V.str) rfl (by unfold top;omega);have lq:=lq.mod (bs.mod (fun _=>False)) (fun _ _ q=>q);simp only [w3,C6,List.map] at an av;simp only [an,av,↓aa,ab,simprocAttr];obtain ⟨bZ,vi⟩:∃bZ,V.slice (ao aM.next) 0 10 10=bZ:=⟨_,rfl⟩;obtain ⟨C9,QB⟩:∃C9,V.slice (ao ad.next) 0 10 10=C9:=⟨_,rfl⟩;rw [vi] at lq;rw [QB] at mN;have B9:k' bZ=some (.int .i64 10):=lq.len;have fo:=aO.trans bs;refine gb (fun r g=>r 0=.int .i64 m/\r 1=Jw/\r 5=bZ/\r 6=C9/\Ext ag g/\∃(i:Nat) (b7 es:List UInt8),r 9=.int .i64 i/\i<=m/\dA ag.next g 1 (r 7) b7.length (g' b7)/\r 8=.str es/\b7.length<=13 * i/\es.length<=4 * i) (fun r g=>m - (r 9).toN) ?_ ?_
 . exact ⟨by simp only [↓aa,cM,simprocAttr],by simp only [↓aa,cM,simprocAttr],by simp only [vi,↓aa,cM,simprocAttr],by simp only [QB,↓aa,cM,simprocAttr],Ext.refl _,0,[],[],by simp only [↓aa,cM,simprocAttr]<;>rfl,by omega,by simp only [↓aa,cM,simprocAttr];exact ⟨rfl,rfl⟩,by simp only [↓aa,cM,simprocAttr],by simp,by simp⟩
 rintro r g ⟨aW,cJ,b1,dS,E,i,b7,es,mb,aJ,S,gm,ai,he⟩;have qV:=S.v.one;by_cases a7:i<m
 . have g0:((i:Int) < (m:Int))=True:=aoU (by omega);have kS:=uF a7 (by omega);have body:∀k:Nat,k<10->∃(bT c2:aN) (gx eR:Nat) (t1 t2:List UInt8) (ea:V) (mq:ah),j9 1 bZ (.int .i64 k)=some (.ptr bT gx)/\gv (g.get bT) gx=some (.str t1)/\kj 1 (r 7) (.str t1) g=.val ea mq/\j9 1 C9 (.int .i64 k)=some (.ptr c2 eR)/\gv (mq.get c2) eR=some (.str t2)/\
    Ext ag mq/\ea.one=true/\∃wx,dA ag.next mq 1 ea wx.length (g' wx)/\wx.length<=13 * (i+1)/\(t2++es).length<=4 * (i+1):=by
    intro k aD;obtain ⟨bT,gx,cg,cY⟩:=Te (l:=w3) (lq.mod (E.mod (fun _=>False)) (fun _ _ q=>q)) (k:=k) aD;have t1:=acv (k:=k) aD;obtain ⟨ea,mq,eS,iP,np,Fm⟩:=VT (w3[k]'aD) S E.next (by unfold top;omega)
    have aw:Ext ag mq:=E.kL np fun b q=>S.base q;obtain ⟨c2,eR,Kd,xW⟩:=Te (l:=C6) (mN.mod (aw.mod (fun _=>False)) (fun _ _ q=>q)) (k:=k) aD;have t2:=alG (k:=k) aD;refine ⟨bT,c2,gx,eR,_,_,ea,mq,cg,cY,eS,Kd,xW,aw,iP.v.one.1,b7++w3[k]'aD,?_,?_,?_⟩
    . rw [DI,aoL];exact iP
    . rw [aoL];omega
    . rw [aoL];omega
   by_cases PK:(0:Int) < (aQ.length:Int)
   . have zf:(fp.int .rem).run Tryz.prog (.int .i64 i) (.int .i64 aQ.length)=some (.int .i64 ((i % aQ.length:Nat):Int)):=by
      rw [Jr .i64 _ _ (by omega)];rfl
     have cW:i % aQ.length<aQ.length:=Nat.mod_lt _ (by omega);obtain ⟨wv,ok,c8,dJ⟩:=K.aek (k:=.i64) cW;have gU:=dJ g (fo.trans E);simp only [aW,cJ,b1,dS,gm,mb,g0,PK,mX,zf,c8,gU,B9,qV.1,qV.2.1,qV.2.2,↓aa,ab,simprocAttr];refine aY (Se _ 10 (by omega) (by omega) g) ?_;rintro x g1 ⟨rfl,k,aD,rfl⟩;obtain ⟨bT,c2,gx,eR,t1,t2,ea,mq,cg,cY,eS,iP,np,Fm,Kd,wx,xW,Ke,CJ⟩:=body k aD;have rU:=xW.v.one;have HN:(t2.length+es.length<=17179869184)=True:=aoU (by rw [aoL] at CJ;omega);simp only [aW,cJ,b1,dS,gm,mb,cg,cY,eS,iP,np,HN,kS,qV.1,qV.2.1,qV.2.2,rU.1,rU.2.1,rU.2.2,↓aa,ab,simprocAttr];exact ⟨⟨Fm,i+1,wx,t2++es,rfl,a7,xW,rfl,Ke,CJ⟩,by omega⟩
   . obtain ⟨bT,c2,gx,eR,t1,t2,ea,mq,cg,cY,eS,iP,np,Fm,Kd,wx,xW,Ke,CJ⟩:=body 0 (by omega);have rU:=xW.v.one;have HN:(t2.length+es.length<=17179869184)=True:=aoU (by rw [aoL] at CJ;omega);have aiR:j9 1 bZ (.int .i64 0)=some (.ptr bT gx):=cg;have aiS:j9 1 C9 (.int .i64 0)=some (.ptr c2 eR):=iP;simp only [aW,cJ,b1,dS,gm,mb,g0,PK,mX,aiR,cY,eS,aiS,np,HN,kS,qV.1,qV.2.1,qV.2.2,rU.1,rU.2.1,rU.2.2,↓aa,ab,simprocAttr];exact ⟨⟨Fm,i+1,wx,t2++es,rfl,a7,xW,rfl,Ke,CJ⟩,by omega⟩
 . have g0:((i:Int) < (m:Int))=False:=aoV (by omega);have lr:=th S;have cf:(8+b7.length<=17179869184)=True:=aoU (by omega);have c6:(b7.length<=17179869175)=True:=aoU (by omega);have c3:((b7++[49]).length+6+2+es.length<=17179869184)=True:=aoU (by simp only [aoL,aoH,aoS];omega);have hj:((b7++[49]++es).length<=17179869173)=True:=aoU (by simp only [aoL,aoH,aoS];omega);simp only [aW,cJ,b1,dS,gm,mb,g0,lr,cf,c6,c3,hj,qV.1,qV.2.1,qV.2.2,↓aa,ab,simprocAttr];generalize (108::101::116::32::112::32::61::32::(b7++[49]++es++[32,59,59]):List UInt8)=s;refine aY (OK s g).1 ?_;rintro x ar ⟨cT,v3,rfl,gZ⟩;have dN:=gZ.one;obtain ⟨aT,bt,cO,eL⟩:=fz ar [.int .i64 0,.int .i64 0] [.int .i64 (ph s).1,.int .i64 ((ph s).2:Nat)];simp only [dN.1,dN.2.1,dN.2.2,bt,↓aa,ab,simprocAttr];refine aY (OK s aT).2 ?_;rintro x bE ⟨e7,v5,rfl,jZ⟩;have jO:=jZ.one;obtain ⟨bA,cx,e3,kh⟩:=fz bE [.int .i64 0,.int .i64 0] [.int .i64 (ph s).1,.int .i64 ((ph s).2:Nat)];simp only [dN.1,dN.2.1,dN.2.2,jO.1,jO.2.1,jO.2.2,cx,↓aa,ab,simprocAttr];refine aY (SZ (xY s) v3 v5 bA (gZ.ext (cO.trans (e7.trans e3))) (jZ.ext e3)) ?_;rintro x cl ⟨rfl,dR⟩;have TY:=eL.ext (e7.trans (e3.trans dR));have T0:=kh.ext dR;simp only [TY.g,T0.g,HH,aqj,apG,↓aa,ab,simprocAttr];refine aY (Mi cl) ?_;rintro x g9 ⟨rfl,_⟩;simp only [↓aa,ab,simprocAttr]
theorem cells3:Tryz.prog.cellsOf 3=1:=by kernel_rfl
theorem open_ints {h:ah} {n m len:Nat} {v:V} (H:Dw h 1 v len m (fun k=>fk Tryz.prog h n k 3)) (hm:m<=1048576):∃p:List Int,e_ Any h 1 (p.map Bm) v:=by
 obtain ⟨p,_,_,L⟩:=aip Bm H hm fun k aj _ q=>by obtain ⟨i,rfl,_⟩:=q.int Tryz.underlying3;exact ⟨i,.i .nil,rfl⟩
 exact ⟨p,L⟩
end
section
open Go ba Go.RowKit Go.Proofs Go.Lib
abbrev zC:List (String × DataW Unit):=Rows.parsePlacesRow.laid
theorem aaK {n:String} {g:Nat} {t:TypeId} {ms:Array (String × TypeId)} {name:String} {d:DataW Unit} {W:World} (ay:Tryz.prog.globalNamed n=some g) (I9:(Tryz.prog.globals[g]?).map (·.type)=some t) (aJ:Tryz.prog.underlying t=some (.interface ms))
 (h:VarReads Tryz.prog W n (.iface name d)):yq W g:=by
 obtain ⟨mq,jV,cs,fuel,p,ad,ag,ar,aT⟩:=h;obtain rfl:=ap8 (ay.symm.trans ad);obtain rfl:=ap8 (I9.symm.trans ag);obtain ⟨_,u,v,jA,_,_⟩:=iface_of_trod aJ aT;refine ⟨.iface u v,?_,.inr ⟨u,v,rfl⟩⟩;have:=World.var?_cell ay ar 0;rw [this,<-Array.getElem?_toList,jA];rfl
theorem alx {n:String} {g:Nat} {t e:TypeId} {m:Nat} {k:IntKind} {vZ:List Int} {W:World} (ay:Tryz.prog.globalNamed n=some g) (I9:(Tryz.prog.globals[g]?).map (·.type)=some t) (az:Tryz.prog.underlying t=some (.array m e)) (he:Tryz.prog.underlying e=some (.int k)) (acn:Tryz.prog.cellsOf e=1) (acs:Tryz.prog.cellsOf t=m)
 (h:VarReads Tryz.prog W n (tabData k vZ)):TabIs Tryz.prog W n k vZ:=by
 obtain ⟨mq,jV,cs,fuel,p,ad,ag,ar,aT⟩:=h;obtain rfl:=ap8 (ay.symm.trans ad);obtain rfl:=ap8 (I9.symm.trans ag);unfold TabIs;rw [ar,<-cells_of_tab az he acn acs aT]
theorem al5:Go.Proofs.U8Types Tryz.prog Tryz.Cm:=Go.Proofs.U8Types.of260 Tryz.agu
theorem al4:U8Extra Tryz.prog Tryz.Cm:=⟨by kernel_rfl,by kernel_rfl,by kernel_rfl,by kernel_rfl,by kernel_rfl,by kernel_rfl,by kernel_rfl⟩
theorem abd:(Rows.laid_unicode_utf8_first:DataW Unit)=firstData:=Pinned.utf8First_eq
theorem Vn:(Rows.laid_unicode_utf8_acceptRanges:DataW Unit)=acceptData:=by kernel_rfl
theorem ajJ:(Rows.laid_internal_strconv_uint64pow10:DataW Unit)=tabData .u64 pow10Tab:=by kernel_rfl
theorem abl:Tryz.Cm.g 3=0:=by kernel_rfl
theorem abm:Tryz.Cm.g 4=1:=by kernel_rfl
theorem agM {l:List (String × DataW Unit)} {W:World} (hm:∀p ∈ zC,p ∈ l) (gL:laidMet Tryz.prog l W) (xj:W.ShapedOpen Tryz.prog):Gw W:=by
 have r:∀(n:String) (d:DataW Unit),(n,d) ∈ zC->VarReads Tryz.prog W n d:=fun n d h=>laidMet.reads gL (hm _ h);have aE:=r "unicode/utf8.first" Rows.laid_unicode_utf8_first (by simp [zC,Rows.parsePlacesRow]);have b5:=r "unicode/utf8.acceptRanges" Rows.laid_unicode_utf8_acceptRanges (by simp [zC,Rows.parsePlacesRow]);have U:=r "strconv.ErrRange" Rows.laid_strconv_ErrRange (by simp [zC,Rows.parsePlacesRow]);have aF:=r "internal/strconv.uint64pow10" Rows.laid_internal_strconv_uint64pow10 (by simp [zC,Rows.parsePlacesRow]);rw [ajJ] at aF;rw [abd] at aE;rw [Vn] at b5;refine ⟨?_,?_,?_,?_⟩
 . have:=Go.Proofs.utf8Tabs_of_readsT al5 al4 aE b5;rwa [abl,abm] at this
 . exact Go.Proofs.cell_of_shapedOpen_int xj (g:=2) (t:=3) (zero:=#[.int .i64 0]) (of_decide_eq_true (by kernel_rfl)) (by kernel_rfl) rfl (by kernel_rfl) (by kernel_rfl) Tryz.underlying3
 . exact aaK (n:= "strconv.ErrRange") (t:=126) (by kernel_rfl) (by kernel_rfl) Tryz.underlying126 U
 . exact alx (g:=5) (t:=191) (e:=124) (m:=20) (by kernel_rfl) (by kernel_rfl) (by kernel_rfl) (by kernel_rfl) (by kernel_rfl) (by kernel_rfl) aF
end
end Go.Proofs.YtahfljfikfkpnaaGreatDoor
