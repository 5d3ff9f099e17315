/- The chapter's functions, walked by the abstract machine: plain lemmas, no condition. Printed by a program from longer texts: names made short. -/
import Derived.Test.YtgmhjhgoamjeeaaGreatDoorM14
import Derived.Test.YtgmhjhgoamjeeaaGreatDoorM15
set_option linter.unusedSectionVars false
set_option linter.unusedSimpArgs false
set_option linter.unusedVariables false
set_option maxHeartbeats 64000000
noncomputable section
namespace Go.Proofs.YtgmhjhgoamjeeaaGreatDoor
section
open Go aX
abbrev dL (p:aQ) (cB:V):List V:=[.int .i64 p.k,.int .i64 p.n,.int .i64 p.a,.str p.s,cB]
abbrev km (c:bI) (dq:V):List V:=[.str c.name,.str c.ty,.int .i64 c.tag,.int .i64 c.par,dq]
section
variable [Lay] {F:aL->Prop} {h:ae}
theorem bI.open {c:bI} {ag:List V} (H:bN F h c.enc ag):∃dq,ag=km c dq/\b0 F h 4 c.arg dq:=by obtain ⟨_,rfl,_,H1⟩:=H.str;obtain ⟨_,rfl,_,cS⟩:=H1.str;obtain ⟨_,rfl,rP⟩:=cS.int;obtain ⟨_,rfl,u_⟩:=rP.int;obtain ⟨dq,_,rfl,L,rQ⟩:=u_.eZ;rw [rQ.no];exact ⟨dq,rfl,L⟩
theorem bI.lh {l:List bI} {v:V} (H:b0 F h 5 (l.map bI.enc) v) {k:IntKind} {i:Nat} (ax:i<l.length):
 ∃b off dq,fK 5 v (.int k i)=some (.ptr b (off+i * 5))/\bN F h l[i].enc (km l[i] dq)/\b0 F h 4 l[i].arg dq/\
  (∀ab,Ext h ab->ml 5 (ab.get b) (off+i * 5)=some (.agg (km l[i] dq)))/\
  (∀ab,Ext h ab->fZ (ab.get b) (off+i * 5)=some (.str l[i].name))/\(∀ab,Ext h ab->fZ (ab.get b) (off+i * 5+1)=some (.str l[i].ty))/\(∀ab,Ext h ab->fZ (ab.get b) (off+i * 5+2)=some (.int .i64 l[i].tag))/\(∀ab,Ext h ab->fZ (ab.get b) (off+i * 5+4)=some dq):=by
 obtain ⟨b,off,u,aK,aS,bU,b9,dP⟩:=H.at (k:=k) (i:=i) (by rw [apG];exact ax);rw [aq4] at aS;obtain ⟨dq,rfl,L⟩:=bI.open aS;exact ⟨b,off,dq,aK,aS,L,b9,fun ab e=>by simpa using dP ab e 0 (by omega),fun ab e=>by simpa using dP ab e 1 (by omega),fun ab e=>by simpa using dP ab e 2 (by omega),fun ab e=>by simpa using dP ab e 4 (by omega)⟩
end
theorem am3 (p:aQ) (ag:List V) (h:ae) (H:bN Any h p.enc ag):c9 Tryz.prog 72 [.agg ag] h fun x ab=>x=.bool (ob p)/\Ext h ab:=by
 obtain ⟨cB,rfl,L,_⟩:=aQ.open H;have ol:=L.one;refine Zp.z rfl (cw ?_);unfold O4 ob;obtain ⟨aa,ak,aK,c8⟩:=fM h (dL p cB);by_cases a:p.k=10
 . simp +contextual only [ol.1,ol.2.1,ak,c8.g,apC a,↓an,aF,simprocAttr];exact aK
 . simp +contextual only [ol.1,ol.2.1,ak,c8.g,apy a,↓an,aF,simprocAttr];exact aK
def j3 (h:c_):V:=.agg [.int .i64 h.1,.int .i64 h.2.1,.str h.2.2.1,.int .i64 h.2.2.2]
theorem adx (p:aQ) (ag:List V) (h:ae) (H:bN Any h p.enc ag):c9 Tryz.prog 73 [.agg ag] h fun x ab=>x=j3 (fs p)/\Ext h ab:=by obtain ⟨cB,rfl,L,_⟩:=aQ.open H;have ol:=L.one;have aA:=L.len;rw [List.length_map] at aA;refine Zq.z rfl (cw ?_);unfold O5;obtain ⟨aa,ak,aK,c8⟩:=fM h (dL p cB);obtain ⟨ad,al,aS,c6⟩:=fM aa [.int .i64 0,.int .i64 0,.str [],.int .i64 0];obtain ⟨aJ,aI,bU,e0⟩:=fw aa [.int .i64 0,.int .i64 0,.str [],.int .i64 0] [.int .i64 p.k,.int .i64 p.n,.str p.s,.int .i64 p.l.length];have A:=c8.ext aS;rw [al] at aI;simp +contextual only [ol.1,ol.2.1,aA,ak,al,aI,c8.g,c6.g,A.g,e0.g,↓an,aF,simprocAttr];exact ⟨rfl,aK.trans bU⟩
def u3:aQ:=.mk 22 0 0 [] []
def oA (p:aQ):aQ:=.mk 52 0 0 [] [p,u3]
theorem aav (p:aQ) (aZ:p.size+2<=1000000000) (h:10<=p.k/\p.k<=16):(vs [oA p]=2)=(jr p=false):=by
 have bk:(oA p).size=p.size+2:=by simp only [oA,u3,aQ.size,cA];omega
 have aa:=yS (named:=ew) (oA p).size (oA p) (apv _) (by omega);have ad:=yS (named:=ew) p.size p (apv _) (by omega);have key:(oA p).may ew=p.may ew:=by
  rw [<-aa,<-ad];have aB:uT p.k 2=true:=by unfold uT;rw [apw (by decide),alm _ h];rfl
  have hu:u3.lr ew=true:=by simp [u3,aQ.lr,hC,uU,qm,kS,mu]
  have J1:uT u3.k 3=true:=by decide
  have aG:hC 52=7:=by decide
  simp [oA,aQ.lr,aG,uU,qm,kS,mu,aB,hu,J1]
 unfold vs jr;have aG:hC (oA p).k=7:=by show hC 52=7;decide
 simp only [arh,List.all_nil,aG,key,h.1,h.2,aq3,ap6,aqt];cases p.may ew
 . simp
 . simp only [ap3,Bool.true_eq_false,eq_iff_iff,iff_false]
   split<;>decide
theorem amV [Lay] (F:aL->Prop) (h:ae):bN F h u3.enc [.int .i64 22,.int .i64 0,.int .i64 0,.str [],.bg]:=by unfold u3;rw [Cd];exact .i (.i (.i (.s (aqS _) ((b0.nil _ _ _).cons .nil))))
theorem Ua (p:aQ) (aZ:p.size+2<=1000000000) (ag:List V) (h:ae) (H:bN Any h p.enc ag):c9 Tryz.prog 37 [.agg ag] h fun x ab=>x=.bool (jr p)/\Ext h ab:=by
 have zT:=H;obtain ⟨cB,rfl,L,_⟩:=aQ.open H;have ol:=L.one;refine Y'.z rfl (cw ?_);unfold Oy;obtain ⟨aa,ak,aK,c8⟩:=fM h (dL p cB);by_cases a:p.k<10
 . simp +contextual only [ol.1,ol.2.1,ak,c8.g,apC a,↓an,aF,simprocAttr];refine ⟨?_,aK⟩;have:¬(10<=p.k):=by omega
   simp [jr,this]
 . by_cases b:p.k>16
   . simp +contextual only [ol.1,ol.2.1,ak,c8.g,apy a,apC b,↓an,aF,simprocAttr];refine ⟨?_,aK⟩;have:¬(p.k<=16):=by omega
     simp [jr,this]
   . obtain ⟨ad,al,aS,gv⟩:=Fl (F:=Any) (size:=5) (h:=aa) rfl rfl (zT.ext aK) (amV Any aa) trivial;have cS:bN Any ad (oA p).enc [.int .i64 52,.int .i64 0,.int .i64 0,.str [],.slice (aw aa.next) 0 2 2]:=by
      unfold oA;rw [Cd];exact .i (.i (.i (.s (aqS _) (gv.cons .nil))))
     obtain ⟨aJ,aI,bU,qH⟩:=wG (F:=Any) (size:=5) (h:=ad) rfl cS trivial;simp only [dL,apS,aqk] at al;simp +contextual only [ol.1,ol.2.1,ak,c8.g,al,aI,apy a,apy b,↓an,aF,simprocAttr];refine cu (ZW [oA p] (by simp only [cA,oA,u3,aQ.size];omega) _ aJ qH) ?_;rintro x bu ⟨rfl,b9⟩;have a':=aav p aZ ⟨by omega,by omega⟩;simp +contextual only [a',↓an,aF,simprocAttr];refine ⟨?_,((aK.trans aS).trans bU).trans b9⟩;cases jr p<;>rfl
abbrev C7:=List UInt8 × Int
def uE (m:C7):V:=.agg [.str m.1,.int .i64 m.2]
theorem Qh (s:List UInt8):lC s s=true:=by rw [Nw];simp
theorem Qg (x:Int):Int.gL x x=true:=by rw [DT];simp
theorem ai3 (a b:List UInt8) (x y:Int):(structEq Tryz.prog 152).run (.agg [.str a,.int .i64 x]) (.agg [.str b,.int .i64 y])=
 (match (match jh.run (.str a) (.str b) with
   | none=>none
   | some b8=>bif b8 then (match j1.run (.int .i64 x) (.int .i64 y) with
     | none=>none
     | some cg=>bif cg then some true else some false) else some false) with
 | some q=>bif q then (bif pE [.str a,.int .i64 x] [.str b,.int .i64 y] then some true else none) else some false
 | none=>none):=by kernel_rfl
theorem To:tJ (structEq Tryz.prog 152) uE:=fun ⟨a,x⟩ ⟨b,y⟩=>by
 simp only [uE,ai3,Gm,Gk];by_cases c:a=b
 . subst c;by_cases d:x=y
   . subst d;simp [pE,sq,Qh,Qg,oC]
   . simp [d]
 . simp [c]
theorem ai4 (m:C7):lg Tryz.prog 152 (uE m)=true:=by obtain ⟨a,x⟩:=m;kernel_rfl
theorem ads (b7 cj di iO eX hr:Int) (s1 s2:List UInt8):(structEq Tryz.prog 111).run (.agg [.int .i64 b7,.int .i64 di,.str s1,.int .i64 eX]) (.agg [.int .i64 cj,.int .i64 iO,.str s2,.int .i64 hr])=
 (match (match j1.run (.int .i64 b7) (.int .i64 cj) with
   | none=>none
   | some b8=>bif b8 then (match j1.run (.int .i64 di) (.int .i64 iO) with
     | none=>none
     | some cg=>bif cg then (match jh.run (.str s1) (.str s2) with
       | none=>none
       | some eM=>bif eM then (match j1.run (.int .i64 eX) (.int .i64 hr) with
         | none=>none
         | some jE=>bif jE then some true else some false) else some false) else some false) else some false) with
 | some q=>bif q then (bif pE [.int .i64 b7,.int .i64 di,.str s1,.int .i64 eX] [.int .i64 cj,.int .i64 iO,.str s2,.int .i64 hr] then some true else none) else some false
 | none=>none):=by kernel_rfl
theorem I0:tJ (structEq Tryz.prog 111) j3:=fun ⟨b7,di,s1,eX⟩ ⟨cj,iO,s2,hr⟩=>by
 simp only [j3,ads,Gm,Gk,aqD];by_cases c:b7=cj
 . subst c;by_cases d:di=iO
   . subst d;by_cases e:s1=s2
     . subst e;by_cases f:eX=hr
       . subst f;simp [pE,sq,Qh,Qg,oC]
       . simp [f]
     . simp [e]
   . simp [d]
 . simp [c]
theorem Rk (m:c_):lg Tryz.prog 111 (j3 m)=true:=by obtain ⟨a,x,b,y⟩:=m;kernel_rfl
theorem XW {P:Program} [Lay] {d:Option Nat} {k:TypeId} {z:V} {ok:Bool} {x i:aT} {rs:List Nat} {e:fA} {H:ae}:ps P ⟨d,.looks k z ok x i,none,rs⟩ e H=((bif lg P k (i.aP (e.r.trim rs)) then ha (structEq P k) z ok H (x.aP (e.r.trim rs)) (i.aP (e.r.trim rs)) else none)=some e.v):=Dp rfl
structure qx (F:aL->Prop) (cs:List bI) (h:ae) (cn:aL):Prop where
 ex:∃aN:List (List UInt8 × V),jC (fun v=>v) h cn aN/\∀s,match dZ s cs with
  | some c=>∃dq,ij s aN=some (.agg (km c dq))/\b0 F h 4 c.arg dq
  | none=>ij s aN=none
theorem qx.ext {F:aL->Prop} {cs:List bI} {h ab:ae} {cn:aL} (H:qx F cs h cn) (e:Ext h ab):qx F cs ab cn:=by
 obtain ⟨aN,ak,al⟩:=H.ex;refine ⟨aN,ak.ext e,fun s=>?_⟩;have:=al s;cases ao:dZ s cs<;>rw [ao] at this<;>simp only at this ⊢
 . exact this
 . obtain ⟨dq,a,b⟩:=this;exact ⟨dq,a,b.ext e⟩
theorem qx.gR {F dQ:aL->Prop} {cs:List bI} {h:ae} {cn:aL} (H:qx F cs h cn) (w:∀b,F b->dQ b):qx dQ cs h cn:=by
 obtain ⟨aN,ak,al⟩:=H.ex;refine ⟨aN,ak,fun s=>?_⟩;have:=al s;cases ao:dZ s cs<;>rw [ao] at this<;>simp only at this ⊢
 . exact this
 . obtain ⟨dq,a,b⟩:=this;exact ⟨dq,a,b.gR w⟩
structure rU (cs:List bI) (h:ae) (k:V):Prop where
 ex:∃g' cn mo,k=.ptr (aw g') 0/\Has h g' [.map cn,mo]/\qx Any cs h cn/\b0 Any h 5 (cs.map bI.enc) mo
theorem rU.ext {cs:List bI} {h ab:ae} {k:V} (H:rU cs h k) (e:Ext h ab):rU cs ab k:=by obtain ⟨g',cn,mo,ak,al,aI,bB⟩:=H.ex;exact ⟨g',cn,mo,ak,al.ext e,aI.ext e,bB.ext e⟩
theorem Pm (s:List UInt8) (c:bI):∀l:List bI,dZ s (l++[c])=(match dZ s l with
 | some d=>some d
 | none=>if c.name=s then some c else none)
 | []=>by simp only [aqk,dZ]
 | d::l=>by
   simp only [apS,dZ,Pm s c l];by_cases q:d.name=s
   . simp [q]
   . simp [q]
theorem Pk {s:List UInt8}:∀l:List bI,(dZ s l).isSome=l.any fun d=>decide (d.name=s)
 | []=>rfl
 | d::l=>by
   simp only [dZ,List.any_cons];by_cases q:d.name=s
   . simp [q]
   . simp [q,Pk l]
def tc (pre:List bI) (m:C7):Bool:=pre.any fun d=>decide (d.ty=m.1/\d.tag=m.2)
theorem alF (pre:List bI) (c:bI) (m:C7):tc (pre++[c]) m=(tc pre m||decide (m=(c.ty,c.tag))):=by unfold tc;rw [List.any_append];congr 1;obtain ⟨a,b⟩:=m;simp only [List.any_cons,List.any_nil,Bool.or_false,aqD];exact decide_eq_decide.2 ⟨fun q=>⟨q.1.symm,q.2.symm⟩,fun q=>⟨q.1.symm,q.2.symm⟩⟩
structure De (pre:List bI) (h:ae) (b:aL):Prop where
 ex:∃aN,gS uE h b aN/\∀m,d_ m aN=if tc pre m=true then some (.bool true) else none
theorem De.ext {pre:List bI} {h ab:ae} {b:aL} (H:De pre h b) (e:Ext h ab):De pre ab b:=by obtain ⟨aN,ak,al⟩:=H.ex;exact ⟨aN,ak.ext e,al⟩
theorem ajG (pre:List bI) (c:bI):FH pre c=(!(dZ c.name pre).isSome&&!tc pre (c.ty,c.tag)&&decide (c.arg.length<=1)&&ew 4 c.name):=by unfold FH tc;rw [Pk]
def si (s:List UInt8):aQ:=.mk 16 0 0 s []
theorem Z7 (s:List UInt8):jr (si s)=ew 4 s:=by
 have h:=yS (named:=ew) (si s).size (si s) (apv _) (by simp [si,aQ.size,cA]);have aG:hC 16=2:=by decide
 unfold jr;rw [<-h];simp [si,aQ.lr,aQ.k,aG,uU,qm,kS,mu]
theorem Z6 [Lay] (F:aL->Prop) (h:ae) (s:List UInt8) (aZ:s.length<=top):bN F h (si s).enc [.int .i64 16,.int .i64 0,.int .i64 0,.str s,.bg]:=by unfold si;rw [Cd];exact .i (.i (.i (.s aZ ((b0.nil _ _ _).cons .nil))))
abbrev lU:List V:=[.str [],.str [],.int .i64 0,.int .i64 0,.bg]
theorem aid (cs:List bI) (v:V) (h:ae) (L:b0 Any h 5 (cs.map bI.enc) v):
 c9 Tryz.prog 70 [v] h fun x ab=>∃k,x=.tuple [k,.bool (jL [] cs)]/\Ext h ab/\(jL [] cs=true->rU cs ab k):=by
 have aA:=L.len;have hle:=L.le;have ol:=L.one;rw [apG] at aA hle;refine Zm.z rfl (cw ?_);unfold OV;obtain ⟨aa,ak,aK,c8⟩:∃H,h.new (.mp [] 0)=H/\Ext h H/\jC (fun v:V=>v) H (aw h.next) []:=⟨_,rfl,(Ext.refl h).new _,jC.new _ h⟩;have di:aa.next=h.next+1:=by rw [<-ak];rfl
 obtain ⟨ad,al,aS,dv⟩:=fM aa [.map (aw h.next),v];have iO:ad.next=aa.next+1:=by rw [<-al];rfl
 obtain ⟨aJ,aI,bU,qH⟩:∃H,ad.new (.mp [] 0)=H/\Ext ad H/\gS uE H (aw ad.next) []:=⟨_,rfl,(Ext.refl ad).new _,gS.new _ ad⟩;have n3:aJ.next=ad.next+1:=by rw [<-aI];rfl
 simp +contextual only [ol.1,ol.2.1,ol.2.2,ak,al,aI,aA,rn,sX,aT.opt,↓an,aF,simprocAttr];refine gl (fun r g=>r 4=.ptr (aw aa.next) 0/\r 5=.map (aw ad.next)/\r 16=v/\r 17=.int .i64 cs.length/\Ext h g/\∃i:Nat,r 18=.int .i64 i/\i<=cs.length/\jL [] cs=jL (cs.take i) (cs.drop i)/\Has g aa.next [.map (aw h.next),v]/\qx (Old h) (cs.take i) g (aw h.next)/\De (cs.take i) g (aw ad.next)) (fun r g=>cs.length - (r 18).toN) ?_ ?_
 . refine ⟨by simp only [↓an,bH,simprocAttr],by simp only [↓an,bH,simprocAttr],by simp only [↓an,bH,simprocAttr],by simp only [↓an,bH,simprocAttr],(aK.trans aS).trans bU,0,by simp only [↓an,bH,simprocAttr]<;>rfl,by omega,rfl,dv.ext bU,⟨[],(c8.ext aS).ext bU,fun s=>rfl⟩,⟨[],qH,fun m=>rfl⟩⟩
 rintro r g ⟨cL,bT,r16,n9,eC,i,rC,ax,aB,B,M,S⟩;have KQ:=B.lt;have ao3:ad.next<g.next:=by obtain ⟨aN,q,_⟩:=S.ex;have:=q.bG;unfold Old at this;rwa [c1] at this
 unfold OW;by_cases aR:i<cs.length
 . have g0:((i:Int) < (cs.length:Int))=True:=apC (by omega);obtain ⟨b,off,dq,cr,X,xy,Kt,_,_,_,_⟩:=bI.lh L (k:=.i64) aR;have d5:=Kt g eC;have kc:=xy.one;have yJ:=xy.len;have dU:=h8 aR (by unfold top at hle;omega);have adv:cs.drop i=cs[i]::cs.drop (i+1):=ap0 aR;have rf:cs.take (i+1)=cs.take i++[cs[i]]:=aqd aR;have uh:cs[i].name.length<=top:=by obtain ⟨_,_,z,_⟩:=X.str;exact z
   rw [adv,jL] at aB;obtain ⟨g1,bB,b9,xj⟩:=fw g lU (km cs[i] dq);have n4:g1.next=g.next+1:=by rw [<-bB];rfl
   have lV:=B.ext b9;have nw:=M.ext b9;have Dc:=S.ext b9;obtain ⟨aN,Fs,Tn⟩:=nw.ex;have lL:=fun ok=>Fs.look cs[i].name (.agg lU) ok;have Ft:=Tn cs[i].name;obtain ⟨zp,alX,U8⟩:=Dc.ex;have bF:(g.next=aa.next)=False:=apy (by omega);have hy:(aa.next=g.next)=False:=apy (by omega);obtain ⟨py,pz,sj,sk,fW,is,Jh,Jr,tZ⟩:∃(py pz:List UInt8) (sj sk:Int) (fW:V) (is:Bool),is=(dZ cs[i].name (cs.take i)).isSome/\(∀dM,Ext g1 dM->gk ja.str.eq (.agg [.str [],.str [],.int .i64 0,.int .i64 0,.bg]) true dM (.map (aw h.next)) (.str cs[i].name)=some (.tuple [.agg [.str py,.str pz,.int .i64 sj,.int .i64 sk,fW],.bool is]))/\fW.one=true/\fW.cells=[fW]:=by
    cases ao:dZ cs[i].name (cs.take i) with
    | none=>
      rw [ao] at Ft;refine ⟨[],[],0,0,.bg,false,rfl,fun dM cC=>?_,rfl,rfl⟩;show gk jh _ _ _ _ _=_;rw [(Fs.ext cC).look cs[i].name (.agg lU) true,show ij cs[i].name aN=none from Ft];rfl
    | some c=>
      rw [ao] at Ft;obtain ⟨L8,f1,f2⟩:=Ft;refine ⟨c.name,c.ty,c.tag,c.par,L8,true,rfl,fun dM cC=>?_,f2.one.1,f2.one.2.1⟩;show gk jh _ _ _ _ _=_;rw [(Fs.ext cC).look cs[i].name (.agg lU) true,f1];rfl
   have EK:=Jr g1 (Ext.refl g1);obtain ⟨Eg,o7,cI,rM⟩:=fM g1 lU;have EM:=Jr Eg cI;have CH:=lV.ext cI;have CK:=xj.ext cI;obtain ⟨g2,cG,dP,qy⟩:=fw g1 lU [.str py,.str pz,.int .i64 sj,.int .i64 sk,fW];rw [o7] at cG;have Tr:g2.next=g1.next+1:=by rw [<-cG,nd,<-o7];rfl
   have EL:=Jr g2 dP;obtain ⟨g3,ef,gV,zQ⟩:=fw g2 [.str [],.int .i64 0] [.str cs[i].ty,.int .i64 cs[i].tag];have n6:g3.next=g2.next+1:=by rw [<-ef];rfl
   have zJ:=xj.ext dP;have zK:=zJ.ext gV;have nr:=lV.ext dP;have V':=nr.ext gV;have U9:=(alX.ext dP).ext gV;have yP:ha (structEq Tryz.prog 152) (.bool false) false g3 (.map (aw ad.next)) (.agg [.str cs[i].ty,.int .i64 cs[i].tag])=some (.bool (tc (cs.take i) (cs[i].ty,cs[i].tag))):=by have:=U9.look To (cs[i].ty,cs[i].tag) (.bool false) false;simp only [uE] at this;rw [this,U8];cases tc (cs.take i) (cs[i].ty,cs[i].tag)<;>rfl
   have qp:=ai4 (cs[i].ty,cs[i].tag);simp only [uE] at qp;have pb:(g.next=g1.next)=False:=apy (by omega);have tp:(g1.next=g.next)=False:=apy (by omega);have GH:(g.next=g2.next)=False:=apy (by omega);have GI:(g2.next=g.next)=False:=apy (by omega);have bz:=ajG (cs.take i) cs[i];rw [<-Jh] at bz;have DP:=((eC.trans b9).trans dP).trans gV;cases is with
   | true=>
     have kx:jL [] cs=false:=by rw [aB,bz];simp
     simp +contextual only [cL,bT,r16,n9,rC,g0,cr,d5,kc.1,kc.2.1,tZ.1,tZ.2,bB,o7,cG,ef,EK,EL,EM,CH.g,CK.g,rM.g,tL,yP,qp,apu,apA,lV.g,nr.g,xj.g,zJ.g,zK.g,qy.g,zQ.g,bF,hy,pb,tp,GH,GI,↓mw,↓an,aF,simprocAttr];exact ⟨_,by rw [kx],DP,fun z=>by rw [kx] at z;cases z⟩
   | false=>
   cases pX:tc (cs.take i) (cs[i].ty,cs[i].tag) with
   | true=>
     have kx:jL [] cs=false:=by rw [aB,bz,pX];simp
     rw [pX] at yP;simp +contextual only [cL,bT,r16,n9,rC,g0,cr,d5,kc.1,kc.2.1,tZ.1,tZ.2,bB,o7,cG,ef,EK,EL,EM,CH.g,CK.g,rM.g,tL,yP,qp,apu,apA,lV.g,nr.g,xj.g,zJ.g,zK.g,qy.g,zQ.g,bF,hy,pb,tp,GH,GI,↓mw,↓an,aF,simprocAttr];exact ⟨_,by rw [kx],DP,fun z=>by rw [kx] at z;cases z⟩
   | false=>
   rw [pX] at yP;by_cases RD:(cs[i].arg.length:Int)>1
   . have kx:jL [] cs=false:=by
      have:¬cs[i].arg.length<=1:=by omega
      rw [aB,bz,aqj this];simp
     simp +contextual only [cL,bT,r16,n9,rC,g0,cr,d5,kc.1,kc.2.1,yJ,apC RD,tZ.1,tZ.2,bB,o7,cG,ef,EK,EL,EM,CH.g,CK.g,rM.g,tL,yP,qp,apu,apA,lV.g,nr.g,xj.g,zJ.g,zK.g,qy.g,zQ.g,bF,hy,pb,tp,GH,GI,↓mw,↓an,aF,simprocAttr];exact ⟨_,by rw [kx],DP,fun z=>by rw [kx] at z;cases z⟩
   simp +contextual only [cL,bT,r16,n9,rC,g0,cr,d5,kc.1,kc.2.1,yJ,apy RD,tZ.1,tZ.2,bB,o7,cG,ef,EK,EL,EM,CH.g,CK.g,rM.g,tL,yP,qp,apu,apA,lV.g,nr.g,xj.g,zJ.g,zK.g,qy.g,zQ.g,bF,hy,pb,tp,GH,GI,↓mw,↓an,aF,simprocAttr];refine cu (Ua (si cs[i].name) (by simp [si,aQ.size,cA]) _ g3 (Z6 Any g3 _ uh)) ?_;rintro x g4 ⟨rfl,k2⟩;rw [Z7];have xV:=DP.trans k2;cases k':ew 4 cs[i].name with
   | false=>
     have kx:jL [] cs=false:=by rw [aB,bz,k'];simp
     simp +contextual only [↓an,aF,simprocAttr];exact ⟨_,by rw [kx],xV,fun z=>by rw [kx] at z;cases z⟩
   | true=>
     have Wd:=zK.ext k2;have V_:=V'.ext k2;have Wk:=zQ.ext k2;have n7:=k2.next
     obtain ⟨g5,f1,f2,f3,f4⟩:=(U9.ext k2).o_ To (cs[i].ty,cs[i].tag) (.bool true);simp only [uE] at f1;have Mq:=Wd.mod f3 (fun z=>by have:=hN z;omega);have Mm:=V_.mod f3 (fun z=>by have:=hN z;omega);have ai2:=((((Fs.ext dP).ext gV).ext k2).mod f3 (fun z=>by have:=hN z;omega));obtain ⟨g6,b7,cj,ei,hH⟩:=ai2.o_ cs[i].name (.agg (km cs[i] dq));have anu:=Mq.mod ei (fun z=>by have:=hN z;omega);have Wa:=Mm.mod ei (fun z=>by have:=hN z;omega);have afG:jT ja.str.eq g5 (.map (aw h.next)) (.str cs[i].name) (.agg (km cs[i] dq))=some g6:=b7;simp +contextual only [cL,bT,r16,n9,rC,qp,f1,afG,dU,Wk.g,Mq.g,Mm.g,bF,hy,apu,↓mw,↓an,aF,simprocAttr];have cX:∀{b:aL},Old h b->¬b=aw ad.next:=fun {b} ah z=>by subst z;unfold Old at ah;rw [c1] at ah;omega
     have ck:∀{b:aL},Old h b->¬b=aw h.next:=fun {b} ah z=>by subst z;unfold Old at ah;rw [c1] at ah;omega
     have wQ:=n7;refine ⟨⟨(xV.nZ f3 fun b z=>by rw [show b=aw ad.next from z,c1];omega).nZ ei fun b z=>by rw [show b=aw h.next from z,c1];exact apv _,i+1,rfl,aR,?_,Wa,?_,?_⟩,by omega⟩
     . have:cs[i].arg.length<=1:=by omega
       rw [aB,bz,rf,pX,k',aqf this];simp
     . rw [rf];refine ⟨_,cj,fun s=>?_⟩;rw [Pm,KB];have m2:=Tn s;have carry:∀{es:List (List D)} {w:V},b0 (Old h) g1 4 es w->b0 (Old h) g6 4 es w:=fun z=>((((z.ext dP).ext gV).ext k2).mod f3 fun b ah _=>⟨cX ah,ah⟩).mod ei fun b ah _=>⟨ck ah,ah⟩;cases ao:dZ s (cs.take i) with
       | some c=>
         rw [ao] at m2;obtain ⟨L8,m3,m4⟩:=m2;have c4:s≠cs[i].name:=fun z=>by rw [z] at ao;rw [ao] at Jh;cases Jh
         rw [apw c4];exact ⟨L8,m3,carry m4⟩
       | none=>
         rw [ao] at m2;by_cases az:s=cs[i].name
         . subst az;simp only [ap3];exact ⟨dq,rfl,carry ((xy.rv.ext eC).ext b9)⟩
         . rw [apw az,apw (fun z=>az z.symm)];exact m2
     . rw [rf];refine ⟨_,f2.mod ei (fun z=>by have:=hN z;omega),fun m=>?_⟩;rw [S6,U8,alF];by_cases hm:m=(cs[i].ty,cs[i].tag)
       . subst hm;simp
       . simp [hm]
 . have g0:((i:Int) < (cs.length:Int))=False:=apy (by omega);have adV:i=cs.length:=by omega
   subst adV;rw [aqv (apv _),jL] at aB;rw [aqX] at M;simp +contextual only [cL,n9,rC,g0,aB,↓an,aF,simprocAttr];exact ⟨_,rfl,eC,⟨aa.next,_,v,rfl,B,M.gR fun _ _=>trivial,L.ext eC⟩⟩
end
end Go.Proofs.YtgmhjhgoamjeeaaGreatDoor
