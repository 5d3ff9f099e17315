/- The chapter's functions, walked by the abstract machine: plain lemmas, no condition. Printed by a program from longer texts: names made short. -/
import Derived.Test.YtgmhjhgoamjeeaaGreatDoorM14
import Derived.Test.YtgmhjhgoamjeeaaGreatDoorM15
set_option linter.unusedSectionVars false
set_option linter.unusedSimpArgs false
set_option linter.unusedVariables false
set_option maxHeartbeats 64000000
noncomputable section
namespace Go.Proofs.YtgmhjhgoamjeeaaGreatDoor
section
open Go aX
abbrev dq (p:aL) (cm:V):List V:=[.int .i64 p.k,.int .i64 p.n,.int .i64 p.a,.str p.s,cm]
abbrev kM (c:bz) (dA:V):List V:=[.str c.name,.str c.ty,.int .i64 c.tag,.int .i64 c.par,dA]
section
variable [Lay] {F:aM->Prop} {h:ae}
theorem bz.open {c:bz} {af:List V} (H:bM F h c.enc af):∃dA,af=kM c dA/\bY F h 4 c.arg dA:=by obtain ⟨_,rfl,_,H1⟩:=H.str;obtain ⟨_,rfl,_,cX⟩:=H1.str;obtain ⟨_,rfl,sb⟩:=cX.int;obtain ⟨_,rfl,vH⟩:=sb.int;obtain ⟨dA,_,rfl,L,sc⟩:=vH.eW;rw [sc.no];exact ⟨dA,rfl,L⟩
theorem bz.k3 {l:List bz} {v:V} (H:bY F h 5 (l.map bz.enc) v) {k:IntKind} {i:Nat} (aw:i<l.length):
 ∃b off dA,fX 5 v (.int k i)=some (.ptr b (off+i * 5))/\bM F h l[i].enc (kM l[i] dA)/\bY F h 4 l[i].arg dA/\
  (∀ab,Ext h ab->mW 5 (ab.get b) (off+i * 5)=some (.agg (kM l[i] dA)))/\
  (∀ab,Ext h ab->gq (ab.get b) (off+i * 5)=some (.str l[i].name))/\(∀ab,Ext h ab->gq (ab.get b) (off+i * 5+1)=some (.str l[i].ty))/\(∀ab,Ext h ab->gq (ab.get b) (off+i * 5+2)=some (.int .i64 l[i].tag))/\(∀ab,Ext h ab->gq (ab.get b) (off+i * 5+4)=some dA):=by
 obtain ⟨b,off,u,aJ,aR,bP,b4,dD⟩:=H.at (k:=k) (i:=i) (by rw [arC];exact aw);rw [as8] at aR;obtain ⟨dA,rfl,L⟩:=bz.open aR;exact ⟨b,off,dA,aJ,aR,L,b4,fun ab e=>by simpa using dD ab e 0 (by omega),fun ab e=>by simpa using dD ab e 1 (by omega),fun ab e=>by simpa using dD ab e 2 (by omega),fun ab e=>by simpa using dD ab e 4 (by omega)⟩
end
theorem aoS (p:aL) (af:List V) (h:ae) (H:bM Any h p.enc af):cR Tryz.prog 72 [.agg af] h fun x ab=>x=.bool (nY p)/\Ext h ab:=by
 obtain ⟨cm,rfl,L,_⟩:=aL.open H;have ol:=L.one;refine aa1.z rfl (cp ?_);unfold Qf nY;obtain ⟨aa,al,aJ,cH⟩:=fq h (dq p cm);by_cases a:p.k=10
 . simp +contextual only [ol.1,ol.2.1,al,cH.g,arD a,↓aj,aC,simprocAttr];exact aJ
 . simp +contextual only [ol.1,ol.2.1,al,cH.g,arx a,↓aj,aC,simprocAttr];exact aJ
def km (h:de):V:=.agg [.int .i64 h.1,.int .i64 h.2.1,.str h.2.2.1,.int .i64 h.2.2.2]
theorem afd (p:aL) (af:List V) (h:ae) (H:bM Any h p.enc af):cR Tryz.prog 73 [.agg af] h fun x ab=>x=km (fB p)/\Ext h ab:=by obtain ⟨cm,rfl,L,_⟩:=aL.open H;have ol:=L.one;have ax:=L.len;rw [List.length_map] at ax;refine aa2.z rfl (cp ?_);unfold Qg;obtain ⟨aa,al,aJ,cH⟩:=fq h (dq p cm);obtain ⟨ad,ao,aR,c1⟩:=fq aa [.int .i64 0,.int .i64 0,.str [],.int .i64 0];obtain ⟨aH,aK,bP,ep⟩:=fy aa [.int .i64 0,.int .i64 0,.str [],.int .i64 0] [.int .i64 p.k,.int .i64 p.n,.str p.s,.int .i64 p.l.length];have A:=cH.ext aR;rw [ao] at aK;simp +contextual only [ol.1,ol.2.1,ax,al,ao,aK,cH.g,c1.g,A.g,ep.g,↓aj,aC,simprocAttr];exact ⟨rfl,aJ.trans bP⟩
def vy:aL:=.mk 22 0 0 [] []
def o_ (p:aL):aL:=.mk 52 0 0 [] [p,vy]
theorem acb (p:aL) (aU:p.size+2<=1000000000) (h:10<=p.k/\p.k<=16):(v7 [o_ p]=2)=(jk p=false):=by
 have bk:(o_ p).size=p.size+2:=by simp only [o_,vy,aL.size,b8];omega
 have aa:=zl (named:=eF) (o_ p).size (o_ p) (arv _) (by omega);have ad:=zl (named:=eF) p.size p (arv _) (by omega);have key:(o_ p).may eF=p.may eF:=by
  rw [<-aa,<-ad];have aB:vn p.k 2=true:=by unfold vn;rw [arw (by decide),anb _ h];rfl
  have hu:vy.lR eF=true:=by simp [vy,aL.lR,hW,vo,qN,lf,na]
  have KS:vn vy.k 3=true:=by decide
  have aF:hW 52=7:=by decide
  simp [o_,aL.lR,aF,vo,qN,lf,na,aB,hu,KS]
 unfold v7 jk;have aF:hW (o_ p).k=7:=by show hW 52=7;decide
 simp only [as_,List.all_nil,aF,key,h.1,h.2,as7,ar8,asx];cases p.may eF
 . simp
 . simp only [ar2,Bool.true_eq_false,eq_iff_iff,iff_false]
   split<;>decide
theorem aoJ [Lay] (F:aM->Prop) (h:ae):bM F h vy.enc [.int .i64 22,.int .i64 0,.int .i64 0,.str [],.bj]:=by unfold vy;rw [zA];exact .i (.i (.i (.s (asP _) ((bY.nil _ _ _).cons .nil))))
theorem Vz (p:aL) (aU:p.size+2<=1000000000) (af:List V) (h:ae) (H:bM Any h p.enc af):cR Tryz.prog 37 [.agg af] h fun x ab=>x=.bool (jk p)/\Ext h ab:=by
 have At:=H;obtain ⟨cm,rfl,L,_⟩:=aL.open H;have ol:=L.one;refine aaH.z rfl (cp ?_);unfold PF;obtain ⟨aa,al,aJ,cH⟩:=fq h (dq p cm);by_cases a:p.k<10
 . simp +contextual only [ol.1,ol.2.1,al,cH.g,arD a,↓aj,aC,simprocAttr];refine ⟨?_,aJ⟩;have:¬(10<=p.k):=by omega
   simp [jk,this]
 . by_cases b:p.k>16
   . simp +contextual only [ol.1,ol.2.1,al,cH.g,arx a,arD b,↓aj,aC,simprocAttr];refine ⟨?_,aJ⟩;have:¬(p.k<=16):=by omega
     simp [jk,this]
   . obtain ⟨ad,ao,aR,fN⟩:=F5 (F:=Any) (size:=5) (h:=aa) rfl rfl (At.ext aJ) (aoJ Any aa) trivial;have cX:bM Any ad (o_ p).enc [.int .i64 52,.int .i64 0,.int .i64 0,.str [],.slice (az aa.next) 0 2 2]:=by
      unfold o_;rw [zA];exact .i (.i (.i (.s (asP _) (fN.cons .nil))))
     obtain ⟨aH,aK,bP,q7⟩:=u7 (F:=Any) (size:=5) (h:=ad) rfl cX trivial;simp only [dq,arR,asb] at ao;simp +contextual only [ol.1,ol.2.1,al,cH.g,ao,aK,arx a,arx b,↓aj,aC,simprocAttr];refine cb (abA [o_ p] (by simp only [b8,o_,vy,aL.size];omega) _ aH q7) ?_;rintro x bw ⟨rfl,b4⟩;have a8:=acb p aU ⟨by omega,by omega⟩;simp +contextual only [a8,↓aj,aC,simprocAttr];refine ⟨?_,((aJ.trans aR).trans bP).trans b4⟩;cases jk p<;>rfl
abbrev DN:=List UInt8 × Int
def u_ (m:DN):V:=.agg [.str m.1,.int .i64 m.2]
theorem Rz (s:List UInt8):l2 s s=true:=by rw [OD];simp
theorem Ry (x:Int):Int.gQ x x=true:=by rw [ED];simp
theorem akN (a b:List UInt8) (x y:Int):(structEq Tryz.prog 152).run (.agg [.str a,.int .i64 x]) (.agg [.str b,.int .i64 y])=
 (match (match jE.run (.str a) (.str b) with
   | none=>none
   | some cc=>bif cc then (match ki.run (.int .i64 x) (.int .i64 y) with
     | none=>none
     | some cj=>bif cj then some true else some false) else some false) with
 | some q=>bif q then (bif p3 [.str a,.int .i64 x] [.str b,.int .i64 y] then some true else none) else some false
 | none=>none):=by kernel_rfl
theorem UI:uj (structEq Tryz.prog 152) u_:=fun ⟨a,x⟩ ⟨b,y⟩=>by
 simp only [u_,akN,G6,G4];by_cases c:a=b
 . subst c;by_cases d:x=y
   . subst d;simp [p3,sN,Rz,Ry,pc]
   . simp [d]
 . simp [c]
theorem akO (m:DN):lK Tryz.prog 152 (u_ m)=true:=by obtain ⟨a,x⟩:=m;kernel_rfl
theorem ae' (b3 b5 dp fZ e8 hs:Int) (s1 s2:List UInt8):(structEq Tryz.prog 111).run (.agg [.int .i64 b3,.int .i64 dp,.str s1,.int .i64 e8]) (.agg [.int .i64 b5,.int .i64 fZ,.str s2,.int .i64 hs])=
 (match (match ki.run (.int .i64 b3) (.int .i64 b5) with
   | none=>none
   | some cc=>bif cc then (match ki.run (.int .i64 dp) (.int .i64 fZ) with
     | none=>none
     | some cj=>bif cj then (match jE.run (.str s1) (.str s2) with
       | none=>none
       | some eI=>bif eI then (match ki.run (.int .i64 e8) (.int .i64 hs) with
         | none=>none
         | some jX=>bif jX then some true else some false) else some false) else some false) else some false) with
 | some q=>bif q then (bif p3 [.int .i64 b3,.int .i64 dp,.str s1,.int .i64 e8] [.int .i64 b5,.int .i64 fZ,.str s2,.int .i64 hs] then some true else none) else some false
 | none=>none):=by kernel_rfl
theorem JR:uj (structEq Tryz.prog 111) km:=fun ⟨b3,dp,s1,e8⟩ ⟨b5,fZ,s2,hs⟩=>by
 simp only [km,ae',G6,G4,asi];by_cases c:b3=b5
 . subst c;by_cases d:dp=fZ
   . subst d;by_cases e:s1=s2
     . subst e;by_cases f:e8=hs
       . subst f;simp [p3,sN,Rz,Ry,pc]
       . simp [f]
     . simp [e]
   . simp [d]
 . simp [c]
theorem SE (m:de):lK Tryz.prog 111 (km m)=true:=by obtain ⟨a,x,b,y⟩:=m;kernel_rfl
theorem Zr {P:Program} [Lay] {d:Option Nat} {k:TypeId} {z:V} {ok:Bool} {x i:aT} {rs:List Nat} {e:fM} {H:ae}:pW P ⟨d,.looks k z ok x i,none,rs⟩ e H=((bif lK P k (i.aQ (e.r.trim rs)) then hv (structEq P k) z ok H (x.aQ (e.r.trim rs)) (i.aQ (e.r.trim rs)) else none)=some e.v):=D5 rfl
structure qX (F:aM->Prop) (cs:List bz) (h:ae) (cv:aM):Prop where
 ex:∃aO:List (List UInt8 × V),jV (fun v=>v) h cv aO/\∀s,match eh s cs with
  | some c=>∃dA,iK s aO=some (.agg (kM c dA))/\bY F h 4 c.arg dA
  | none=>iK s aO=none
theorem qX.ext {F:aM->Prop} {cs:List bz} {h ab:ae} {cv:aM} (H:qX F cs h cv) (e:Ext h ab):qX F cs ab cv:=by
 obtain ⟨aO,al,ao⟩:=H.ex;refine ⟨aO,al.ext e,fun s=>?_⟩;have:=ao s;cases aq:eh s cs<;>rw [aq] at this<;>simp only at this ⊢
 . exact this
 . obtain ⟨dA,a,b⟩:=this;exact ⟨dA,a,b.ext e⟩
theorem qX.gy {F dU:aM->Prop} {cs:List bz} {h:ae} {cv:aM} (H:qX F cs h cv) (w:∀b,F b->dU b):qX dU cs h cv:=by
 obtain ⟨aO,al,ao⟩:=H.ex;refine ⟨aO,al,fun s=>?_⟩;have:=ao s;cases aq:eh s cs<;>rw [aq] at this<;>simp only at this ⊢
 . exact this
 . obtain ⟨dA,a,b⟩:=this;exact ⟨dA,a,b.gy w⟩
structure sg (cs:List bz) (h:ae) (k:V):Prop where
 ex:∃hr cv mZ,k=.ptr (az hr) 0/\Has h hr [.map cv,mZ]/\qX Any cs h cv/\bY Any h 5 (cs.map bz.enc) mZ
theorem sg.ext {cs:List bz} {h ab:ae} {k:V} (H:sg cs h k) (e:Ext h ab):sg cs ab k:=by obtain ⟨hr,cv,mZ,al,ao,aK,bG⟩:=H.ex;exact ⟨hr,cv,mZ,al,ao.ext e,aK.ext e,bG.ext e⟩
theorem QE (s:List UInt8) (c:bz):∀l:List bz,eh s (l++[c])=(match eh s l with
 | some d=>some d
 | none=>if c.name=s then some c else none)
 | []=>by simp only [asb,eh]
 | d::l=>by
   simp only [arR,eh,QE s c l];by_cases q:d.name=s
   . simp [q]
   . simp [q]
theorem QC {s:List UInt8}:∀l:List bz,(eh s l).isSome=l.any fun d=>decide (d.name=s)
 | []=>rfl
 | d::l=>by
   simp only [eh,List.any_cons];by_cases q:d.name=s
   . simp [q]
   . simp [q,QC l]
def tF (pre:List bz) (m:DN):Bool:=pre.any fun d=>decide (d.ty=m.1/\d.tag=m.2)
theorem anu (pre:List bz) (c:bz) (m:DN):tF (pre++[c]) m=(tF pre m||decide (m=(c.ty,c.tag))):=by unfold tF;rw [List.any_append];congr 1;obtain ⟨a,b⟩:=m;simp only [List.any_cons,List.any_nil,Bool.or_false,asi];exact decide_eq_decide.2 ⟨fun q=>⟨q.1.symm,q.2.symm⟩,fun q=>⟨q.1.symm,q.2.symm⟩⟩
structure DV (pre:List bz) (h:ae) (b:aM):Prop where
 ex:∃aO,hk u_ h b aO/\∀m,ek m aO=if tF pre m=true then some (.bool true) else none
theorem DV.ext {pre:List bz} {h ab:ae} {b:aM} (H:DV pre h b) (e:Ext h ab):DV pre ab b:=by obtain ⟨aO,al,ao⟩:=H.ex;exact ⟨aO,al.ext e,ao⟩
theorem alq (pre:List bz) (c:bz):Gn pre c=(!(eh c.name pre).isSome&&!tF pre (c.ty,c.tag)&&decide (c.arg.length<=1)&&eF 4 c.name):=by unfold Gn tF;rw [QC]
def sI (s:List UInt8):aL:=.mk 16 0 0 s []
theorem abL (s:List UInt8):jk (sI s)=eF 4 s:=by
 have h:=zl (named:=eF) (sI s).size (sI s) (arv _) (by simp [sI,aL.size,b8]);have aF:hW 16=2:=by decide
 unfold jk;rw [<-h];simp [sI,aL.lR,aL.k,aF,vo,qN,lf,na]
theorem abK [Lay] (F:aM->Prop) (h:ae) (s:List UInt8) (aU:s.length<=top):bM F h (sI s).enc [.int .i64 16,.int .i64 0,.int .i64 0,.str s,.bj]:=by unfold sI;rw [zA];exact .i (.i (.i (.s aU ((bY.nil _ _ _).cons .nil))))
abbrev mo:List V:=[.str [],.str [],.int .i64 0,.int .i64 0,.bj]
theorem aj3 (cs:List bz) (v:V) (h:ae) (L:bY Any h 5 (cs.map bz.enc) v):
 cR Tryz.prog 70 [v] h fun x ab=>∃k,x=.tuple [k,.bool (j6 [] cs)]/\Ext h ab/\(j6 [] cs=true->sg cs ab k):=by
 have ax:=L.len;have hle:=L.le;have ol:=L.one;rw [arC] at ax hle;refine aaY.z rfl (cp ?_);unfold P8;obtain ⟨aa,al,aJ,cH⟩:∃H,h.new (.mp [] 0)=H/\Ext h H/\jV (fun v:V=>v) H (az h.next) []:=⟨_,rfl,(Ext.refl h).new _,jV.new _ h⟩;have dp:aa.next=h.next+1:=by rw [<-al];rfl
 obtain ⟨ad,ao,aR,dv⟩:=fq aa [.map (az h.next),v];have fZ:ad.next=aa.next+1:=by rw [<-ao];rfl
 obtain ⟨aH,aK,bP,q7⟩:∃H,ad.new (.mp [] 0)=H/\Ext ad H/\hk u_ H (az ad.next) []:=⟨_,rfl,(Ext.refl ad).new _,hk.new _ ad⟩;have n3:aH.next=ad.next+1:=by rw [<-aK];rfl
 simp +contextual only [ol.1,ol.2.1,ol.2.2,al,ao,aK,ax,rS,tp,aT.opt,↓aj,aC,simprocAttr];refine fR (fun r g=>r 4=.ptr (az aa.next) 0/\r 5=.map (az ad.next)/\r 16=v/\r 17=.int .i64 cs.length/\Ext h g/\∃i:Nat,r 18=.int .i64 i/\i<=cs.length/\j6 [] cs=j6 (cs.take i) (cs.drop i)/\Has g aa.next [.map (az h.next),v]/\qX (Old h) (cs.take i) g (az h.next)/\DV (cs.take i) g (az ad.next)) (fun r g=>cs.length - (r 18).toN) ?_ ?_
 . refine ⟨by simp only [↓aj,bD,simprocAttr],by simp only [↓aj,bD,simprocAttr],by simp only [↓aj,bD,simprocAttr],by simp only [↓aj,bD,simprocAttr],(aJ.trans aR).trans bP,0,by simp only [↓aj,bD,simprocAttr]<;>rfl,by omega,rfl,dv.ext bP,⟨[],(cH.ext aR).ext bP,fun s=>rfl⟩,⟨[],q7,fun m=>rfl⟩⟩
 rintro r g ⟨cC,bK,r16,oQ,ei,i,r1,aw,aB,B,M,S⟩;have LK:=B.lt;have aq1:ad.next<g.next:=by obtain ⟨aO,q,_⟩:=S.ex;have:=q.bL;unfold Old at this;rwa [c7] at this
 unfold P9;by_cases aS:i<cs.length
 . have g0:((i:Int) < (cs.length:Int))=True:=arD (by omega);obtain ⟨b,off,dA,cd,X,xZ,Lk,_,_,_,_⟩:=bz.k3 L (k:=.i64) aS;have d5:=Lk g ei;have kB:=xZ.one;have zc:=xZ.len;have dM:=hj aS (by unfold top at hle;omega);have afb:cs.drop i=cs[i]::cs.drop (i+1):=ar3 aS;have rL:cs.take (i+1)=cs.take i++[cs[i]]:=asg aS;have uP:cs[i].name.length<=top:=by obtain ⟨_,_,z,_⟩:=X.str;exact z
   rw [afb,j6] at aB;obtain ⟨g1,bG,b4,xL⟩:=fy g mo (kM cs[i] dA);have n4:g1.next=g.next+1:=by rw [<-bG];rfl
   have ll:=B.ext b4;have n':=M.ext b4;have oe:=S.ext b4;obtain ⟨aO,F',UH⟩:=n'.ex;have mb:=fun ok=>F'.look cs[i].name (.agg mo) ok;have F_:=UH cs[i].name;obtain ⟨zU,anN,Wz⟩:=oe.ex;have bu:(g.next=aa.next)=False:=arx (by omega);have eQ:(aa.next=g.next)=False:=arx (by omega);obtain ⟨p0,p1,sJ,sK,gm,is,J9,Ki,uF⟩:∃(p0 p1:List UInt8) (sJ sK:Int) (gm:V) (is:Bool),is=(eh cs[i].name (cs.take i)).isSome/\(∀dz,Ext g1 dz->gK jt.str.eq (.agg [.str [],.str [],.int .i64 0,.int .i64 0,.bj]) true dz (.map (az h.next)) (.str cs[i].name)=some (.tuple [.agg [.str p0,.str p1,.int .i64 sJ,.int .i64 sK,gm],.bool is]))/\gm.one=true/\gm.cells=[gm]:=by
    cases aq:eh cs[i].name (cs.take i) with
    | none=>
      rw [aq] at F_;refine ⟨[],[],0,0,.bj,false,rfl,fun dz cF=>?_,rfl,rfl⟩;show gK jE _ _ _ _ _=_;rw [(F'.ext cF).look cs[i].name (.agg mo) true,show iK cs[i].name aO=none from F_];rfl
    | some c=>
      rw [aq] at F_;obtain ⟨M5,f1,f2⟩:=F_;refine ⟨c.name,c.ty,c.tag,c.par,M5,true,rfl,fun dz cF=>?_,f2.one.1,f2.one.2.1⟩;show gK jE _ _ _ _ _=_;rw [(F'.ext cF).look cs[i].name (.agg mo) true,f1];rfl
   have Fv:=Ki g1 (Ext.refl g1);obtain ⟨E1,pK,cr,r_⟩:=fq g1 mo;have Fx:=Ki E1 cr;have Dj:=ll.ext cr;have Dm:=xL.ext cr;obtain ⟨g2,cK,dD,n0⟩:=fy g1 mo [.str p0,.str p1,.int .i64 sJ,.int .i64 sK,gm];rw [pK] at cK;have UL:g2.next=g1.next+1:=by rw [<-cK,nP,<-pK];rfl
   have Fw:=Ki g2 dD;obtain ⟨g3,ev,gA,Aq⟩:=fy g2 [.str [],.int .i64 0] [.str cs[i].ty,.int .i64 cs[i].tag];have n6:g3.next=g2.next+1:=by rw [<-ev];rfl
   have Aj:=xL.ext dD;have Ak:=Aj.ext gA;have mq:=ll.ext dD;have XH:=mq.ext gA;have WA:=(anN.ext dD).ext gA;have zi:hv (structEq Tryz.prog 152) (.bool false) false g3 (.map (az ad.next)) (.agg [.str cs[i].ty,.int .i64 cs[i].tag])=some (.bool (tF (cs.take i) (cs[i].ty,cs[i].tag))):=by have:=WA.look UI (cs[i].ty,cs[i].tag) (.bool false) false;simp only [u_] at this;rw [this,Wz];cases tF (cs.take i) (cs[i].ty,cs[i].tag)<;>rfl
   have qQ:=akO (cs[i].ty,cs[i].tag);simp only [u_] at qQ;have ng:(g.next=g1.next)=False:=arx (by omega);have tR:(g1.next=g.next)=False:=arx (by omega);have Hp:(g.next=g2.next)=False:=arx (by omega);have Hq:(g2.next=g.next)=False:=arx (by omega);have bB:=alq (cs.take i) cs[i];rw [<-J9] at bB;have Ey:=((ei.trans b4).trans dD).trans gA;cases is with
   | true=>
     have kU:j6 [] cs=false:=by rw [aB,bB];simp
     simp +contextual only [cC,bK,r16,oQ,r1,g0,cd,d5,kB.1,kB.2.1,uF.1,uF.2,bG,pK,cK,ev,Fv,Fw,Fx,Dj.g,Dm.g,r_.g,um,zi,qQ,aru,arB,ll.g,mq.g,xL.g,Aj.g,Ak.g,n0.g,Aq.g,bu,eQ,ng,tR,Hp,Hq,↓nf,↓aj,aC,simprocAttr];exact ⟨_,by rw [kU],Ey,fun z=>by rw [kU] at z;cases z⟩
   | false=>
   cases qm:tF (cs.take i) (cs[i].ty,cs[i].tag) with
   | true=>
     have kU:j6 [] cs=false:=by rw [aB,bB,qm];simp
     rw [qm] at zi;simp +contextual only [cC,bK,r16,oQ,r1,g0,cd,d5,kB.1,kB.2.1,uF.1,uF.2,bG,pK,cK,ev,Fv,Fw,Fx,Dj.g,Dm.g,r_.g,um,zi,qQ,aru,arB,ll.g,mq.g,xL.g,Aj.g,Ak.g,n0.g,Aq.g,bu,eQ,ng,tR,Hp,Hq,↓nf,↓aj,aC,simprocAttr];exact ⟨_,by rw [kU],Ey,fun z=>by rw [kU] at z;cases z⟩
   | false=>
   rw [qm] at zi;by_cases SX:(cs[i].arg.length:Int)>1
   . have kU:j6 [] cs=false:=by
      have:¬cs[i].arg.length<=1:=by omega
      rw [aB,bB,asp this];simp
     simp +contextual only [cC,bK,r16,oQ,r1,g0,cd,d5,kB.1,kB.2.1,zc,arD SX,uF.1,uF.2,bG,pK,cK,ev,Fv,Fw,Fx,Dj.g,Dm.g,r_.g,um,zi,qQ,aru,arB,ll.g,mq.g,xL.g,Aj.g,Ak.g,n0.g,Aq.g,bu,eQ,ng,tR,Hp,Hq,↓nf,↓aj,aC,simprocAttr];exact ⟨_,by rw [kU],Ey,fun z=>by rw [kU] at z;cases z⟩
   simp +contextual only [cC,bK,r16,oQ,r1,g0,cd,d5,kB.1,kB.2.1,zc,arx SX,uF.1,uF.2,bG,pK,cK,ev,Fv,Fw,Fx,Dj.g,Dm.g,r_.g,um,zi,qQ,aru,arB,ll.g,mq.g,xL.g,Aj.g,Ak.g,n0.g,Aq.g,bu,eQ,ng,tR,Hp,Hq,↓nf,↓aj,aC,simprocAttr];refine cb (Vz (sI cs[i].name) (by simp [sI,aL.size,b8]) _ g3 (abK Any g3 _ uP)) ?_;rintro x g4 ⟨rfl,jB⟩;rw [abL];have yk:=Ey.trans jB;cases lG:eF 4 cs[i].name with
   | false=>
     have kU:j6 [] cs=false:=by rw [aB,bB,lG];simp
     simp +contextual only [↓aj,aC,simprocAttr];exact ⟨_,by rw [kU],yk,fun z=>by rw [kU] at z;cases z⟩
   | true=>
     have XL:=Ak.ext jB;have Hv:=XH.ext jB;have Hz:=Aq.ext jB;have n7:=jB.next
     obtain ⟨g5,f1,f2,f3,f4⟩:=(WA.ext jB).pN UI (cs[i].ty,cs[i].tag) (.bool true);simp only [u_] at f1;have Nr:=XL.mod f3 (fun z=>by have:=h5 z;omega);have Nn:=Hv.mod f3 (fun z=>by have:=h5 z;omega);have akM:=((((F'.ext dD).ext gA).ext jB).mod f3 (fun z=>by have:=h5 z;omega));obtain ⟨g6,b3,b5,dW,fY⟩:=akM.pN cs[i].name (.agg (kM cs[i] dA));have apj:=Nr.mod dW (fun z=>by have:=h5 z;omega);have XI:=Nn.mod dW (fun z=>by have:=h5 z;omega);have ahr:kc jt.str.eq g5 (.map (az h.next)) (.str cs[i].name) (.agg (kM cs[i] dA))=some g6:=b3;simp +contextual only [cC,bK,r16,oQ,r1,qQ,f1,ahr,dM,Hz.g,Nr.g,Nn.g,bu,eQ,aru,↓nf,↓aj,aC,simprocAttr];have da:∀{b:aM},Old h b->¬b=az ad.next:=fun {b} ah z=>by subst z;unfold Old at ah;rw [c7] at ah;omega
     have cw:∀{b:aM},Old h b->¬b=az h.next:=fun {b} ah z=>by subst z;unfold Old at ah;rw [c7] at ah;omega
     have xh:=n7;refine ⟨⟨(yk.oL f3 fun b z=>by rw [show b=az ad.next from z,c7];omega).oL dW fun b z=>by rw [show b=az h.next from z,c7];exact arv _,i+1,rfl,aS,?_,XI,?_,?_⟩,by omega⟩
     . have:cs[i].arg.length<=1:=by omega
       rw [aB,bB,rL,qm,lG,asm this];simp
     . rw [rL];refine ⟨_,b5,fun s=>?_⟩;rw [QE,Ls];have m2:=UH s;have carry:∀{es:List (List D)} {w:V},bY (Old h) g1 4 es w->bY (Old h) g6 4 es w:=fun z=>((((z.ext dD).ext gA).ext jB).mod f3 fun b ah _=>⟨da ah,ah⟩).mod dW fun b ah _=>⟨cw ah,ah⟩;cases aq:eh s (cs.take i) with
       | some c=>
         rw [aq] at m2;obtain ⟨M5,m3,m4⟩:=m2;have c_:s≠cs[i].name:=fun z=>by rw [z] at aq;rw [aq] at J9;cases J9
         rw [arw c_];exact ⟨M5,m3,carry m4⟩
       | none=>
         rw [aq] at m2;by_cases ay:s=cs[i].name
         . subst ay;simp only [ar2];exact ⟨dA,rfl,carry ((xZ.qC.ext ei).ext b4)⟩
         . rw [arw ay,arw (fun z=>ay z.symm)];exact m2
     . rw [rL];refine ⟨_,f2.mod dW (fun z=>by have:=h5 z;omega),fun m=>?_⟩;rw [Uo,Wz,anu];by_cases hm:m=(cs[i].ty,cs[i].tag)
       . subst hm;simp
       . simp [hm]
 . have g0:((i:Int) < (cs.length:Int))=False:=arx (by omega);have afC:i=cs.length:=by omega
   subst afC;rw [asy (arv _),j6] at aB;rw [asZ] at M;simp +contextual only [cC,oQ,r1,g0,aB,↓aj,aC,simprocAttr];exact ⟨_,rfl,ei,⟨aa.next,_,v,rfl,B,M.gy fun _ _=>trivial,L.ext ei⟩⟩
end
end Go.Proofs.YtgmhjhgoamjeeaaGreatDoor
