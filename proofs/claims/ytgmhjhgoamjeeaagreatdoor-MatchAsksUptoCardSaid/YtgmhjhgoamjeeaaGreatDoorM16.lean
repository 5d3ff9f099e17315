/- The chapter's functions, walked by the abstract machine: plain lemmas, no condition. Printed by a program from longer texts: names made short. -/
import Derived.Test.YtgmhjhgoamjeeaaGreatDoorM14
import Derived.Test.YtgmhjhgoamjeeaaGreatDoorM15
set_option linter.unusedSectionVars false
set_option linter.unusedSimpArgs false
set_option linter.unusedVariables false
set_option maxHeartbeats 64000000
noncomputable section
namespace Go.Proofs.YtgmhjhgoamjeeaaGreatDoor
section
open Go aZ
abbrev cd (p:aM) (ca:V):List V:=[.int .i64 p.k,.int .i64 p.n,.int .i64 p.a,.str p.s,ca]
abbrev mV (c:bY) (cU:V):List V:=[.str c.name,.str c.ty,.int .i64 c.tag,.int .i64 c.par,cU]
section
variable [Lay] {F:aO->Prop} {h:ae}
theorem bY.open {c:bY} {af:List V} (H:b6 F h c.enc af):∃cU,af=mV c cU/\bN F h 4 c.arg cU:=by obtain ⟨_,rfl,_,H1⟩:=H.str;obtain ⟨_,rfl,_,cE⟩:=H1.str;obtain ⟨_,rfl,vh⟩:=cE.int;obtain ⟨_,rfl,zT⟩:=vh.int;obtain ⟨cU,_,rfl,L,vi⟩:=zT.d';rw [vi.no];exact ⟨cU,rfl,L⟩
theorem bY.lV {l:List bY} {v:V} (H:bN F h 5 (l.map bY.enc) v) {k:IntKind} {i:Nat} (ax:i<l.length):
 ∃b off cU,f' 5 v (.int k i)=some (.ptr b (off+i * 5))/\b6 F h l[i].enc (mV l[i] cU)/\bN F h 4 l[i].arg cU/\
  (∀aa,Ext h aa->lX 5 (aa.get b) (off+i * 5)=some (.agg (mV l[i] cU)))/\
  (∀aa,Ext h aa->fy (aa.get b) (off+i * 5)=some (.str l[i].name))/\(∀aa,Ext h aa->fy (aa.get b) (off+i * 5+1)=some (.str l[i].ty))/\(∀aa,Ext h aa->fy (aa.get b) (off+i * 5+2)=some (.int .i64 l[i].tag))/\(∀aa,Ext h aa->fy (aa.get b) (off+i * 5+4)=some cU):=by
 obtain ⟨b,off,u,av,aK,bF,bZ,df⟩:=H.at (k:=k) (i:=i) (by rw [apv];exact ax);rw [aqZ] at aK;obtain ⟨cU,rfl,L⟩:=bY.open aK;exact ⟨b,off,cU,av,aK,L,bZ,fun aa e=>by simpa using df aa e 0 (by omega),fun aa e=>by simpa using df aa e 1 (by omega),fun aa e=>by simpa using df aa e 2 (by omega),fun aa e=>by simpa using df aa e 4 (by omega)⟩
end
theorem aan {s:List UInt8} {l:List bY} {i:Nat} (ax:i<l.length):eD s (l.drop i)=if l[i].name=s then some l[i] else eD s (l.drop (i+1)):=by rw [apW ax,eD]
theorem anh (p:aM) (af:List V) (h:ae) (H:b6 Any h p.enc af):cv Tryz.prog 72 [.agg af] h fun x aa=>x=.bool (r2 p)/\Ext h aa:=by
 obtain ⟨ca,rfl,L,_⟩:=aM.open H;have ol:=L.one;refine Zz.z rfl (cr ?_);unfold O8 r2;obtain ⟨U,aj,av,b9⟩:=fE h (cd p ca);by_cases a:p.k=10
 . simp +contextual only [ol.1,ol.2.1,aj,b9.g,apD a,↓ag,al,simprocAttr];exact av
 . simp +contextual only [ol.1,ol.2.1,aj,b9.g,apx a,↓ag,al,simprocAttr];exact av
theorem alJ (p:aM) (af:List V) (h:ae) (H:b6 Any h p.enc af):cv Tryz.prog 79 [.agg af] h fun x aa=>x=.bool (r2 p)/\Ext h aa:=by
 obtain ⟨ca,rfl,L,_⟩:=aM.open H;have ol:=L.one;refine ZB.z rfl (cr ?_);unfold O' r2;obtain ⟨U,aj,av,b9⟩:=fE h (cd p ca);by_cases a:p.k=10
 . simp +contextual only [ol.1,ol.2.1,aj,b9.g,apD a,↓ag,al,simprocAttr];exact av
 . simp +contextual only [ol.1,ol.2.1,aj,b9.g,apx a,↓ag,al,simprocAttr];exact av
def kb (h:dD):V:=.agg [.int .i64 h.1,.int .i64 h.2.1,.str h.2.2.1,.int .i64 h.2.2.2]
theorem adr (p:aM) (af:List V) (h:ae) (H:b6 Any h p.enc af):cv Tryz.prog 73 [.agg af] h fun x aa=>x=kb (eY p)/\Ext h aa:=by obtain ⟨ca,rfl,L,_⟩:=aM.open H;have ol:=L.one;have ar:=L.len;rw [List.length_map] at ar;refine ZA.z rfl (cr ?_);unfold O9;obtain ⟨U,aj,av,b9⟩:=fE h (cd p ca);obtain ⟨ab,an,aK,dz⟩:=fE U [.int .i64 0,.int .i64 0,.str [],.int .i64 0];obtain ⟨aI,aJ,bF,fa⟩:=hA U [.int .i64 0,.int .i64 0,.str [],.int .i64 0] [.int .i64 p.k,.int .i64 p.n,.str p.s,.int .i64 p.l.length];have A:=b9.ext aK;rw [an] at aJ;simp +contextual only [ol.1,ol.2.1,ar,aj,an,aJ,b9.g,dz.g,A.g,fa.g,↓ag,al,simprocAttr];exact ⟨rfl,av.trans bF⟩
def u_:aM:=.mk 22 0 0 [] []
def oN (p:aM):aM:=.mk 52 0 0 [] [p,u_]
theorem aaO (p:aM) (aW:p.size+2<=1000000000) (h:10<=p.k/\p.k<=16):(vO [oN p]=2)=(fj p=false):=by
 have bm:(oN p).size=p.size+2:=by simp only [oN,u_,aM.size,cj];omega
 have U:=uO (named:=dh) (oN p).size (oN p) (aps _) (by omega);have ab:=uO (named:=dh) p.size p (aps _) (by omega);have key:(oN p).may dh=p.may dh:=by
  rw [<-U,<-ab];have aA:po p.k 2=true:=by unfold po;rw [apu (by decide),aly _ h];rfl
  have hu:u_.j0 dh=true:=by simp [u_,aM.j0,fG,qB,hv,di,ko]
  have J8:po u_.k 3=true:=by decide
  have aG:fG 52=7:=by decide
  simp [oN,aM.j0,aG,qB,hv,di,ko,aA,hu,J8]
 unfold vO fj;have aG:fG (oN p).k=7:=by show fG 52=7;decide
 simp only [aqT,List.all_nil,aG,key,h.1,h.2,aq8,aqm,aqn];cases p.may dh
 . simp
 . simp only [ap0,Bool.true_eq_false,eq_iff_iff,iff_false]
   split<;>decide
theorem am4 [Lay] (F:aO->Prop) (h:ae):b6 F h u_.enc [.int .i64 22,.int .i64 0,.int .i64 0,.str [],.bu]:=by unfold u_;rw [Cg];exact .i (.i (.i (.s (aqL _) ((bN.nil _ _ _).cons .nil))))
theorem Lj (p:aM) (aW:p.size+2<=1000000000) (af:List V) (h:ae) (H:b6 Any h p.enc af):cv Tryz.prog 37 [.agg af] h fun x aa=>x=.bool (fj p)/\Ext h aa:=by
 have xq:=H;obtain ⟨ca,rfl,L,_⟩:=aM.open H;have ol:=L.one;refine Zc.z rfl (cr ?_);unfold On;obtain ⟨U,aj,av,b9⟩:=fE h (cd p ca);by_cases a:p.k<10
 . simp +contextual only [ol.1,ol.2.1,aj,b9.g,apD a,↓ag,al,simprocAttr];refine ⟨?_,av⟩;have:¬(10<=p.k):=by omega
   simp [fj,this]
 . by_cases b:p.k>16
   . simp +contextual only [ol.1,ol.2.1,aj,b9.g,apx a,apD b,↓ag,al,simprocAttr];refine ⟨?_,av⟩;have:¬(p.k<=16):=by omega
     simp [fj,this]
   . obtain ⟨ab,an,aK,eI⟩:=aiz (F:=Any) (size:=5) (h:=U) rfl rfl (xq.ext av) (am4 Any U) trivial;have cE:b6 Any ab (oN p).enc [.int .i64 52,.int .i64 0,.int .i64 0,.str [],.slice (aC U.next) 0 2 2]:=by
      unfold oN;rw [Cg];exact .i (.i (.i (.s (aqL _) (eI.cons .nil))))
     obtain ⟨aI,aJ,bF,vC⟩:=Fh (F:=Any) (size:=5) (h:=ab) rfl cE trivial;simp only [cd,ap3,aql] at an;simp +contextual only [ol.1,ol.2.1,aj,b9.g,an,aJ,apx a,apx b,↓ag,al,simprocAttr];refine bS (aaf [oN p] (by simp only [cj,oN,u_,aM.size];omega) _ aI vC) ?_;rintro x bq ⟨rfl,bZ⟩;have a7:=aaO p aW ⟨by omega,by omega⟩;simp +contextual only [a7,↓ag,al,simprocAttr];refine ⟨?_,((av.trans aK).trans bF).trans bZ⟩;cases fj p<;>rfl
abbrev C':=List UInt8 × Int
def uP (m:C'):V:=.agg [.str m.1,.int .i64 m.2]
theorem Qm (s:List UInt8):lJ s s=true:=by rw [Nq];simp
theorem Ql (x:Int):Int.gM x x=true:=by rw [DZ];simp
theorem ai1 (a b:List UInt8) (x y:Int):(structEq Tryz.prog 152).run (.agg [.str a,.int .i64 x]) (.agg [.str b,.int .i64 y])=
 (match (match jN.run (.str a) (.str b) with
   | none=>none
   | some bR=>bif bR then (match j'.run (.int .i64 x) (.int .i64 y) with
     | none=>none
     | some b7=>bif b7 then some true else some false) else some false) with
 | some q=>bif q then (bif pP [.str a,.int .i64 x] [.str b,.int .i64 y] then some true else none) else some false
 | none=>none):=by kernel_rfl
theorem TB:tS (structEq Tryz.prog 152) uP:=fun ⟨a,x⟩ ⟨b,y⟩=>by
 simp only [uP,ai1,Gg,Ge];by_cases c:a=b
 . subst c;by_cases d:x=y
   . subst d;simp [pP,sC,Qm,Ql,oR]
   . simp [d]
 . simp [c]
theorem ai2 (m:C'):lp Tryz.prog 152 (uP m)=true:=by obtain ⟨a,x⟩:=m;kernel_rfl
theorem adm (cm cz cL fi fh h1:Int) (s1 s2:List UInt8):(structEq Tryz.prog 111).run (.agg [.int .i64 cm,.int .i64 cL,.str s1,.int .i64 fh]) (.agg [.int .i64 cz,.int .i64 fi,.str s2,.int .i64 h1])=
 (match (match j'.run (.int .i64 cm) (.int .i64 cz) with
   | none=>none
   | some bR=>bif bR then (match j'.run (.int .i64 cL) (.int .i64 fi) with
     | none=>none
     | some b7=>bif b7 then (match jN.run (.str s1) (.str s2) with
       | none=>none
       | some eL=>bif eL then (match j'.run (.int .i64 fh) (.int .i64 h1) with
         | none=>none
         | some ic=>bif ic then some true else some false) else some false) else some false) else some false) with
 | some q=>bif q then (bif pP [.int .i64 cm,.int .i64 cL,.str s1,.int .i64 fh] [.int .i64 cz,.int .i64 fi,.str s2,.int .i64 h1] then some true else none) else some false
 | none=>none):=by kernel_rfl
theorem I':tS (structEq Tryz.prog 111) kb:=fun ⟨cm,cL,s1,fh⟩ ⟨cz,fi,s2,h1⟩=>by
 simp only [kb,adm,Gg,Ge,aqw];by_cases c:cm=cz
 . subst c;by_cases d:cL=fi
   . subst d;by_cases e:s1=s2
     . subst e;by_cases f:fh=h1
       . subst f;simp [pP,sC,Qm,Ql,oR]
       . simp [f]
     . simp [e]
   . simp [d]
 . simp [c]
theorem Rp (m:dD):lp Tryz.prog 111 (kb m)=true:=by obtain ⟨a,x,b,y⟩:=m;kernel_rfl
theorem XX {P:Program} [Lay] {d:Option Nat} {k:TypeId} {z:V} {ok:Bool} {x i:aU} {rs:List Nat} {e:fQ} {H:ae}:pF P ⟨d,.looks k z ok x i,none,rs⟩ e H=((bif lp P k (i.aQ (e.r.trim rs)) then hq (structEq P k) z ok H (x.aQ (e.r.trim rs)) (i.aQ (e.r.trim rs)) else none)=some e.v):=Dr rfl
structure qK (F:aO->Prop) (cs:List bY) (h:ae) (dP:aO):Prop where
 ex:∃aR:List (List UInt8 × V),j7 (fun v=>v) h dP aR/\∀s,match eD s cs with
  | some c=>∃cU,kj s aR=some (.agg (mV c cU))/\bN F h 4 c.arg cU
  | none=>kj s aR=none
theorem qK.ext {F:aO->Prop} {cs:List bY} {h aa:ae} {dP:aO} (H:qK F cs h dP) (e:Ext h aa):qK F cs aa dP:=by
 obtain ⟨aR,aj,an⟩:=H.ex;refine ⟨aR,aj.ext e,fun s=>?_⟩;have:=an s;cases au:eD s cs<;>rw [au] at this<;>simp only at this ⊢
 . exact this
 . obtain ⟨cU,a,b⟩:=this;exact ⟨cU,a,b.ext e⟩
theorem qK.eQ {F dA:aO->Prop} {cs:List bY} {h:ae} {dP:aO} (H:qK F cs h dP) (w:∀b,F b->dA b):qK dA cs h dP:=by
 obtain ⟨aR,aj,an⟩:=H.ex;refine ⟨aR,aj,fun s=>?_⟩;have:=an s;cases au:eD s cs<;>rw [au] at this<;>simp only at this ⊢
 . exact this
 . obtain ⟨cU,a,b⟩:=this;exact ⟨cU,a,b.eQ w⟩
structure r9 (cs:List bY) (h:ae) (k:V):Prop where
 ex:∃hp dP mF,k=.ptr (aC hp) 0/\Has h hp [.map dP,mF]/\qK Any cs h dP/\bN Any h 5 (cs.map bY.enc) mF
theorem r9.ext {cs:List bY} {h aa:ae} {k:V} (H:r9 cs h k) (e:Ext h aa):r9 cs aa k:=by obtain ⟨hp,dP,mF,aj,an,aJ,bE⟩:=H.ex;exact ⟨hp,dP,mF,aj,an.ext e,aJ.ext e,bE.ext e⟩
theorem PC (s:List UInt8) (c:bY):∀l:List bY,eD s (l++[c])=(match eD s l with
 | some d=>some d
 | none=>if c.name=s then some c else none)
 | []=>by simp only [aql,eD]
 | d::l=>by
   simp only [ap3,eD,PC s c l];by_cases q:d.name=s
   . simp [q]
   . simp [q]
theorem PB {s:List UInt8}:∀l:List bY,(eD s l).isSome=l.any fun d=>decide (d.name=s)
 | []=>rfl
 | d::l=>by
   simp only [eD,List.any_cons];by_cases q:d.name=s
   . simp [q]
   . simp [q,PB l]
def tl (pre:List bY) (m:C'):Bool:=pre.any fun d=>decide (d.ty=m.1/\d.tag=m.2)
theorem alQ (pre:List bY) (c:bY) (m:C'):tl (pre++[c]) m=(tl pre m||decide (m=(c.ty,c.tag))):=by unfold tl;rw [List.any_append];congr 1;obtain ⟨a,b⟩:=m;simp only [List.any_cons,List.any_nil,Bool.or_false,aqw];exact decide_eq_decide.2 ⟨fun q=>⟨q.1.symm,q.2.symm⟩,fun q=>⟨q.1.symm,q.2.symm⟩⟩
structure Dd (pre:List bY) (h:ae) (b:aO):Prop where
 ex:∃aR,hT uP h b aR/\∀m,eu m aR=if tl pre m=true then some (.bool true) else none
theorem Dd.ext {pre:List bY} {h aa:ae} {b:aO} (H:Dd pre h b) (e:Ext h aa):Dd pre aa b:=by obtain ⟨aR,aj,an⟩:=H.ex;exact ⟨aR,aj.ext e,an⟩
theorem ajD (pre:List bY) (c:bY):rJ pre c=(!(eD c.name pre).isSome&&!tl pre (c.ty,c.tag)&&decide (c.arg.length<=1)&&dh 4 c.name):=by unfold rJ tl;rw [PB]
def sA (s:List UInt8):aM:=.mk 16 0 0 s []
theorem aas (s:List UInt8):fj (sA s)=dh 4 s:=by
 have h:=uO (named:=dh) (sA s).size (sA s) (aps _) (by simp [sA,aM.size,cj]);have aG:fG 16=2:=by decide
 unfold fj;rw [<-h];simp [sA,aM.j0,aM.k,aG,qB,hv,di,ko]
theorem aar [Lay] (F:aO->Prop) (h:ae) (s:List UInt8) (aW:s.length<=top):b6 F h (sA s).enc [.int .i64 16,.int .i64 0,.int .i64 0,.str s,.bu]:=by unfold sA;rw [Cg];exact .i (.i (.i (.s aW ((bN.nil _ _ _).cons .nil))))
abbrev ku:List V:=[.str [],.str [],.int .i64 0,.int .i64 0,.bu]
theorem aif (cs:List bY) (v:V) (h:ae) (L:bN Any h 5 (cs.map bY.enc) v):
 cv Tryz.prog 70 [v] h fun x aa=>∃k,x=.tuple [k,.bool (h2 [] cs)]/\Ext h aa/\(h2 [] cs=true->r9 cs aa k):=by
 have ar:=L.len;have hle:=L.le;have ol:=L.one;rw [apv] at ar hle;refine Zw.z rfl (cr ?_);unfold OZ;obtain ⟨U,aj,av,b9⟩:∃H,h.new (.mp [] 0)=H/\Ext h H/\j7 (fun v:V=>v) H (aC h.next) []:=⟨_,rfl,(Ext.refl h).new _,j7.new _ h⟩;have cL:U.next=h.next+1:=by rw [<-aj];rfl
 obtain ⟨ab,an,aK,jJ⟩:=fE U [.map (aC h.next),v];have fi:ab.next=U.next+1:=by rw [<-an];rfl
 obtain ⟨aI,aJ,bF,vC⟩:∃H,ab.new (.mp [] 0)=H/\Ext ab H/\hT uP H (aC ab.next) []:=⟨_,rfl,(Ext.refl ab).new _,hT.new _ ab⟩;have n3:aI.next=ab.next+1:=by rw [<-aJ];rfl
 simp +contextual only [ol.1,ol.2.1,ol.2.2,aj,an,aJ,ar,rG,s8,aU.opt,↓ag,al,simprocAttr];refine eO (fun r g=>r 4=.ptr (aC U.next) 0/\r 5=.map (aC ab.next)/\r 16=v/\r 17=.int .i64 cs.length/\Ext h g/\∃i:Nat,r 18=.int .i64 i/\i<=cs.length/\h2 [] cs=h2 (cs.take i) (cs.drop i)/\Has g U.next [.map (aC h.next),v]/\qK (Old h) (cs.take i) g (aC h.next)/\Dd (cs.take i) g (aC ab.next)) (fun r g=>cs.length - (r 18).toN) ?_ ?_
 . refine ⟨by simp only [↓ag,bz,simprocAttr],by simp only [↓ag,bz,simprocAttr],by simp only [↓ag,bz,simprocAttr],by simp only [↓ag,bz,simprocAttr],(av.trans aK).trans bF,0,by simp only [↓ag,bz,simprocAttr]<;>rfl,by omega,rfl,jJ.ext bF,⟨[],(b9.ext aK).ext bF,fun s=>rfl⟩,⟨[],vC,fun m=>rfl⟩⟩
 rintro r g ⟨eg,bL,r16,rP,c',i,rQ,ax,aA,B,M,S⟩;have Fs:=B.lt;have ao4:ab.next<g.next:=by obtain ⟨aR,q,_⟩:=S.ex;have:=q.bG;unfold Old at this;rwa [cV] at this
 unfold O0;by_cases aL:i<cs.length
 . have g0:((i:Int) < (cs.length:Int))=True:=apD (by omega);obtain ⟨b,off,cU,bW,X,mM,uJ,_,_,_,_⟩:=bY.lV L (k:=.i64) aL;have d5:=uJ g c';have jh:=mM.one;have rC:=mM.len;have db:=fW aL (by unfold top at hle;omega);have adp:cs.drop i=cs[i]::cs.drop (i+1):=apW aL;have n9:cs.take (i+1)=cs.take i++[cs[i]]:=aqh aL;have rv:cs[i].name.length<=top:=by obtain ⟨_,_,z,_⟩:=X.str;exact z
   rw [adp,h2] at aA;obtain ⟨g1,bE,bZ,xn⟩:=hA g ku (mV cs[i] cU);have n4:g1.next=g.next+1:=by rw [<-bE];rfl
   have xm:=B.ext bZ;have r':=M.ext bZ;have nN:=S.ext bZ;obtain ⟨aR,Fk,TA⟩:=r'.ex;have lZ:=fun ok=>Fk.look cs[i].name (.agg ku) ok;have Fl:=TA cs[i].name;obtain ⟨zt,al8,Vy⟩:=nN.ex;have bB:(g.next=U.next)=False:=apx (by omega);have eH:(U.next=g.next)=False:=apx (by omega);obtain ⟨l_,k',mc,nQ,fc,is,Jp,JA,uj⟩:∃(l_ k':List UInt8) (mc nQ:Int) (fc:V) (is:Bool),is=(eD cs[i].name (cs.take i)).isSome/\(∀c_,Ext g1 c_->g' jL.str.eq (.agg [.str [],.str [],.int .i64 0,.int .i64 0,.bu]) true c_ (.map (aC h.next)) (.str cs[i].name)=some (.tuple [.agg [.str l_,.str k',.int .i64 mc,.int .i64 nQ,fc],.bool is]))/\fc.one=true/\fc.cells=[fc]:=by
    cases au:eD cs[i].name (cs.take i) with
    | none=>
      rw [au] at Fl;refine ⟨[],[],0,0,.bu,false,rfl,fun c_ c6=>?_,rfl,rfl⟩;show g' jN _ _ _ _ _=_;rw [(Fk.ext c6).look cs[i].name (.agg ku) true,show kj cs[i].name aR=none from Fl];rfl
    | some c=>
      rw [au] at Fl;obtain ⟨xf,f1,f2⟩:=Fl;refine ⟨c.name,c.ty,c.tag,c.par,xf,true,rfl,fun c_ c6=>?_,f2.one.1,f2.one.2.1⟩;show g' jN _ _ _ _ _=_;rw [(Fk.ext c6).look cs[i].name (.agg ku) true,f1];rfl
   have EJ:=JA g1 (Ext.refl g1);obtain ⟨Ek,pk,dG,r4⟩:=fE g1 ku;have EL:=JA Ek dG;have CK:=xm.ext dG;have CM:=xn.ext dG;obtain ⟨g2,cO,df,CP⟩:=hA g1 ku [.str l_,.str k',.int .i64 mc,.int .i64 nQ,fc];rw [pk] at cO;have Fm:g2.next=g1.next+1:=by rw [<-cO,nq,<-pk];rfl
   have EK:=JA g2 df;obtain ⟨g3,en,hg,r5⟩:=hA g2 [.str [],.int .i64 0] [.str cs[i].ty,.int .i64 cs[i].tag];have n6:g3.next=g2.next+1:=by rw [<-en];rfl
   have zL:=xn.ext df;have zM:=zL.ext hg;have nE:=xm.ext df;have Wp:=nE.ext hg;have Vz:=(al8.ext df).ext hg;have yV:hq (structEq Tryz.prog 152) (.bool false) false g3 (.map (aC ab.next)) (.agg [.str cs[i].ty,.int .i64 cs[i].tag])=some (.bool (tl (cs.take i) (cs[i].ty,cs[i].tag))):=by have:=Vz.look TB (cs[i].ty,cs[i].tag) (.bool false) false;simp only [uP] at this;rw [this,Vy];cases tl (cs.take i) (cs[i].ty,cs[i].tag)<;>rfl
   have qD:=ai2 (cs[i].ty,cs[i].tag);simp only [uP] at qD;have nC:(g.next=g1.next)=False:=apx (by omega);have tx:(g1.next=g.next)=False:=apx (by omega);have GB:(g.next=g2.next)=False:=apx (by omega);have GC:(g2.next=g.next)=False:=apx (by omega);have bt:=ajD (cs.take i) cs[i];rw [<-Jp] at bt;have xW:=((c'.trans bZ).trans df).trans hg;cases is with
   | true=>
     have kG:h2 [] cs=false:=by rw [aA,bt];simp
     simp +contextual only [eg,bL,r16,rP,rQ,g0,bW,d5,jh.1,jh.2.1,uj.1,uj.2,bE,pk,cO,en,EJ,EK,EL,CK.g,CM.g,r4.g,tU,yV,qD,apt,apA,xm.g,nE.g,xn.g,zL.g,zM.g,CP.g,r5.g,bB,eH,nC,tx,GB,GC,↓r1,↓ag,al,simprocAttr];exact ⟨_,by rw [kG],xW,fun z=>by rw [kG] at z;cases z⟩
   | false=>
   cases qc:tl (cs.take i) (cs[i].ty,cs[i].tag) with
   | true=>
     have kG:h2 [] cs=false:=by rw [aA,bt,qc];simp
     rw [qc] at yV;simp +contextual only [eg,bL,r16,rP,rQ,g0,bW,d5,jh.1,jh.2.1,uj.1,uj.2,bE,pk,cO,en,EJ,EK,EL,CK.g,CM.g,r4.g,tU,yV,qD,apt,apA,xm.g,nE.g,xn.g,zL.g,zM.g,CP.g,r5.g,bB,eH,nC,tx,GB,GC,↓r1,↓ag,al,simprocAttr];exact ⟨_,by rw [kG],xW,fun z=>by rw [kG] at z;cases z⟩
   | false=>
   rw [qc] at yV;by_cases RF:(cs[i].arg.length:Int)>1
   . have kG:h2 [] cs=false:=by
      have:¬cs[i].arg.length<=1:=by omega
      rw [aA,bt,ap_ this];simp
     simp +contextual only [eg,bL,r16,rP,rQ,g0,bW,d5,jh.1,jh.2.1,rC,apD RF,uj.1,uj.2,bE,pk,cO,en,EJ,EK,EL,CK.g,CM.g,r4.g,tU,yV,qD,apt,apA,xm.g,nE.g,xn.g,zL.g,zM.g,CP.g,r5.g,bB,eH,nC,tx,GB,GC,↓r1,↓ag,al,simprocAttr];exact ⟨_,by rw [kG],xW,fun z=>by rw [kG] at z;cases z⟩
   simp +contextual only [eg,bL,r16,rP,rQ,g0,bW,d5,jh.1,jh.2.1,rC,apx RF,uj.1,uj.2,bE,pk,cO,en,EJ,EK,EL,CK.g,CM.g,r4.g,tU,yV,qD,apt,apA,xm.g,nE.g,xn.g,zL.g,zM.g,CP.g,r5.g,bB,eH,nC,tx,GB,GC,↓r1,↓ag,al,simprocAttr];refine bS (Lj (sA cs[i].name) (by simp [sA,aM.size,cj]) _ g3 (aar Any g3 _ rv)) ?_;rintro x g4 ⟨rfl,jv⟩;rw [aas];have xX:=xW.trans jv;cases iQ:dh 4 cs[i].name with
   | false=>
     have kG:h2 [] cs=false:=by rw [aA,bt,iQ];simp
     simp +contextual only [↓ag,al,simprocAttr];exact ⟨_,by rw [kG],xX,fun z=>by rw [kG] at z;cases z⟩
   | true=>
     have Wt:=zM.ext jv;have Wq:=Wp.ext jv;have CR:=r5.ext jv;have n7:=jv.next
     obtain ⟨g5,f1,f2,f3,f4⟩:=(Vz.ext jv).pt TB (cs[i].ty,cs[i].tag) (.bool true);simp only [uP] at f1;have Mx:=Wt.mod f3 (fun z=>by have:=h7 z;omega);have Mu:=Wq.mod f3 (fun z=>by have:=h7 z;omega);have ai0:=((((Fk.ext df).ext hg).ext jv).mod f3 (fun z=>by have:=h7 z;omega));obtain ⟨g6,cm,cz,fH,f_⟩:=ai0.pt cs[i].name (.agg (mV cs[i] cU));have anK:=Mx.mod fH (fun z=>by have:=h7 z;omega);have Wr:=Mu.mod fH (fun z=>by have:=h7 z;omega);have afF:j2 jL.str.eq g5 (.map (aC h.next)) (.str cs[i].name) (.agg (mV cs[i] cU))=some g6:=cm;simp +contextual only [eg,bL,r16,rP,rQ,qD,f1,afF,db,CR.g,Mx.g,Mu.g,bB,eH,apt,↓r1,↓ag,al,simprocAttr];have c8:∀{b:aO},Old h b->¬b=aC ab.next:=fun {b} ah z=>by subst z;unfold Old at ah;rw [cV] at ah;omega
     have cy:∀{b:aO},Old h b->¬b=aC h.next:=fun {b} ah z=>by subst z;unfold Old at ah;rw [cV] at ah;omega
     have wY:=n7;refine ⟨⟨(xX.iq f3 fun b z=>by rw [show b=aC ab.next from z,cV];omega).iq fH fun b z=>by rw [show b=aC h.next from z,cV];exact aps _,i+1,rfl,aL,?_,Wr,?_,?_⟩,by omega⟩
     . have:cs[i].arg.length<=1:=by omega
       rw [aA,bt,n9,qc,iQ,ap7 this];simp
     . rw [n9];refine ⟨_,cz,fun s=>?_⟩;rw [PC,KC];have m2:=TA s;have carry:∀{es:List (List D)} {w:V},bN (Old h) g1 4 es w->bN (Old h) g6 4 es w:=fun z=>((((z.ext df).ext hg).ext jv).mod f3 fun b ah _=>⟨c8 ah,ah⟩).mod fH fun b ah _=>⟨cy ah,ah⟩;cases au:eD s (cs.take i) with
       | some c=>
         rw [au] at m2;obtain ⟨xf,m3,m4⟩:=m2;have cT:s≠cs[i].name:=fun z=>by rw [z] at au;rw [au] at Jp;cases Jp
         rw [apu cT];exact ⟨xf,m3,carry m4⟩
       | none=>
         rw [au] at m2;by_cases aq:s=cs[i].name
         . subst aq;simp only [ap0];exact ⟨cU,rfl,carry ((mM.rK.ext c').ext bZ)⟩
         . rw [apu aq,apu (fun z=>aq z.symm)];exact m2
     . rw [n9];refine ⟨_,f2.mod fH (fun z=>by have:=h7 z;omega),fun m=>?_⟩;rw [Ti,Vy,alQ];by_cases hm:m=(cs[i].ty,cs[i].tag)
       . subst hm;simp
       . simp [hm]
 . have g0:((i:Int) < (cs.length:Int))=False:=apx (by omega);have adS:i=cs.length:=by omega
   subst adS;rw [aqf (aps _),h2] at aA;rw [are] at M;simp +contextual only [eg,rP,rQ,g0,aA,↓ag,al,simprocAttr];exact ⟨_,rfl,c',⟨U.next,_,v,rfl,B,M.eQ fun _ _=>trivial,L.ext c'⟩⟩
end
end Go.Proofs.YtgmhjhgoamjeeaaGreatDoor
