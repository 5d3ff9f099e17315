/- The chapter's functions, walked by the abstract machine: plain lemmas, no condition. Printed by a program from longer texts: names made short. -/
import Derived.Test.YtgmhjhgoamjeeaaGreatDoorM14
import Derived.Test.YtgmhjhgoamjeeaaGreatDoorM15
set_option linter.unusedSectionVars false
set_option linter.unusedSimpArgs false
set_option linter.unusedVariables false
set_option maxHeartbeats 64000000
noncomputable section
namespace Go.Proofs.YtgmhjhgoamjeeaaGreatDoor
section
open Go a7
abbrev dS (p:aE) (cB:V):List V:=[.int .i64 p.k,.int .i64 p.n,.int .i64 p.a,.str p.s,cB]
abbrev sQ (c:b2) (en:V):List V:=[.str c.name,.str c.ty,.int .i64 c.tag,.int .i64 c.par,en]
section
variable [Lay] {F:aQ->Prop} {h:ag}
theorem b2.open {c:b2} {ah:List V} (H:cb F h c.enc ah):∃en,ah=sQ c en/\bB F h 4 c.arg en:=by obtain ⟨_,rfl,_,H1⟩:=H.str;obtain ⟨_,rfl,_,cf⟩:=H1.str;obtain ⟨_,rfl,jA⟩:=cf.int;obtain ⟨_,rfl,p3⟩:=jA.int;obtain ⟨en,_,rfl,L,vB⟩:=p3.ea;rw [vB.no];exact ⟨en,rfl,L⟩
theorem b2.la {l:List b2} {v:V} (H:bB F h 5 (l.map b2.enc) v) {k:IntKind} {i:Nat} (aB:i<l.length):
 ∃b off en,hG 5 v (.int k i)=some (.ptr b (off+i * 5))/\cb F h l[i].enc (sQ l[i] en)/\bB F h 4 l[i].arg en/\
  (∀ab,Ext h ab->nj 5 (ab.get b) (off+i * 5)=some (.agg (sQ l[i] en)))/\
  (∀ab,Ext h ab->gX (ab.get b) (off+i * 5)=some (.str l[i].name))/\(∀ab,Ext h ab->gX (ab.get b) (off+i * 5+1)=some (.str l[i].ty))/\(∀ab,Ext h ab->gX (ab.get b) (off+i * 5+2)=some (.int .i64 l[i].tag))/\(∀ab,Ext h ab->gX (ab.get b) (off+i * 5+4)=some en):=by
 obtain ⟨b,off,u,ax,aH,bA,b5,cW⟩:=H.at (k:=k) (i:=i) (by rw [ap6];exact aB);rw [arV] at aH;obtain ⟨en,rfl,L⟩:=b2.open aH;exact ⟨b,off,en,ax,aH,L,b5,fun ab e=>by simpa using cW ab e 0 (by omega),fun ab e=>by simpa using cW ab e 1 (by omega),fun ab e=>by simpa using cW ab e 2 (by omega),fun ab e=>by simpa using cW ab e 4 (by omega)⟩
end
theorem aa9 {s:List UInt8} {l:List b2} {i:Nat} (aB:i<l.length):gf s (l.drop i)=if l[i].name=s then some l[i] else gf s (l.drop (i+1)):=by rw [aqz aB,gf]
theorem Dc (p:aE) (ah:List V) (h:ag) (H:cb Any h p.enc ah):cr Tryz.prog 72 [.agg ah] h fun x ab=>x=.bool (e' p)/\Ext h ab:=by
 obtain ⟨cB,rfl,L,_⟩:=aE.open H;have ol:=L.one;refine Z'.z rfl (cm ?_);unfold PG e';obtain ⟨aa,al,ax,dG⟩:=gb h (dS p cB);by_cases a:p.k=10
 . simp +contextual only [ol.1,ol.2.1,al,dG.g,aqh a,↓af,an,simprocAttr];exact ax
 . simp +contextual only [ol.1,ol.2.1,al,dG.g,ap_ a,↓af,an,simprocAttr];exact ax
theorem Aa (p:aE) (ah:List V) (h:ag) (H:cb Any h p.enc ah):cr Tryz.prog 79 [.agg ah] h fun x ab=>x=.bool (e' p)/\Ext h ab:=by
 obtain ⟨cB,rfl,L,_⟩:=aE.open H;have ol:=L.one;refine aaf.z rfl (cm ?_);unfold PT e';obtain ⟨aa,al,ax,dG⟩:=gb h (dS p cB);by_cases a:p.k=10
 . simp +contextual only [ol.1,ol.2.1,al,dG.g,aqh a,↓af,an,simprocAttr];exact ax
 . simp +contextual only [ol.1,ol.2.1,al,dG.g,ap_ a,↓af,an,simprocAttr];exact ax
def ef (h:cF):V:=.agg [.int .i64 h.1,.int .i64 h.2.1,.str h.2.2.1,.int .i64 h.2.2.2]
theorem yQ (p:aE) (ah:List V) (h:ag) (H:cb Any h p.enc ah):cr Tryz.prog 73 [.agg ah] h fun x ab=>x=ef (ch p)/\Ext h ab:=by obtain ⟨cB,rfl,L,_⟩:=aE.open H;have ol:=L.one;have aw:=L.len;rw [List.length_map] at aw;refine Z_.z rfl (cm ?_);unfold PH;obtain ⟨aa,al,ax,dG⟩:=gb h (dS p cB);obtain ⟨ae,au,aH,fN⟩:=gb aa [.int .i64 0,.int .i64 0,.str [],.int .i64 0];obtain ⟨aM,aJ,bA,iO⟩:=gE aa [.int .i64 0,.int .i64 0,.str [],.int .i64 0] [.int .i64 p.k,.int .i64 p.n,.str p.s,.int .i64 p.l.length];have A:=dG.ext aH;rw [au] at aJ;simp +contextual only [ol.1,ol.2.1,aw,al,au,aJ,dG.g,fN.g,A.g,iO.g,↓af,an,simprocAttr];exact ⟨rfl,ax.trans bA⟩
theorem C3 (p:aE) (ah:List V) (h:ag) (H:cb Any h p.enc ah):cr Tryz.prog 80 [.agg ah] h fun x ab=>x=ef (ch p)/\Ext h ab:=by obtain ⟨cB,rfl,L,_⟩:=aE.open H;have ol:=L.one;have aw:=L.len;rw [List.length_map] at aw;refine aag.z rfl (cm ?_);unfold PU;obtain ⟨aa,al,ax,dG⟩:=gb h (dS p cB);obtain ⟨ae,au,aH,fN⟩:=gb aa [.int .i64 0,.int .i64 0,.str [],.int .i64 0];obtain ⟨aM,aJ,bA,iO⟩:=gE aa [.int .i64 0,.int .i64 0,.str [],.int .i64 0] [.int .i64 p.k,.int .i64 p.n,.str p.s,.int .i64 p.l.length];have A:=dG.ext aH;rw [au] at aJ;simp +contextual only [ol.1,ol.2.1,aw,al,au,aJ,dG.g,fN.g,A.g,iO.g,↓af,an,simprocAttr];exact ⟨rfl,ax.trans bA⟩
def vt:aE:=.mk 22 0 0 [] []
def pj (p:aE):aE:=.mk 52 0 0 [] [p,vt]
theorem abA (p:aE) (aO:p.size+2<=1000000000) (h:10<=p.k/\p.k<=16):(wa [pj p]=2)=(fB p=false):=by
 have bl:(pj p).size=p.size+2:=by simp only [pj,vt,aE.size,b0];omega
 have aa:=tn (named:=dm) (pj p).size (pj p) (ap7 _) (by omega);have ae:=tn (named:=dm) p.size p (ap7 _) (by omega);have key:(pj p).may dm=p.may dm:=by
  rw [<-aa,<-ae];have aA:pU p.k 2=true:=by unfold pU;rw [aqa (by decide),ame _ h];rfl
  have hu:vt.j7 dm=true:=by simp [vt,aE.j7,fE,oZ,hq,de,km]
  have zi:pU vt.k 3=true:=by decide
  have aL:fE 52=7:=by decide
  simp [pj,aE.j7,aL,oZ,hq,de,km,aA,hu,zi]
 unfold wa fB;have aL:fE (pj p).k=7:=by show fE 52=7;decide
 simp only [arz,List.all_nil,aL,key,h.1,h.2,arP,aqY,aq1];cases p.may dm
 . simp
 . simp only [aqB,Bool.true_eq_false,eq_iff_iff,iff_false]
   split<;>decide
theorem anI [Lay] (F:aQ->Prop) (h:ag):cb F h vt.enc [.int .i64 22,.int .i64 0,.int .i64 0,.str [],.bL]:=by unfold vt;rw [xn];exact .i (.i (.i (.s (arj _) ((bB.nil _ _ _).cons .nil))))
theorem Ve (p:aE) (aO:p.size+2<=1000000000) (ah:List V) (h:ag) (H:cb Any h p.enc ah):cr Tryz.prog 37 [.agg ah] h fun x ab=>x=.bool (fB p)/\Ext h ab:=by
 have xV:=H;obtain ⟨cB,rfl,L,_⟩:=aE.open H;have ol:=L.one;refine ZT.z rfl (cm ?_);unfold OZ;obtain ⟨aa,al,ax,dG⟩:=gb h (dS p cB);by_cases a:p.k<10
 . simp +contextual only [ol.1,ol.2.1,al,dG.g,aqh a,↓af,an,simprocAttr];refine ⟨?_,ax⟩;have:¬(10<=p.k):=by omega
   simp [fB,this]
 . by_cases b:p.k>16
   . simp +contextual only [ol.1,ol.2.1,al,dG.g,ap_ a,aqh b,↓af,an,simprocAttr];refine ⟨?_,ax⟩;have:¬(p.k<=16):=by omega
     simp [fB,this]
   . obtain ⟨ae,au,aH,lD⟩:=K0 (F:=Any) (size:=5) (h:=aa) rfl rfl (xV.ext ax) (anI Any aa) trivial;have cf:cb Any ae (pj p).enc [.int .i64 52,.int .i64 0,.int .i64 0,.str [],.slice (aG aa.next) 0 2 2]:=by
      unfold pj;rw [xn];exact .i (.i (.i (.s (arj _) (lD.cons .nil))))
     obtain ⟨aM,aJ,bA,sC⟩:=ti (F:=Any) (size:=5) (h:=ae) rfl cf trivial;simp only [dS,aqM,aq8] at au;simp +contextual only [ol.1,ol.2.1,al,dG.g,au,aJ,ap_ a,ap_ b,↓af,an,simprocAttr];refine bF (aa0 [pj p] (by simp only [b0,pj,vt,aE.size];omega) _ aM sC) ?_;rintro x bw ⟨rfl,b5⟩;have a_:=abA p aO ⟨by omega,by omega⟩;simp +contextual only [a_,↓af,an,simprocAttr];refine ⟨?_,((ax.trans aH).trans bA).trans b5⟩;cases fB p<;>rfl
abbrev DL:=List UInt8 × Int
def u5 (m:DL):V:=.agg [.str m.1,.int .i64 m.2]
theorem Rf (s:List UInt8):mg s s=true:=by rw [N3];simp
theorem Re (x:Int):Int.hf x x=true:=by rw [Ez];simp
theorem ajF (a b:List UInt8) (x y:Int):(structEq Tryz.prog 152).run (.agg [.str a,.int .i64 x]) (.agg [.str b,.int .i64 y])=
 (match (match kb.run (.str a) (.str b) with
   | none=>none
   | some bM=>bif bM then (match iC.run (.int .i64 x) (.int .i64 y) with
     | none=>none
     | some b1=>bif b1 then some true else some false) else some false) with
 | some q=>bif q then (bif qh [.str a,.int .i64 x] [.str b,.int .i64 y] then some true else none) else some false
 | none=>none):=by kernel_rfl
theorem Um:ui (structEq Tryz.prog 152) u5:=fun ⟨a,x⟩ ⟨b,y⟩=>by
 simp only [u5,ajF,z8,z7];by_cases c:a=b
 . subst c;by_cases d:x=y
   . subst d;simp [qh,sT,Rf,Re,po]
   . simp [d]
 . simp [c]
theorem ajG (m:DL):lW Tryz.prog 152 (u5 m)=true:=by obtain ⟨a,x⟩:=m;kernel_rfl
theorem ad7 (cd cn cg dv eA gk:Int) (s1 s2:List UInt8):(structEq Tryz.prog 111).run (.agg [.int .i64 cd,.int .i64 cg,.str s1,.int .i64 eA]) (.agg [.int .i64 cn,.int .i64 dv,.str s2,.int .i64 gk])=
 (match (match iC.run (.int .i64 cd) (.int .i64 cn) with
   | none=>none
   | some bM=>bif bM then (match iC.run (.int .i64 cg) (.int .i64 dv) with
     | none=>none
     | some b1=>bif b1 then (match kb.run (.str s1) (.str s2) with
       | none=>none
       | some dR=>bif dR then (match iC.run (.int .i64 eA) (.int .i64 gk) with
         | none=>none
         | some gD=>bif gD then some true else some false) else some false) else some false) else some false) with
 | some q=>bif q then (bif qh [.int .i64 cd,.int .i64 cg,.str s1,.int .i64 eA] [.int .i64 cn,.int .i64 dv,.str s2,.int .i64 gk] then some true else none) else some false
 | none=>none):=by kernel_rfl
theorem BB:ui (structEq Tryz.prog 111) ef:=fun ⟨cd,cg,s1,eA⟩ ⟨cn,dv,s2,gk⟩=>by
 simp only [ef,ad7,z8,z7,aq9];by_cases c:cd=cn
 . subst c;by_cases d:cg=dv
   . subst d;by_cases e:s1=s2
     . subst e;by_cases f:eA=gk
       . subst f;simp [qh,sT,Rf,Re,po]
       . simp [f]
     . simp [e]
   . simp [d]
 . simp [c]
theorem E' (m:cF):lW Tryz.prog 111 (ef m)=true:=by obtain ⟨a,x,b,y⟩:=m;kernel_rfl
theorem YI {P:Program} [Lay] {d:Option Nat} {k:TypeId} {z:V} {ok:Bool} {x i:aX} {rs:List Nat} {e:f_} {H:ag}:p8 P ⟨d,.looks k z ok x i,none,rs⟩ e H=((bif lW P k (i.aT (e.r.trim rs)) then hI (structEq P k) z ok H (x.aT (e.r.trim rs)) (i.aT (e.r.trim rs)) else none)=some e.v):=D1 rfl
structure q8 (F:aQ->Prop) (cs:List b2) (h:ag) (gx:aQ):Prop where
 ex:∃aV:List (List UInt8 × V),mb (fun v=>v) h gx aV/\∀s,match gf s cs with
  | some c=>∃en,mA s aV=some (.agg (sQ c en))/\bB F h 4 c.arg en
  | none=>mA s aV=none
theorem q8.ext {F:aQ->Prop} {cs:List b2} {h ab:ag} {gx:aQ} (H:q8 F cs h gx) (e:Ext h ab):q8 F cs ab gx:=by
 obtain ⟨aV,al,au⟩:=H.ex;refine ⟨aV,al.ext e,fun s=>?_⟩;have:=au s;cases av:gf s cs<;>rw [av] at this<;>simp only at this ⊢
 . exact this
 . obtain ⟨en,a,b⟩:=this;exact ⟨en,a,b.ext e⟩
theorem q8.e3 {F eb:aQ->Prop} {cs:List b2} {h:ag} {gx:aQ} (H:q8 F cs h gx) (w:∀b,F b->eb b):q8 eb cs h gx:=by
 obtain ⟨aV,al,au⟩:=H.ex;refine ⟨aV,al,fun s=>?_⟩;have:=au s;cases av:gf s cs<;>rw [av] at this<;>simp only at this ⊢
 . exact this
 . obtain ⟨en,a,b⟩:=this;exact ⟨en,a,b.e3 w⟩
structure p4 (cs:List b2) (h:ag) (k:V):Prop where
 ex:∃hH gx l1,k=.ptr (aG hH) 0/\Has h hH [.map gx,l1]/\q8 Any cs h gx/\bB Any h 5 (cs.map b2.enc) l1
theorem p4.ext {cs:List b2} {h ab:ag} {k:V} (H:p4 cs h k) (e:Ext h ab):p4 cs ab k:=by obtain ⟨hH,gx,l1,al,au,aJ,bE⟩:=H.ex;exact ⟨hH,gx,l1,al,au.ext e,aJ.ext e,bE.ext e⟩
theorem Qv (s:List UInt8) (c:b2):∀l:List b2,gf s (l++[c])=(match gf s l with
 | some d=>some d
 | none=>if c.name=s then some c else none)
 | []=>by simp only [aq8,gf]
 | d::l=>by
   simp only [aqM,gf,Qv s c l];by_cases q:d.name=s
   . simp [q]
   . simp [q]
theorem Qu {s:List UInt8}:∀l:List b2,(gf s l).isSome=l.any fun d=>decide (d.name=s)
 | []=>rfl
 | d::l=>by
   simp only [gf,ar9];by_cases q:d.name=s
   . simp [q]
   . simp [q,Qu l]
def tF (pre:List b2) (m:DL):Bool:=pre.any fun d=>decide (d.ty=m.1/\d.tag=m.2)
theorem amx (pre:List b2) (c:b2) (m:DL):tF (pre++[c]) m=(tF pre m||decide (m=(c.ty,c.tag))):=by unfold tF;rw [List.any_append];congr 1;obtain ⟨a,b⟩:=m;simp only [ar9,List.any_nil,Bool.or_false,aq9];exact decide_eq_decide.2 ⟨fun q=>⟨q.1.symm,q.2.symm⟩,fun q=>⟨q.1.symm,q.2.symm⟩⟩
structure DR (pre:List b2) (h:ag) (b:aQ):Prop where
 ex:∃aV,hz u5 h b aV/\∀m,ev m aV=if tF pre m=true then some (.bool true) else none
theorem DR.ext {pre:List b2} {h ab:ag} {b:aQ} (H:DR pre h b) (e:Ext h ab):DR pre ab b:=by obtain ⟨aV,al,au⟩:=H.ex;exact ⟨aV,al.ext e,au⟩
theorem ake (pre:List b2) (c:b2):tt pre c=(!(gf c.name pre).isSome&&!tF pre (c.ty,c.tag)&&decide (c.arg.length<=1)&&dm 4 c.name):=by unfold tt tF;rw [Qu]
def sR (s:List UInt8):aE:=.mk 16 0 0 s []
theorem abb (s:List UInt8):fB (sR s)=dm 4 s:=by
 have h:=tn (named:=dm) (sR s).size (sR s) (ap7 _) (by simp [sR,aE.size,b0]);have aL:fE 16=2:=by decide
 unfold fB;rw [<-h];simp [sR,aE.j7,aE.k,aL,oZ,hq,de,km]
theorem aba [Lay] (F:aQ->Prop) (h:ag) (s:List UInt8) (aO:s.length<=top):cb F h (sR s).enc [.int .i64 16,.int .i64 0,.int .i64 0,.str s,.bL]:=by unfold sR;rw [xn];exact .i (.i (.i (.s aO ((bB.nil _ _ _).cons .nil))))
abbrev l':List V:=[.str [],.str [],.int .i64 0,.int .i64 0,.bL]
theorem aiX (cs:List b2) (v:V) (h:ag) (L:bB Any h 5 (cs.map b2.enc) v):
 cr Tryz.prog 70 [v] h fun x ab=>∃k,x=.tuple [k,.bool (jI [] cs)]/\Ext h ab/\(jI [] cs=true->p4 cs ab k):=by
 have aw:=L.len;have hle:=L.le;have ol:=L.one;rw [ap6] at aw hle;refine Z7.z rfl (cm ?_);unfold Px;obtain ⟨aa,al,ax,dG⟩:∃H,h.new (.mp [] 0)=H/\Ext h H/\mb (fun v:V=>v) H (aG h.next) []:=⟨_,rfl,(Ext.refl h).new _,mb.new _ h⟩;have cg:aa.next=h.next+1:=by rw [<-al];rfl
 obtain ⟨ae,au,aH,ha⟩:=gb aa [.map (aG h.next),v];have dv:ae.next=aa.next+1:=by rw [<-au];rfl
 obtain ⟨aM,aJ,bA,sC⟩:∃H,ae.new (.mp [] 0)=H/\Ext ae H/\hz u5 H (aG ae.next) []:=⟨_,rfl,(Ext.refl ae).new _,hz.new _ ae⟩;have n3:aM.next=ae.next+1:=by rw [<-aJ];rfl
 simp +contextual only [ol.1,ol.2.1,ol.2.2,al,au,aJ,aw,r5,tq,aX.opt,↓af,an,simprocAttr];refine ek (fun r g=>r 4=.ptr (aG aa.next) 0/\r 5=.map (aG ae.next)/\r 16=v/\r 17=.int .i64 cs.length/\Ext h g/\∃i:Nat,r 18=.int .i64 i/\i<=cs.length/\jI [] cs=jI (cs.take i) (cs.drop i)/\Has g aa.next [.map (aG h.next),v]/\q8 (Old h) (cs.take i) g (aG h.next)/\DR (cs.take i) g (aG ae.next)) (fun r g=>cs.length - (r 18).toN) ?_ ?_
 . refine ⟨by simp only [↓af,bq,simprocAttr],by simp only [↓af,bq,simprocAttr],by simp only [↓af,bq,simprocAttr],by simp only [↓af,bq,simprocAttr],(ax.trans aH).trans bA,0,by simp only [↓af,bq,simprocAttr]<;>rfl,by omega,rfl,ha.ext bA,⟨[],(dG.ext aH).ext bA,fun s=>rfl⟩,⟨[],sC,fun m=>rfl⟩⟩
 rintro r g ⟨d_,bS,r16,sa,bK,i,sb,aB,aA,B,M,S⟩;have n5:=B.lt;have apG:ae.next<g.next:=by obtain ⟨aV,q,_⟩:=S.ex;have:=q.bY;unfold Old at this;rwa [dx] at this
 unfold Py;by_cases aN:i<cs.length
 . have g0:((i:Int) < (cs.length:Int))=True:=aqh (by omega);obtain ⟨b,off,en,bQ,X,ny,zs,_,_,_,_⟩:=b2.la L (k:=.i64) aN;have d5:=zs g bK;have l4:=ny.one;have oM:=ny.len;have cv:=fk aN (by unfold top at hle;omega);have ad_:cs.drop i=cs[i]::cs.drop (i+1):=aqz aN;have hR:cs.take (i+1)=cs.take i++[cs[i]]:=aqn aN;have nS:cs[i].name.length<=top:=by obtain ⟨_,_,z,_⟩:=X.str;exact z
   rw [ad_,jI] at aA;obtain ⟨g1,bE,b5,so⟩:=gE g l' (sQ cs[i] en);have n4:g1.next=g.next+1:=by rw [<-bE];rfl
   have o5:=B.ext b5;have AS:=M.ext b5;have ks:=S.ext b5;obtain ⟨aV,F3,Ul⟩:=AS.ex;have jJ:=fun ok=>F3.look cs[i].name (.agg l') ok;have F4:=Ul cs[i].name;obtain ⟨Ad,amO,Wf⟩:=ks.ex;have bD:(g.next=aa.next)=False:=ap_ (by omega);have er:(aa.next=g.next)=False:=ap_ (by omega);obtain ⟨lG,ku,kx,lH,eT,is,JN,JX,uH⟩:∃(lG ku:List UInt8) (kx lH:Int) (eT:V) (is:Bool),is=(gf cs[i].name (cs.take i)).isSome/\(∀dI,Ext g1 dI->iq kS.str.eq (.agg [.str [],.str [],.int .i64 0,.int .i64 0,.bL]) true dI (.map (aG h.next)) (.str cs[i].name)=some (.tuple [.agg [.str lG,.str ku,.int .i64 kx,.int .i64 lH,eT],.bool is]))/\eT.one=true/\eT.cells=[eT]:=by
    cases av:gf cs[i].name (cs.take i) with
    | none=>
      rw [av] at F4;refine ⟨[],[],0,0,.bL,false,rfl,fun dI c7=>?_,rfl,rfl⟩;show iq kb _ _ _ _ _=_;rw [(F3.ext c7).look cs[i].name (.agg l') true,show mA cs[i].name aV=none from F4];rfl
    | some c=>
      rw [av] at F4;obtain ⟨xK,f1,f2⟩:=F4;refine ⟨c.name,c.ty,c.tag,c.par,xK,true,rfl,fun dI c7=>?_,f2.one.1,f2.one.2.1⟩;show iq kb _ _ _ _ _=_;rw [(F3.ext c7).look cs[i].name (.agg l') true,f1];rfl
   have Fl:=JX g1 (Ext.refl g1);obtain ⟨wy,ns,dC,ss⟩:=gb g1 l';have Fo:=JX wy dC;have Dj:=o5.ext dC;have Dl:=so.ext dC;obtain ⟨g2,c1,cW,Dp⟩:=gE g1 l' [.str lG,.str ku,.int .i64 kx,.int .i64 lH,eT];rw [ns] at c1;have F5:g2.next=g1.next+1:=by rw [<-c1,oT,<-ns];rfl
   have Fm:=JX g2 cW;obtain ⟨g3,eh,e7,su⟩:=gE g2 [.str [],.int .i64 0] [.str cs[i].ty,.int .i64 cs[i].tag];have n6:g3.next=g2.next+1:=by rw [<-eh];rfl
   have Au:=so.ext cW;have Av:=Au.ext e7;have gQ:=o5.ext cW;have nu:=gQ.ext e7;have Wg:=(amO.ext cW).ext e7;have zy:hI (structEq Tryz.prog 152) (.bool false) false g3 (.map (aG ae.next)) (.agg [.str cs[i].ty,.int .i64 cs[i].tag])=some (.bool (tF (cs.take i) (cs[i].ty,cs[i].tag))):=by have:=Wg.look Um (cs[i].ty,cs[i].tag) (.bool false) false;simp only [u5] at this;rw [this,Wf];cases tF (cs.take i) (cs[i].ty,cs[i].tag)<;>rfl
   have lq:=ajG (cs[i].ty,cs[i].tag);simp only [u5] at lq;have kQ:(g.next=g1.next)=False:=ap_ (by omega);have p0:(g1.next=g.next)=False:=ap_ (by omega);have Hb:(g.next=g2.next)=False:=ap_ (by omega);have Hc:(g2.next=g.next)=False:=ap_ (by omega);have bx:=ake (cs.take i) cs[i];rw [<-JN] at bx;have nH:=((bK.trans b5).trans cW).trans e7;cases is with
   | true=>
     have k0:jI [] cs=false:=by rw [aA,bx];simp
     simp +contextual only [d_,bS,r16,sa,sb,g0,bQ,d5,l4.1,l4.2.1,uH.1,uH.2,bE,ns,c1,eh,Fl,Fm,Fo,Dj.g,Dl.g,ss.g,uj,zy,lq,ap8,aqe,o5.g,gQ.g,so.g,Au.g,Av.g,Dp.g,su.g,bD,er,kQ,p0,Hb,Hc,↓o2,↓af,an,simprocAttr];exact ⟨_,by rw [k0],nH,fun z=>by rw [k0] at z;cases z⟩
   | false=>
   cases qE:tF (cs.take i) (cs[i].ty,cs[i].tag) with
   | true=>
     have k0:jI [] cs=false:=by rw [aA,bx,qE];simp
     rw [qE] at zy;simp +contextual only [d_,bS,r16,sa,sb,g0,bQ,d5,l4.1,l4.2.1,uH.1,uH.2,bE,ns,c1,eh,Fl,Fm,Fo,Dj.g,Dl.g,ss.g,uj,zy,lq,ap8,aqe,o5.g,gQ.g,so.g,Au.g,Av.g,Dp.g,su.g,bD,er,kQ,p0,Hb,Hc,↓o2,↓af,an,simprocAttr];exact ⟨_,by rw [k0],nH,fun z=>by rw [k0] at z;cases z⟩
   | false=>
   rw [qE] at zy;by_cases Sw:(cs[i].arg.length:Int)>1
   . have k0:jI [] cs=false:=by
      have:¬cs[i].arg.length<=1:=by omega
      rw [aA,bx,aqJ this];simp
     simp +contextual only [d_,bS,r16,sa,sb,g0,bQ,d5,l4.1,l4.2.1,oM,aqh Sw,uH.1,uH.2,bE,ns,c1,eh,Fl,Fm,Fo,Dj.g,Dl.g,ss.g,uj,zy,lq,ap8,aqe,o5.g,gQ.g,so.g,Au.g,Av.g,Dp.g,su.g,bD,er,kQ,p0,Hb,Hc,↓o2,↓af,an,simprocAttr];exact ⟨_,by rw [k0],nH,fun z=>by rw [k0] at z;cases z⟩
   simp +contextual only [d_,bS,r16,sa,sb,g0,bQ,d5,l4.1,l4.2.1,oM,ap_ Sw,uH.1,uH.2,bE,ns,c1,eh,Fl,Fm,Fo,Dj.g,Dl.g,ss.g,uj,zy,lq,ap8,aqe,o5.g,gQ.g,so.g,Au.g,Av.g,Dp.g,su.g,bD,er,kQ,p0,Hb,Hc,↓o2,↓af,an,simprocAttr];refine bF (Ve (sR cs[i].name) (by simp [sR,aE.size,b0]) _ g3 (aba Any g3 _ nS)) ?_;rintro x g4 ⟨rfl,hM⟩;rw [abb];have yq:=nH.trans hM;cases jl:dm 4 cs[i].name with
   | false=>
     have k0:jI [] cs=false:=by rw [aA,bx,jl];simp
     simp +contextual only [↓af,an,simprocAttr];exact ⟨_,by rw [k0],yq,fun z=>by rw [k0] at z;cases z⟩
   | true=>
     have Xf:=Av.ext hM;have sn:=nu.ext hM;have xS:=su.ext hM;have n7:=hM.next
     obtain ⟨g5,f1,f2,f3,f4⟩:=(Wg.ext hM).q5 Um (cs[i].ty,cs[i].tag) (.bool true);simp only [u5] at f1;have M3:=Xf.mod f3 (fun z=>by have:=gZ z;omega);have M1:=sn.mod f3 (fun z=>by have:=gZ z;omega);have ajE:=((((F3.ext cW).ext e7).ext hM).mod f3 (fun z=>by have:=gZ z;omega));obtain ⟨g6,cd,cn,fO,gw⟩:=ajE.q5 cs[i].name (.agg (sQ cs[i] en));have aok:=M3.mod fO (fun z=>by have:=gZ z;omega);have Xb:=M1.mod fO (fun z=>by have:=gZ z;omega);have ago:kO kS.str.eq g5 (.map (aG h.next)) (.str cs[i].name) (.agg (sQ cs[i] en))=some g6:=cd;simp +contextual only [d_,bS,r16,sa,sb,lq,f1,ago,cv,xS.g,M3.g,M1.g,bD,er,ap8,↓o2,↓af,an,simprocAttr];have di:∀{b:aQ},Old h b->¬b=aG ae.next:=fun {b} ak z=>by subst z;unfold Old at ak;rw [dx] at ak;omega
     have cY:∀{b:aQ},Old h b->¬b=aG h.next:=fun {b} ak z=>by subst z;unfold Old at ak;rw [dx] at ak;omega
     have xj:=n7;refine ⟨⟨(yq.fp f3 fun b z=>by rw [show b=aG ae.next from z,dx];omega).fp fO fun b z=>by rw [show b=aG h.next from z,dx];exact ap7 _,i+1,rfl,aN,?_,Xb,?_,?_⟩,by omega⟩
     . have:cs[i].arg.length<=1:=by omega
       rw [aA,bx,hR,qE,jl,aqH this];simp
     . rw [hR];refine ⟨_,cn,fun s=>?_⟩;rw [Qv,T5];have m2:=Ul s;have carry:∀{es:List (List D)} {w:V},bB (Old h) g1 4 es w->bB (Old h) g6 4 es w:=fun z=>((((z.ext cW).ext e7).ext hM).mod f3 fun b ak _=>⟨di ak,ak⟩).mod fO fun b ak _=>⟨cY ak,ak⟩;cases av:gf s (cs.take i) with
       | some c=>
         rw [av] at m2;obtain ⟨xK,m3,m4⟩:=m2;have cK:s≠cs[i].name:=fun z=>by rw [z] at av;rw [av] at JN;cases JN
         rw [aqa cK];exact ⟨xK,m3,carry m4⟩
       | none=>
         rw [av] at m2;by_cases ar:s=cs[i].name
         . subst ar;simp only [aqB];exact ⟨en,rfl,carry ((ny.kk.ext bK).ext b5)⟩
         . rw [aqa ar,aqa (fun z=>ar z.symm)];exact m2
     . rw [hR];refine ⟨_,f2.mod fO (fun z=>by have:=gZ z;omega),fun m=>?_⟩;rw [K1,Wf,amx];by_cases hm:m=(cs[i].ty,cs[i].tag)
       . subst hm;simp
       . simp [hm]
 . have g0:((i:Int) < (cs.length:Int))=False:=ap_ (by omega);have JM:i=cs.length:=by omega
   subst JM;rw [aqR (ap7 _),jI] at aA;rw [ar3] at M;simp +contextual only [d_,sa,sb,g0,aA,↓af,an,simprocAttr];exact ⟨_,rfl,bK,⟨aa.next,_,v,rfl,B,M.e3 fun _ _=>trivial,L.ext bK⟩⟩
end
end Go.Proofs.YtgmhjhgoamjeeaaGreatDoor
