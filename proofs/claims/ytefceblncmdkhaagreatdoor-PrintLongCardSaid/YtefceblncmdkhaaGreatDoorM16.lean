/- The chapter's functions, walked by the abstract machine: plain lemmas, no condition. Printed by a program from longer texts: names made short. -/
import Derived.Test.YtefceblncmdkhaaGreatDoorM14
import Derived.Test.YtefceblncmdkhaaGreatDoorM9
import Derived.Test.YtefceblncmdkhaaGreatDoorM15
import Derived.Test.YtefceblncmdkhaaGreatDoorM6
import Derived.Test.YtefceblncmdkhaaGreatDoorM8
import Derived.Test.YtefceblncmdkhaaGreatDoorM5
import Derived.Lay
import Derived.LaidLaws
import Derived.PinnedBridge
import Derived.Lib.LaidU8T
import Derived.Shelf.Vars
import Derived.MakeChecks
set_option linter.unusedSectionVars false
set_option linter.unusedSimpArgs false
set_option linter.unusedVariables false
set_option maxHeartbeats 64000000
noncomputable section
namespace Go.Proofs.YtefceblncmdkhaaGreatDoor
section
open Go bd
theorem aiz (x:Int) (n:Nat) (aX:1<=n) (aK:n<=1000000) (h:ah):b' Tryz.prog 14 [.int .i64 x,.int .i64 n] h fun y aa=>aa=h/\∃k:Nat,k<n/\y=.int .i64 k:=by
 refine Xd.z rfl (cp ?_);unfold ML;have f0:((n:Int)<1)=False:=am2 (by omega);have QQ:(en.int .rem).run Tryz.prog (.int .i64 x) (.int .i64 n)=some (.int .i64 (x.tmod n)):=JB .i64 _ _ (by omega);have b8:x.tmod n<n:=Int.tmod_lt_of_pos _ (by omega);have nd:-(n:Int)<x.tmod n:=by have:=Int.tmod_lt_of_pos (-x) (show (0:Int)<n by omega);rw [Int.neg_tmod] at this;omega
 have w:IntKind.i64.wrap (x.tmod n+n)=x.tmod n+n:=wrap_i64 (by omega) (by omega);by_cases aX:x.tmod n<0
 . simp only [f0,QQ,am_ aX,w,↓ab,ae,simprocAttr];exact ⟨(x.tmod n+n).toNat,by omega,by rw [ao1 (by omega)]⟩
 . simp only [f0,QQ,am2 aX,w,↓ab,ae,simprocAttr];exact ⟨(x.tmod n).toNat,by omega,by rw [ao1 (by omega)]⟩
def nc (n:Nat):List UInt8:=List.replicate n 97
def kn (n:Nat):aS:=.mk 52 0 0 [] [.mk 10 0 0 [] [],.mk 21 0 0 (nc n) []]
theorem GQ (n:Nat):(nc n).length=n:=am5
theorem RW {F:aU->Prop} {h:ah} (k:Int) (s:List UInt8) (aM:s.length<=top):cj F h (aS.mk k 0 0 s []).enc [.int .i64 k,.int .i64 0,.int .i64 0,.str s,.cc]:=by rw [Km];exact .i (.i (.i (.s aM ((cq.nil _ _ _).cons .nil))))
theorem OK (n:Nat) (aX:n<=1000) (h:ah):b' Tryz.prog 15 [.int .i64 ((n+14:Nat):Int)] h fun x aa=>∃v,x=.agg [.int .i64 52,.int .i64 0,.int .i64 0,.str [],v]/\cq (fun b=>h.next<cR b) aa 5 ((kn n).l.map aS.enc) v/\Ext h aa:=by
 refine Xg.z rfl (cp ?_);unfold MS;obtain ⟨J,ag,an,aG⟩:=gb h [.int .i64 0,.int .i64 0,.int .i64 0,.str [],.cc];have oW:=aG.lt;simp only [ag,↓ab,ae,simprocAttr];refine fS (fun r g=>r 0=.int .i64 ((n+14:Nat):Int)/\r 2=.ptr (aC h.next) 0/\∃(i:Nat) (v:V),r 3=v/\r 4=.int .i64 i/\i<=n/\c_ J.next g 1 v i (dQ (nc i))/\Ext J g) (fun r g=>n - (r 4).toN) ?_ ?_
 . exact ⟨by simp only [↓ab,cx,simprocAttr],by simp only [↓ab,cx,simprocAttr],0,.cc,by simp only [↓ab,cx,simprocAttr],by simp only [↓ab,cx,simprocAttr]<;>rfl,by omega,⟨rfl,rfl⟩,Ext.refl _⟩
 rintro r g ⟨bb,di,i,v,bX,dN,au,S,E⟩;unfold MW;have wn:IntKind.i64.wrap (((n+14:Nat):Int)-14)=(n:Int):=by rw [wrap_i64 (by omega) (by omega)];omega
 have Qh:=E.next
 by_cases aL:i<n
 . have g0:((i:Int) < (n:Int))=True:=am_ (by omega);have dt:=jG aL (by omega);obtain ⟨cI,aD,cf,cd,eU,kf,pH⟩:=xM (m:=1) (cs:=[.int .u8 97]) (by omega) S E.next (by unfold top;omega) rfl rfl
   have aj:dQ (nc i)++[.int .u8 97]=dQ (nc (i+1)):=by unfold nc;rw [List.replicate_succ',tA];rfl
   rw [aj] at cd;simp only [bb,di,bX,dN,g0,wn,dt,cf,↓ab,ae,simprocAttr];exact ⟨⟨i+1,rfl,aL,cd,E.lz eU fun q z=>S.base z⟩,by omega⟩
 . have g0:((i:Int) < (n:Int))=False:=am2 (by omega);obtain rfl:i=n:=by omega
   have A:=aG.ext E;have im:=xU S;obtain ⟨g2,av,aN,L⟩:=agL (F:=fun b=>h.next<cR b) (h:=g) (size:=5) (ds:=(aS.mk 10 0 0 [] []).enc) (lT:=(aS.mk 21 0 0 (nc i) []).enc) rfl rfl (RW 10 [] (by simp)) (RW 21 (nc i) (by rw [GQ];unfold top;omega)) (by show h.next<cR (aC g.next);rw [dX];omega);simp only [ang,anh] at av;have e4:=A.ext aN;simp only [bb,di,bX,dN,g0,wn,im,av,e4.g,↓ab,ae,simprocAttr];refine ⟨_,rfl,L.set (fun q=>by rw [dX] at q;omega) _,((an.trans E).trans aN).set (am6 _) _⟩
theorem Hs (n:Nat):(kn n).words=[kw [108,101,116],kw [95],kw [61],dD 2 (nc n)]:=by unfold kn;rw [tg];simp only [aS.k,aS.n,aS.s,aS.l,a6];rw [tg,tg];simp [oS,fQ,eb,hv,dp,aS.k,aS.n,aS.s,aS.l,a6,gf,cD]
theorem Hr (n:Nat):(kn n).size=3:=by unfold kn;simp [aS.size,gg]
theorem Zl (n:Nat) (aX:n<=1000):(kn n).may dB=true:=by rw [<-EZ (kn n).size (kn n) (am6 _) (by rw [Hr];omega)];unfold kn;have:=GQ n;simp [aS.jE,kW,cL,qK,h2,iB,fo,this,aS.k];omega
theorem Zk (n:Nat):(kn n).deep=2:=by unfold kn;simp [aS.deep,jU]
def kM (k:Nat):List aS:=List.replicate 654 (kn 86)++[kn (121+k)]
theorem OL {k:Nat} {p:aS->Bool} (h:∀n,n<=1000->p (kn n)=true) (ay:k<5):(kM k).all p=true:=by unfold kM;rw [an5,List.all_replicate];simp [h 86 (by omega),h (121+k) (by omega)]
theorem Zj (k:Nat) (ay:k<5):iG (kM k)=0:=by unfold iG;rw [anb (OL (fun n aX=>by rw [Zl n aX];rfl) ay),anb (OL (fun n aX=>by rw [Zk];rfl) ay)]
theorem Ti (p:aS):∀n (l:List aS),gg (List.replicate n p++l)=n * p.size+gg l
 | 0,l=>by simp
 | n+1,l=>by rw [aoR,ang,gg,Ti p n l,an0];omega
theorem ON (k:Nat):gg (kM k)=1965:=by unfold kM;rw [Ti,Hr,gg,Hr,gg]
def o7 (ws:List bq):Nat:=(ws.map fun w=>w.out.length+1).sum
theorem akz (a b:List bq):o7 (a++b)=o7 a+o7 b:=by unfold o7;rw [aor,List.sum_append]
theorem Us:∀ws:List bq,Lib.lens (ws.map bq.out)+ws.length=o7 ws
 | []=>rfl
 | w::ws=>by have:=Us ws;unfold Lib.lens o7 at *;simp only [anZ,List.sum_cons,am0];omega
theorem akA {ws:List bq} (h:ws≠[]):(Lib.join (ws.map bq.out) [32]).length+1=o7 ws:=by
 match ws,h with
 | w::ws,_=>
   rw [<-Us,anZ,Lib.join_length,anc];simp only [am0,am8];omega
theorem V5 (n:Nat):(nc n).flatMap hD=nc n:=by
 unfold nc
 induction n with
 | zero=>rfl
 | succ n bA=>rw [aoR,List.flatMap_cons,bA];rfl
theorem OQ (n:Nat):o7 ((kn n).words++[kw [59,59]])=n+14:=by
 rw [Hs];have J:(kw [108,101,116]).out=[108,101,116]:=rfl;have ad:(kw [95]).out=[95]:=rfl;have aD:(kw [61]).out=[61]:=rfl;have bn:(kw [59,59]).out=[59,59]:=rfl;have b0:(dD 2 (nc n)).out=34::(nc n++[34]):=by show 34::((nc n).flatMap hD++[34])=_;rw [V5]
 simp [o7,J,ad,aD,bn,b0,GQ];omega
theorem Ut (p:aS):∀n (l:List aS),o7 (ev (List.replicate n p++l))=n * o7 (p.words++[kw [59,59]])+o7 (ev l)
 | 0,l=>by simp
 | n+1,l=>by rw [aoR,ang,ev,show p.words++kw [59,59]::ev (List.replicate n p++l)=(p.words++[kw [59,59]])++ev (List.replicate n p++l) by simp,akz,Ut p n l,an0];omega
theorem R1 (p:aS):∀n (l:List aS),(ev (List.replicate n p++l)).length=n * (p.words.length+1) + (ev l).length
 | 0,l=>by simp
 | n+1,l=>by rw [aoR,ang,ev,amZ,am0,R1 p n l,an0];omega
theorem OM (k:Nat):(ev (kM k)).length=3275:=by unfold kM;rw [R1,ev,ev,Hs,Hs];rfl
theorem Zi (k:Nat):(Lib.join ((ev (kM k)).map bq.out) [32]).length=65534+k:=by
 have h:=akA (ws:=ev (kM k)) (fun z=>by have:=OM k;rw [z] at this;exact absurd this (by decide));have e:o7 (ev (kM k))=654 * 100 + (121+k+14):=by unfold kM;rw [Ut,OQ,ev,ev,OQ]
 omega
theorem Zm (k:Nat) (ay:k<5):(ox (kM k)).2=0↔k<=2:=by
 have ao:=Zj k ay;have ql:∀q ∈ kM k,cX q:=fun q aq=>(BP (by rw [ON];omega) ao q aq).1;unfold ox;rw [anb ao,Lb ql,anb rfl];simp only;rw [Zi];by_cases h:k<=2
 . rw [am7 (by omega)];exact ⟨fun _=>h,fun _=>rfl⟩
 . rw [anb (by omega)];exact ⟨fun q=>absurd q (by decide),fun q=>absurd q h⟩
theorem OO {B:Nat} {h J:ah} {l:List aS} {v v1:V} (n:Nat) (H:kl B Any h 5 (l.map aS.enc) v) (e:Ext h J) (S:cq (fun b=>h.next<cR b) J 5 ((kn n).l.map aS.enc) v1) (dr:B<=h.next) (ax:l.length<=1000):
 ∃cI aa,iY 5 v (.slice (aC J.next) 0 1 1) (J.new (.a_ [.int .i64 52,.int .i64 0,.int .i64 0,.str [],v1] 0 false))=.val cI aa/\kl B Any aa 5 ((l++[kn n]).map aS.enc) cI/\∀a1,Ext a1 h->a1.next<=B->Ext a1 aa:=by
 have E:cj (fun b=>Any b/\¬v.bj b) J (kn n).enc [.int .i64 52,.int .i64 0,.int .i64 0,.str [],v1]:=by unfold kn at S ⊢;rw [Km];exact .i (.i (.i (.s (by show 0<=top;unfold top;omega) ((S.nH fun b q=>⟨trivial,fun z=>by have:=H.ahQ z;unfold Old at this;omega⟩).cons .nil))))
 obtain ⟨cI,aa,a,b,c,d,f⟩:=(H.ext e).add E (by decide) (anM dr e.next) (by rw [anc];unfold top;omega) rfl;refine ⟨cI,aa,a,?_,fun a1 dJ aj=>(dJ.trans e).lz c fun q z=>anM aj (H.base z)⟩;rw [aor];exact b
theorem agT (a:Int) (h:ah):b' Tryz.prog 4 [.int .i64 a] h fun x aa=>x=.bool true:=by
 refine XG.z rfl (cp ?_);unfold gV;simp only [↓ab,ae,simprocAttr];refine bw (aiz a 5 (by omega) (by omega) h) ?_;rintro x a1 ⟨rfl,k,ay,rfl⟩;have b4:IntKind.i64.wrap ((k:Int)-2)=(k:Int)-2:=wrap_i64 (by omega) (by omega);have b1:IntKind.i64.wrap (65536 + ((k:Int)-2))=((65534+k:Nat):Int):=by rw [wrap_i64 (by omega) (by omega)];omega
 simp only [b4,b1,↓ab,ae,simprocAttr];refine fS (fun r g=>r 0=.int .i64 ((k:Int)-2)/\∃(j:Nat) (v:V),r 3=.int .i64 ((65534+k-100 * j:Nat):Int)/\r 4=v/\j<=654/\kl a1.next Any g 5 ((List.replicate j (kn 86)).map aS.enc) v/\Ext a1 g) (fun r g=>(r 3).toN) ?_ ?_
 . exact ⟨by simp only [↓ab,cx,simprocAttr],0,.cc,by simp only [↓ab,cx,simprocAttr]<;>rfl,by simp only [↓ab,cx,simprocAttr],by omega,kl.nil _ _ _ _,Ext.refl _⟩
 rintro r g ⟨bb,j,v,bX,dN,bJ,H,E⟩;unfold Nz;have ol:=H.one;by_cases aL:j<654
 . have g0:((200:Int)<=((65534+k-100 * j:Nat):Int))=True:=am_ (by omega);have dt:IntKind.i64.wrap (((65534+k-100 * j:Nat):Int)-100)=((65534+k-100 * (j+1):Nat):Int):=by rw [wrap_i64 (by omega) (by omega)];omega
   simp only [bb,bX,dN,g0,ol,↓ab,ae,simprocAttr];refine bw (show b' Tryz.prog 15 [.int .i64 100] g _ from OK 86 (by omega) g) ?_;rintro x g1 ⟨v1,rfl,S,an⟩;obtain ⟨cI,aa,cf,cd,eU⟩:=OO 86 H an S E.next (by rw [am5];omega)
   simp only [bb,bX,dN,dt,ol,cf,cd.one,↓ab,ae,simprocAttr];refine ⟨⟨j+1,cI,rfl,rfl,aL,?_,eU _ E (am6 _)⟩,by omega⟩;rw [List.replicate_succ'];exact cd
 . obtain rfl:j=654:=by omega
   have g0:((200:Int)<=((65534+k-100 * 654:Nat):Int))=False:=am2 (by omega);have dt:IntKind.i64.wrap (((65534+k-100 * 654:Nat):Int)+1)=((121+k+14:Nat):Int):=by rw [wrap_i64 (by omega) (by omega)];omega
   simp only [bb,bX,dN,g0,dt,ol,↓ab,ae,simprocAttr];refine bw (OK (121+k) (by omega) g) ?_;rintro x g1 ⟨v1,rfl,S,an⟩;obtain ⟨cI,aa,cf,cd,eU⟩:=OO (121+k) H an S E.next (by rw [am5];omega)
   simp only [bb,dN,ol,cf,cd.one,↓ab,ae,simprocAttr];have L:cq Any aa 5 ((kM k).map aS.enc) cI:=cd.ek (by rw [anc,amZ,am5];unfold top;exact anx rfl) (fun _ q=>q) (fun _ _=>trivial);have aM:gg (kM k)<=100000000:=by rw [ON];omega
   have hw:iG (kM k)=0->(ev (kM k)).length<=10000:=fun _=>by rw [OM];omega
   have ak:=Zm k ay;refine bw (aiD (kM k) aM hw cI aa L) ?_;rintro x ad ⟨rfl,aN⟩;simp only [bb,dN,cd.one,↓ab,ae,simprocAttr];refine bw (ajt (kM k) aM hw cI ad (L.ext aN)) ?_;rintro x aD ⟨rfl,cv⟩;by_cases ad:k<=2
   . have t1:=am_ (ak.2 ad);have t2:((k:Int)-2<=0)=True:=am_ (by omega);simp only [bb,t1,t2,aoQ,↓ab,ae,simprocAttr];refine bw (L2 _) ?_;rintro x g2 ⟨rfl,rfl⟩;simp only [↓ab,ae,simprocAttr]
   . have t1:=am2 (fun q=>ad (ak.1 q));have t2:((k:Int)-2<=0)=False:=am2 (by omega);simp only [bb,t1,t2,aoQ,aoK,↓ab,ae,simprocAttr];refine bw (L2 _) ?_;rintro x g2 ⟨rfl,rfl⟩;simp only [↓ab,ae,simprocAttr]
end
section
open Go bd Go.RowKit Go.Proofs Go.Lib
abbrev yY:List (String × DataW Unit):=Rows.printTellsUptoRow.laid
theorem ZS {n:String} {g:Nat} {t:TypeId} {ms:Array (String × TypeId)} {name:String} {d:DataW Unit} {W:World} (al:Tryz.prog.globalNamed n=some g) (Jd:(Tryz.prog.globals[g]?).map (·.type)=some t) (au:Tryz.prog.underlying t=some (.interface ms))
 (h:VarReads Tryz.prog W n (.iface name d)):xp W g:=by
 obtain ⟨tH,uW,cs,fuel,p,J,ad,aD,bn⟩:=h;obtain rfl:=an9 (al.symm.trans J);obtain rfl:=an9 (Jd.symm.trans ad);obtain ⟨_,u,v,gZ,_,_⟩:=iface_of_trod au bn;refine ⟨.iface u v,?_,.inr ⟨u,v,rfl⟩⟩;have:=World.var?_cell al aD 0;rw [this,<-Array.getElem?_toList,gZ];rfl
theorem akj {n:String} {g:Nat} {t e:TypeId} {m:Nat} {k:IntKind} {pU:List Int} {W:World} (al:Tryz.prog.globalNamed n=some g) (Jd:(Tryz.prog.globals[g]?).map (·.type)=some t) (aE:Tryz.prog.underlying t=some (.array m e)) (he:Tryz.prog.underlying e=some (.int k)) (abA:Tryz.prog.cellsOf e=1) (abD:Tryz.prog.cellsOf t=m)
 (h:VarReads Tryz.prog W n (tabData k pU)):TabIs Tryz.prog W n k pU:=by
 obtain ⟨tH,uW,cs,fuel,p,J,ad,aD,bn⟩:=h;obtain rfl:=an9 (al.symm.trans J);obtain rfl:=an9 (Jd.symm.trans ad);unfold TabIs;rw [aD,<-cells_of_tab aE he abA abD bn]
theorem akN:Go.Proofs.U8Types Tryz.prog Tryz.BN:=Go.Proofs.U8Types.of260 Tryz.agm
theorem akM:U8Extra Tryz.prog Tryz.BN:=⟨by kernel_rfl,by kernel_rfl,by kernel_rfl,by kernel_rfl,by kernel_rfl,by kernel_rfl,by kernel_rfl⟩
theorem aai:(Rows.laid_unicode_utf8_first:DataW Unit)=firstData:=Pinned.utf8First_eq
theorem VD:(Rows.laid_unicode_utf8_acceptRanges:DataW Unit)=acceptData:=by kernel_rfl
theorem aiA:(Rows.laid_internal_strconv_uint64pow10:DataW Unit)=tabData .u64 pow10Tab:=by kernel_rfl
theorem aaq:Tryz.BN.g 3=4:=by kernel_rfl
theorem aar:Tryz.BN.g 4=5:=by kernel_rfl
theorem agG {l:List (String × DataW Unit)} {W:World} (hm:∀p ∈ yY,p ∈ l) (cG:laidMet Tryz.prog l W) (Bm:W.ShapedOpen Tryz.prog):GG W:=by
 have r:∀(n:String) (d:DataW Unit),(n,d) ∈ yY->VarReads Tryz.prog W n d:=fun n d h=>laidMet.reads cG (hm _ h);have aA:=r "unicode/utf8.first" Rows.laid_unicode_utf8_first (by simp [yY,Rows.printTellsUptoRow]);have bF:=r "unicode/utf8.acceptRanges" Rows.laid_unicode_utf8_acceptRanges (by simp [yY,Rows.printTellsUptoRow]);have aJ:=r "strconv.ErrRange" Rows.laid_strconv_ErrRange (by simp [yY,Rows.printTellsUptoRow]);have ak:=r "internal/strconv.uint64pow10" Rows.laid_internal_strconv_uint64pow10 (by simp [yY,Rows.printTellsUptoRow]);rw [aiA] at ak;rw [aai] at aA;rw [VD] at bF;refine ⟨?_,?_,?_,?_⟩
 . have:=Go.Proofs.utf8Tabs_of_readsT akN akM aA bF;rwa [aaq,aar] at this
 . exact Go.Proofs.cell_of_shapedOpen_int Bm (g:=0) (t:=3) (zero:=#[.int .i64 0]) (of_decide_eq_true (by kernel_rfl)) (by kernel_rfl) rfl (by kernel_rfl) (by kernel_rfl) Tryz.underlying3
 . exact ZS (n:= "strconv.ErrRange") (t:=84) (by kernel_rfl) (by kernel_rfl) Tryz.underlying84 aJ
 . exact akj (g:=1) (t:=141) (e:=121) (m:=20) (by kernel_rfl) (by kernel_rfl) (by kernel_rfl) (by kernel_rfl) (by kernel_rfl) (by kernel_rfl) ak
end
end Go.Proofs.YtefceblncmdkhaaGreatDoor
