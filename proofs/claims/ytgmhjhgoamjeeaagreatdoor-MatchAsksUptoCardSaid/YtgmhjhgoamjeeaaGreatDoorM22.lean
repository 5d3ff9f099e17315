/- The chapter's functions, walked by the abstract machine: plain lemmas, no condition. Printed by a program from longer texts: names made short. -/
import Derived.Test.YtgmhjhgoamjeeaaGreatDoorM14
import Derived.Test.YtgmhjhgoamjeeaaGreatDoorM21
import Derived.Test.YtgmhjhgoamjeeaaGreatDoorM4
import Derived.Test.YtgmhjhgoamjeeaaGreatDoorM6
import Derived.Test.YtgmhjhgoamjeeaaGreatDoorM10
import Derived.Lay
import Derived.LaidLaws
import Derived.PinnedBridge
import Derived.Lib.LaidU8T
import Derived.Shelf.Vars
import Derived.MakeChecks
set_option linter.unusedSectionVars false
set_option linter.unusedSimpArgs false
set_option linter.unusedVariables false
set_option maxHeartbeats 64000000
noncomputable section
namespace Go.Proofs.YtgmhjhgoamjeeaaGreatDoor
section
open Go aZ
theorem H4:Tryz.prog.cellsOf 25=5:=by kernel_rfl
theorem ZY:Tryz.prog.cellsOf 23=1:=by kernel_rfl
theorem H5:Tryz.prog.cellsOf 9=1:=by kernel_rfl
theorem cells3:Tryz.prog.cellsOf 3=1:=by kernel_rfl
theorem Px:Tryz.prog.cellsOf 90=5:=by kernel_rfl
theorem Pw:Tryz.prog.cellsOf 88=1:=by kernel_rfl
theorem AD:Tryz.prog.cellsOf 94=4:=by kernel_rfl
theorem Uy:∀l:List aM,cj l=(l.map aM.size).sum
 | []=>rfl
 | t::l=>by rw [cj,aqt,arj,Uy l]
set_option maxRecDepth 10000 in
theorem T_:∀(n:Nat) {m:Nat} {h:ae} {af:List V},dF Tryz.prog h n m 25 af->m<=1048576->∃t:aM,b6 Any h t.enc af/\af.length=5/\t.size<=m
 | 0,m,h,af,H,_=>H.elim
 | n+1,m,h,af,H,hm=>by
   obtain ⟨gS,e,ar,ms,U,ab,aI⟩:=H.struct Tryz.underlying25;obtain rfl:n=gS:=by omega
   rw [H4] at ar
   match af,ar with
   | [v0,v1,v2,v3,v4],_=>
     have fv:ms.length=5:=U;clear U
     match ms,fv with
     | [m0,m1,m2,m3,m4],_=>
       have f0:=(aI 0 _ _ rfl rfl).2;have f1:=(aI 1 _ _ rfl rfl).2;have f2:=(aI 2 _ _ rfl rfl).2;have f3:=(aI 3 _ _ rfl rfl).2;have f4:=(aI 4 _ _ rfl rfl).2;simp only [cells3,H5,ZY] at f0 f1 f2 f3 f4;obtain ⟨i0,c4,_⟩:=f0.int Tryz.underlying3;obtain ⟨i1,av,_⟩:=f1.int Tryz.underlying3;obtain ⟨i2,aK,_⟩:=f2.int Tryz.underlying3;obtain ⟨jn,bF,eL⟩:=f3.str Tryz.underlying9;obtain ⟨fi,hR,SS,eg,bZ,nN⟩:=f4.slice Tryz.underlying23 (by rw [H4];decide);simp only [aqu,aqU,aqC,arJ,aq9,arG] at c4 av aK bF bZ;subst c4 av aK bF bZ;simp only [arj,List.sum_nil] at ab;rw [H4] at nN;obtain rfl:n=fi+1:=eg;obtain ⟨l,_,aW,L⟩:=aj7 aM.enc aM.size nN (by omega) fun k af aA q=>T_ fi q (by omega);refine ⟨.mk i0 i1 i2 jn l,?_,rfl,?_⟩
       . rw [Cg];exact .i (.i (.i (.s (by show jn.length<=top;unfold top;omega) (L.cons .nil))))
       . rw [aM.size,Uy];omega
set_option maxRecDepth 10000 in
theorem Ua:∀(n:Nat) {m:Nat} {h:ae} {af:List V},dF Tryz.prog h n m 94 af->m<=1048576->∃t:List D,b6 Any h (id t) af/\af.length=4
 | 0,m,h,af,H,_=>H.elim
 | n+1,m,h,af,H,hm=>by
   obtain ⟨gS,e,ar,ms,U,ab,aI⟩:=H.struct Tryz.underlying94;obtain rfl:n=gS:=by omega
   rw [AD] at ar
   match af,ar with
   | [v0,v1,v3,v4],_=>
     have fv:ms.length=4:=U;clear U
     match ms,fv with
     | [m0,m1,m3,m4],_=>
       have f0:=(aI 0 _ _ rfl rfl).2;have f1:=(aI 1 _ _ rfl rfl).2;have f3:=(aI 2 _ _ rfl rfl).2;have f4:=(aI 3 _ _ rfl rfl).2;simp only [cells3,H5,Pw] at f0 f1 f3 f4;obtain ⟨i0,c4,_⟩:=f0.int Tryz.underlying3;obtain ⟨i1,av,_⟩:=f1.int Tryz.underlying3;obtain ⟨jn,bF,eL⟩:=f3.str Tryz.underlying9;obtain ⟨fi,hR,SS,eg,bZ,nN⟩:=f4.slice Tryz.underlying88 (by rw [AD];decide);simp only [aqu,aqU,aqC,arJ,aq9,arG] at c4 av bF bZ;subst c4 av bF bZ;simp only [arj,List.sum_nil] at ab;rw [AD] at nN;obtain rfl:n=fi+1:=eg;obtain ⟨l,_,aW,L⟩:=K5 id nN (by omega) fun k af aA q=>Ua fi q (by omega);exact ⟨_,.i (.i (.s (by show jn.length<=top;unfold top;omega) (L.cons .nil))),rfl⟩
set_option maxRecDepth 10000 in
theorem aj5 (n:Nat) {m:Nat} {h:ae} {af:List V} (H:dF Tryz.prog h n m 90 af) (hm:m<=1048576):∃c:bY,b6 Any h c.enc af/\af.length=5:=by
 obtain ⟨gS,e,ar,ms,U,ab,aI⟩:=H.struct Tryz.underlying90;rw [Px] at ar
 match af,ar with
 | [v0,v1,v2,v3,v4],_=>
   have fv:ms.length=5:=U;clear U
   match ms,fv with
   | [m0,m1,m2,m3,m4],_=>
     have f0:=(aI 0 _ _ rfl rfl).2;have f1:=(aI 1 _ _ rfl rfl).2;have f2:=(aI 2 _ _ rfl rfl).2;have f3:=(aI 3 _ _ rfl rfl).2;have f4:=(aI 4 _ _ rfl rfl).2;simp only [cells3,H5,Pw] at f0 f1 f2 f3 f4;obtain ⟨Vi,c4,mT⟩:=f0.str Tryz.underlying9;obtain ⟨s1,av,bR⟩:=f1.str Tryz.underlying9;obtain ⟨i2,aK,_⟩:=f2.int Tryz.underlying3;obtain ⟨i3,bF,_⟩:=f3.int Tryz.underlying3;obtain ⟨fi,hR,SS,eg,bZ,nN⟩:=f4.slice Tryz.underlying88 (by rw [AD];decide);simp only [aqu,aqU,aqC,arJ,aq9,arG] at c4 av aK bF bZ;subst c4 av aK bF bZ;simp only [arj,List.sum_nil] at ab;rw [AD] at nN;obtain ⟨l,_,_,L⟩:=K5 id nN (by omega) fun k af aA q=>Ua fi q (by omega);rw [List.map_id] at L;exact ⟨⟨Vi,s1,i2,i3,l⟩,.s (by show Vi.length<=top;unfold top;omega) (.s (by show s1.length<=top;unfold top;omega) (.i (.i (L.cons .nil)))),rfl⟩
theorem aj6 {n m len:Nat} {h:ae} {v:V} (S:Ai h 5 v len m (fun k=>dF Tryz.prog h n k 90)) (hm:m<=1048576):∃l:List bY,l.length<=m/\bN Any h 5 (l.map bY.enc) v:=by obtain ⟨l,_,aW,L⟩:=K5 bY.enc S hm fun k af aA q=>aj5 n q (by omega);exact ⟨l,by omega,L⟩
end
section
open Go aZ Go.RowKit Go.Proofs Go.Lib
abbrev BN:List (String × DataW Unit):=Rows.coverTellsUptoRow.laid
theorem abo {n:String} {g:Nat} {t:TypeId} {ms:Array (String × TypeId)} {name:String} {d:DataW Unit} {W:World} (aG:Tryz.prog.globalNamed n=some g) (mw:(Tryz.prog.globals[g]?).map (·.type)=some t) (ax:Tryz.prog.underlying t=some (.interface ms))
 (h:VarReads Tryz.prog W n (.iface name d)):xo W g:=by
 obtain ⟨c_,oq,cs,fuel,p,U,ab,aI,bq⟩:=h;obtain rfl:=aqF (aG.symm.trans U);obtain rfl:=aqF (mw.symm.trans ab);obtain ⟨_,u,v,iB,_,_⟩:=iface_of_trod ax bq;refine ⟨.iface u v,?_,.inr ⟨u,v,rfl⟩⟩;have:=World.var?_cell aG aI 0;rw [this,<-aq1,iB];rfl
theorem amW:Go.Proofs.U8Types Tryz.prog Tryz.BO:=Go.Proofs.U8Types.of260 Tryz.ah7
theorem amV:U8Extra Tryz.prog Tryz.BO:=⟨by kernel_rfl,by kernel_rfl,by kernel_rfl,by kernel_rfl,by kernel_rfl,by kernel_rfl,by kernel_rfl⟩
theorem abP:(Rows.laid_unicode_utf8_first:DataW Unit)=firstData:=Pinned.utf8First_eq
theorem Xu:(Rows.laid_unicode_utf8_acceptRanges:DataW Unit)=acceptData:=by kernel_rfl
theorem ab0:Tryz.BO.g 3=0:=by kernel_rfl
theorem ab1:Tryz.BO.g 4=1:=by kernel_rfl
theorem aiw {l:List (String × DataW Unit)} {W:World} (hm:∀p ∈ BN,p ∈ l) (cX:laidMet Tryz.prog l W) (Bt:W.ShapedOpen Tryz.prog):Hc W:=by
 have r:∀(n:String) (d:DataW Unit),(n,d) ∈ BN->VarReads Tryz.prog W n d:=fun n d h=>laidMet.reads cX (hm _ h);have aB:=r "unicode/utf8.first" Rows.laid_unicode_utf8_first (by simp [BN,Rows.coverTellsUptoRow]);have bw:=r "unicode/utf8.acceptRanges" Rows.laid_unicode_utf8_acceptRanges (by simp [BN,Rows.coverTellsUptoRow]);have aD:=r "strconv.ErrRange" Rows.laid_strconv_ErrRange (by simp [BN,Rows.coverTellsUptoRow]);rw [abP] at aB;rw [Xu] at bw;refine ⟨?_,?_,?_⟩
 . have:=Go.Proofs.utf8Tabs_of_readsT amW amV aB bw;rwa [ab0,ab1] at this
 . exact Go.Proofs.cell_of_shapedOpen_int Bt (g:=2) (t:=3) (zero:=#[.int .i64 0]) (of_decide_eq_true (by kernel_rfl)) (by kernel_rfl) rfl (by kernel_rfl) (by kernel_rfl) Tryz.underlying3
 . exact abo (n:= "strconv.ErrRange") (t:=190) (by kernel_rfl) (by kernel_rfl) Tryz.underlying190 aD
end
end Go.Proofs.YtgmhjhgoamjeeaaGreatDoor
