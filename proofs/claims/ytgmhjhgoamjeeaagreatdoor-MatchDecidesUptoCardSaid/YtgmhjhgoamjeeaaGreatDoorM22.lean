/- The chapter's functions, walked by the abstract machine: plain lemmas, no condition. Printed by a program from longer texts: names made short. -/
import Derived.Test.YtgmhjhgoamjeeaaGreatDoorM14
import Derived.Test.YtgmhjhgoamjeeaaGreatDoorM21
import Derived.Test.YtgmhjhgoamjeeaaGreatDoorM4
import Derived.Test.YtgmhjhgoamjeeaaGreatDoorM20
import Derived.Test.YtgmhjhgoamjeeaaGreatDoorM6
import Derived.Test.YtgmhjhgoamjeeaaGreatDoorM10
import Derived.Lay
import Derived.LaidLaws
import Derived.PinnedBridge
import Derived.Lib.LaidU8T
import Derived.Shelf.Vars
import Derived.MakeChecks
set_option linter.unusedSectionVars false
set_option linter.unusedSimpArgs false
set_option linter.unusedVariables false
set_option maxHeartbeats 64000000
noncomputable section
namespace Go.Proofs.YtgmhjhgoamjeeaaGreatDoor
section
open Go aX
theorem Ei:Tryz.prog.cellsOf 25=5:=by kernel_rfl
theorem abe:Tryz.prog.cellsOf 23=1:=by kernel_rfl
theorem IS:Tryz.prog.cellsOf 9=1:=by kernel_rfl
theorem cells3:Tryz.prog.cellsOf 3=1:=by kernel_rfl
theorem Qr:Tryz.prog.cellsOf 90=5:=by kernel_rfl
theorem Qq:Tryz.prog.cellsOf 88=1:=by kernel_rfl
theorem A9:Tryz.prog.cellsOf 94=4:=by kernel_rfl
theorem Mg:∀l:List aL,b8 l=(l.map aL.size).sum
 | []=>rfl
 | t::l=>by rw [b8,ast,atb,Mg l]
set_option maxRecDepth 10000 in
theorem Vg:∀(n:Nat) {m:Nat} {h:ae} {af:List V},dE Tryz.prog h n m 25 af->m<=1048576->∃t:aL,bM Any h t.enc af/\af.length=5/\t.size<=m
 | 0,m,h,af,H,_=>H.elim
 | n+1,m,h,af,H,hm=>by
   obtain ⟨gu,e,ax,ms,aa,ad,aH⟩:=H.struct Tryz.underlying25;obtain rfl:n=gu:=by omega
   rw [Ei] at ax
   match af,ax with
   | [v0,v1,v2,v3,v4],_=>
     have hX:ms.length=5:=aa;clear aa
     match ms,hX with
     | [m0,m1,m2,m3,m4],_=>
       have f0:=(aH 0 _ _ rfl rfl).2;have f1:=(aH 1 _ _ rfl rfl).2;have f2:=(aH 2 _ _ rfl rfl).2;have f3:=(aH 3 _ _ rfl rfl).2;have f4:=(aH 4 _ _ rfl rfl).2;simp only [cells3,IS,abe] at f0 f1 f2 f3 f4;obtain ⟨i0,c9,_⟩:=f0.int Tryz.underlying3;obtain ⟨i1,aJ,_⟩:=f1.int Tryz.underlying3;obtain ⟨i2,aR,_⟩:=f2.int Tryz.underlying3;obtain ⟨iO,bP,eI⟩:=f3.str Tryz.underlying9;obtain ⟨fZ,iA,T0,cC,b4,oe⟩:=f4.slice Tryz.underlying23 (by rw [Ei];decide);simp only [asf,as0,asA,atF,asY,atC] at c9 aJ aR bP b4;subst c9 aJ aR bP b4;simp only [atb,List.sum_nil] at ad;rw [Ei] at oe;obtain rfl:n=fZ+1:=cC;obtain ⟨l,_,aU,L⟩:=Vf aL.enc aL.size oe (by omega) fun k af aB q=>Vg fZ q (by omega);refine ⟨.mk i0 i1 i2 iO l,?_,rfl,?_⟩
       . rw [zA];exact .i (.i (.i (.s (by show iO.length<=top;unfold top;omega) (L.cons .nil))))
       . rw [aL.size,Mg];omega
theorem alV {n m len:Nat} {h:ae} {v:V} (S:x5 h 5 v len m (fun k=>dE Tryz.prog h n k 25)) (hm:m<=1048576):∃l:List aL,b8 l<=m/\bY Any h 5 (l.map aL.enc) v:=by obtain ⟨l,_,aU,L⟩:=Vf aL.enc aL.size S hm fun k af aB q=>Vg n q (by omega);exact ⟨l,by rw [Mg];omega,L⟩
set_option maxRecDepth 10000 in
theorem Vi:∀(n:Nat) {m:Nat} {h:ae} {af:List V},dE Tryz.prog h n m 94 af->m<=1048576->∃t:List D,bM Any h (id t) af/\af.length=4
 | 0,m,h,af,H,_=>H.elim
 | n+1,m,h,af,H,hm=>by
   obtain ⟨gu,e,ax,ms,aa,ad,aH⟩:=H.struct Tryz.underlying94;obtain rfl:n=gu:=by omega
   rw [A9] at ax
   match af,ax with
   | [v0,v1,v3,v4],_=>
     have hX:ms.length=4:=aa;clear aa
     match ms,hX with
     | [m0,m1,m3,m4],_=>
       have f0:=(aH 0 _ _ rfl rfl).2;have f1:=(aH 1 _ _ rfl rfl).2;have f3:=(aH 2 _ _ rfl rfl).2;have f4:=(aH 3 _ _ rfl rfl).2;simp only [cells3,IS,Qq] at f0 f1 f3 f4;obtain ⟨i0,c9,_⟩:=f0.int Tryz.underlying3;obtain ⟨i1,aJ,_⟩:=f1.int Tryz.underlying3;obtain ⟨iO,bP,eI⟩:=f3.str Tryz.underlying9;obtain ⟨fZ,iA,T0,cC,b4,oe⟩:=f4.slice Tryz.underlying88 (by rw [A9];decide);simp only [asf,as0,asA,atF,asY,atC] at c9 aJ bP b4;subst c9 aJ bP b4;simp only [atb,List.sum_nil] at ad;rw [A9] at oe;obtain rfl:n=fZ+1:=cC;obtain ⟨l,_,aU,L⟩:=Gs id oe (by omega) fun k af aB q=>Vi fZ q (by omega);exact ⟨_,.i (.i (.s (by show iO.length<=top;unfold top;omega) (L.cons .nil))),rfl⟩
set_option maxRecDepth 10000 in
theorem alT (n:Nat) {m:Nat} {h:ae} {af:List V} (H:dE Tryz.prog h n m 90 af) (hm:m<=1048576):∃c:bz,bM Any h c.enc af/\af.length=5:=by
 obtain ⟨gu,e,ax,ms,aa,ad,aH⟩:=H.struct Tryz.underlying90;rw [Qr] at ax
 match af,ax with
 | [v0,v1,v2,v3,v4],_=>
   have hX:ms.length=5:=aa;clear aa
   match ms,hX with
   | [m0,m1,m2,m3,m4],_=>
     have f0:=(aH 0 _ _ rfl rfl).2;have f1:=(aH 1 _ _ rfl rfl).2;have f2:=(aH 2 _ _ rfl rfl).2;have f3:=(aH 3 _ _ rfl rfl).2;have f4:=(aH 4 _ _ rfl rfl).2;simp only [cells3,IS,Qq] at f0 f1 f2 f3 f4;obtain ⟨Wm,c9,om⟩:=f0.str Tryz.underlying9;obtain ⟨s1,aJ,cc⟩:=f1.str Tryz.underlying9;obtain ⟨i2,aR,_⟩:=f2.int Tryz.underlying3;obtain ⟨i3,bP,_⟩:=f3.int Tryz.underlying3;obtain ⟨fZ,iA,T0,cC,b4,oe⟩:=f4.slice Tryz.underlying88 (by rw [A9];decide);simp only [asf,as0,asA,atF,asY,atC] at c9 aJ aR bP b4;subst c9 aJ aR bP b4;simp only [atb,List.sum_nil] at ad;rw [A9] at oe;obtain ⟨l,_,_,L⟩:=Gs id oe (by omega) fun k af aB q=>Vi fZ q (by omega);rw [List.map_id] at L;exact ⟨⟨Wm,s1,i2,i3,l⟩,.s (by show Wm.length<=top;unfold top;omega) (.s (by show s1.length<=top;unfold top;omega) (.i (.i (L.cons .nil)))),rfl⟩
theorem alU {n m len:Nat} {h:ae} {v:V} (S:x5 h 5 v len m (fun k=>dE Tryz.prog h n k 90)) (hm:m<=1048576):∃l:List bz,l.length<=m/\bY Any h 5 (l.map bz.enc) v:=by obtain ⟨l,_,aU,L⟩:=Gs bz.enc S hm fun k af aB q=>alT n q (by omega);exact ⟨l,by omega,L⟩
theorem IQ:Tryz.prog.cellsOf 29=3:=by kernel_rfl
theorem abf:Tryz.prog.cellsOf 27=1:=by kernel_rfl
set_option maxRecDepth 10000 in
theorem Vh:∀(n:Nat) {m:Nat} {h:ae} {af:List V},dE Tryz.prog h n m 29 af->m<=1048576->∃t:bZ,bM Any h t.enc af/\af.length=3
 | 0,m,h,af,H,_=>H.elim
 | n+1,m,h,af,H,hm=>by
   obtain ⟨gu,e,ax,ms,aa,ad,aH⟩:=H.struct Tryz.underlying29;obtain rfl:n=gu:=by omega
   rw [IQ] at ax
   match af,ax with
   | [v0,v1,v2],_=>
     have hX:ms.length=3:=aa;clear aa
     match ms,hX with
     | [m0,m1,m2],_=>
       have f0:=(aH 0 _ _ rfl rfl).2;have f1:=(aH 1 _ _ rfl rfl).2;have f2:=(aH 2 _ _ rfl rfl).2;simp only [cells3,abf] at f0 f1 f2;obtain ⟨i0,c9,_⟩:=f0.int Tryz.underlying3;obtain ⟨i1,aJ,_⟩:=f1.int Tryz.underlying3;obtain ⟨fZ,bA,hs,c2,aR,fN⟩:=f2.slice Tryz.underlying27 (by rw [IQ];decide);simp only [asf,as0,asA,atF,asY,atC] at c9 aJ aR;subst c9 aJ aR;simp only [atb,List.sum_nil] at ad;rw [IQ] at fN;obtain rfl:n=fZ+1:=c2;obtain ⟨l,_,_,L⟩:=Gs bZ.enc fN (by omega) fun k af aB q=>Vh fZ q (by omega);refine ⟨.mk i0 i1 l,?_,rfl⟩;rw [EA];exact .i (.i (L.cons .nil))
end
section
open Go aX Go.RowKit Go.Proofs Go.Lib
abbrev Cn:List (String × DataW Unit):=Rows.coverTellsUptoRow.laid
theorem acY {n:String} {g:Nat} {t:TypeId} {ms:Array (String × TypeId)} {name:String} {d:DataW Unit} {W:World} (aF:Tryz.prog.globalNamed n=some g) (wX:(Tryz.prog.globals[g]?).map (·.type)=some t) (aw:Tryz.prog.underlying t=some (.interface ms))
 (h:VarReads Tryz.prog W n (.iface name d)):xO W g:=by
 obtain ⟨dz,tL,cs,fuel,p,aa,ad,aH,bw⟩:=h;obtain rfl:=asK (aF.symm.trans aa);obtain rfl:=asK (wX.symm.trans ad);obtain ⟨_,u,v,iG,_,_⟩:=iface_of_trod aw bw;refine ⟨.iface u v,?_,.inr ⟨u,v,rfl⟩⟩;have:=World.var?_cell aF aH 0;rw [this,<-as5,iG];rfl
theorem aoB:Go.Proofs.U8Types Tryz.prog Tryz.Co:=Go.Proofs.U8Types.of260 Tryz.ajY
theorem aoA:U8Extra Tryz.prog Tryz.Co:=⟨by kernel_rfl,by kernel_rfl,by kernel_rfl,by kernel_rfl,by kernel_rfl,by kernel_rfl,by kernel_rfl⟩
theorem adv:(Rows.laid_unicode_utf8_first:DataW Unit)=firstData:=Pinned.utf8First_eq
theorem YZ:(Rows.laid_unicode_utf8_acceptRanges:DataW Unit)=acceptData:=by kernel_rfl
theorem adI:Tryz.Co.g 3=0:=by kernel_rfl
theorem adJ:Tryz.Co.g 4=1:=by kernel_rfl
theorem akh {l:List (String × DataW Unit)} {W:World} (hm:∀p ∈ Cn,p ∈ l) (c':laidMet Tryz.prog l W) (B5:W.ShapedOpen Tryz.prog):HY W:=by
 have r:∀(n:String) (d:DataW Unit),(n,d) ∈ Cn->VarReads Tryz.prog W n d:=fun n d h=>laidMet.reads c' (hm _ h);have av:=r "unicode/utf8.first" Rows.laid_unicode_utf8_first (by simp [Cn,Rows.coverTellsUptoRow]);have bs:=r "unicode/utf8.acceptRanges" Rows.laid_unicode_utf8_acceptRanges (by simp [Cn,Rows.coverTellsUptoRow]);have aD:=r "strconv.ErrRange" Rows.laid_strconv_ErrRange (by simp [Cn,Rows.coverTellsUptoRow]);rw [adv] at av;rw [YZ] at bs;refine ⟨?_,?_,?_⟩
 . have:=Go.Proofs.utf8Tabs_of_readsT aoB aoA av bs;rwa [adI,adJ] at this
 . exact Go.Proofs.cell_of_shapedOpen_int B5 (g:=2) (t:=3) (zero:=#[.int .i64 0]) (of_decide_eq_true (by kernel_rfl)) (by kernel_rfl) rfl (by kernel_rfl) (by kernel_rfl) Tryz.underlying3
 . exact acY (n:= "strconv.ErrRange") (t:=190) (by kernel_rfl) (by kernel_rfl) Tryz.underlying190 aD
end
end Go.Proofs.YtgmhjhgoamjeeaaGreatDoor
