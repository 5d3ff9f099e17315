/- The chapter's functions, walked by the abstract machine: plain lemmas, no condition. Printed by a program from longer texts: names made short. -/
import Derived.Test.YtefceblncmdkhaaGreatDoorM12
import Derived.Test.YtefceblncmdkhaaGreatDoorM15
import Derived.Test.YtefceblncmdkhaaGreatDoorM5
import Derived.Test.YtefceblncmdkhaaGreatDoorM6
import Derived.Test.YtefceblncmdkhaaGreatDoorM8
import Derived.Lay
import Derived.LaidLaws
import Derived.PinnedBridge
import Derived.Lib.LaidU8T
import Derived.Shelf.Vars
import Derived.MakeChecks
set_option linter.unusedSectionVars false
set_option linter.unusedSimpArgs false
set_option linter.unusedVariables false
set_option maxHeartbeats 64000000
noncomputable section
namespace Go.Proofs.YtefceblncmdkhaaGreatDoor
section
open Go bb
theorem DK:Tryz.prog.cellsOf 39=5:=by kernel_rfl
theorem Y8:Tryz.prog.cellsOf 22=1:=by kernel_rfl
theorem Y9:Tryz.prog.cellsOf 9=1:=by kernel_rfl
theorem cells3:Tryz.prog.cellsOf 3=1:=by kernel_rfl
theorem KK:∀l:List aQ,e9 l=(l.map aQ.size).sum
 | []=>rfl
 | t::l=>by rw [e9,aow,apz,KK l]
set_option maxRecDepth 10000 in
theorem Tg:∀(n:Nat) {m:Nat} {h:ah} {ai:List V},ew Tryz.prog h n m 39 ai->m<=1048576->∃t:aQ,cg Any h t.enc ai/\ai.length=5/\t.size<=m
 | 0,m,h,ai,H,_=>H.elim
 | n+1,m,h,ai,H,hm=>by
   obtain ⟨eN,e,aw,ms,J,ad,aC⟩:=H.struct Tryz.underlying39;obtain rfl:n=eN:=by omega
   rw [DK] at aw
   match ai,aw with
   | [v0,v1,v2,v3,v4],_=>
     have fD:ms.length=5:=J;clear J
     match ms,fD with
     | [m0,m1,m2,m3,m4],_=>
       have f0:=(aC 0 _ _ rfl rfl).2;have f1:=(aC 1 _ _ rfl rfl).2;have f2:=(aC 2 _ _ rfl rfl).2;have f3:=(aC 3 _ _ rfl rfl).2;have f4:=(aC 4 _ _ rfl rfl).2;simp only [cells3,Y9,Y8] at f0 f1 f2 f3 f4;obtain ⟨i0,dI,_⟩:=f0.int Tryz.underlying3;obtain ⟨i1,al,_⟩:=f1.int Tryz.underlying3;obtain ⟨i2,aN,_⟩:=f2.int Tryz.underlying3;obtain ⟨uT,cj,kO⟩:=f3.str Tryz.underlying9;obtain ⟨kX,iZ,R5,dR,gl,LX⟩:=f4.slice Tryz.underlying22 (by rw [DK];decide);simp only [aok,aoM,aoL,List.take_zero,aoY,apI] at dI al aN cj gl;subst dI al aN cj gl;simp only [apz,List.sum_nil] at ad;rw [DK] at LX;obtain rfl:n=kX+1:=dR;obtain ⟨l,_,aL,L⟩:=Tf aQ.enc aQ.size LX (by omega) fun k ai ay q=>Tg kX q (by omega);refine ⟨.mk i0 i1 i2 uT l,?_,rfl,?_⟩
       . rw [KD];exact .i (.i (.i (.s (by show uT.length<=top;unfold top;omega) (L.cons .nil))))
       . rw [aQ.size,KK];omega
theorem aiE {n m len:Nat} {h:ah} {v:V} (S:Dq h 5 v len m (fun k=>ew Tryz.prog h n k 39)) (hm:m<=1048576):∃l:List aQ,e9 l<=m/\ch Any h 5 (l.map aQ.enc) v:=by obtain ⟨l,_,aL,L⟩:=Tf aQ.enc aQ.size S hm fun k ai ay q=>Tg n q (by omega);exact ⟨l,by rw [KK];omega,L⟩
end
section
open Go bb Go.RowKit Go.Proofs Go.Lib
abbrev y':List (String × DataW Unit):=Rows.printTellsUptoRow.laid
theorem aap {n:String} {g:Nat} {t:TypeId} {ms:Array (String × TypeId)} {name:String} {d:DataW Unit} {W:World} (an:Tryz.prog.globalNamed n=some g) (Jm:(Tryz.prog.globals[g]?).map (·.type)=some t) (au:Tryz.prog.underlying t=some (.interface ms))
 (h:VarReads Tryz.prog W n (.iface name d)):xt W g:=by
 obtain ⟨tH,o7,cs,fuel,p,J,ad,aC,bn⟩:=h;obtain rfl:=aoN (an.symm.trans J);obtain rfl:=aoN (Jm.symm.trans ad);obtain ⟨_,u,v,hc,_,_⟩:=iface_of_trod au bn;refine ⟨.iface u v,?_,.inr ⟨u,v,rfl⟩⟩;have:=World.var?_cell an aC 0;rw [this,<-apa,hc];rfl
theorem akK {n:String} {g:Nat} {t e:TypeId} {m:Nat} {k:IntKind} {p0:List Int} {W:World} (an:Tryz.prog.globalNamed n=some g) (Jm:(Tryz.prog.globals[g]?).map (·.type)=some t) (aE:Tryz.prog.underlying t=some (.array m e)) (he:Tryz.prog.underlying e=some (.int k)) (ab9:Tryz.prog.cellsOf e=1) (aca:Tryz.prog.cellsOf t=m)
 (h:VarReads Tryz.prog W n (tabData k p0)):TabIs Tryz.prog W n k p0:=by
 obtain ⟨tH,o7,cs,fuel,p,J,ad,aC,bn⟩:=h;obtain rfl:=aoN (an.symm.trans J);obtain rfl:=aoN (Jm.symm.trans ad);unfold TabIs;rw [aC,<-cells_of_tab aE he ab9 aca bn]
theorem alb:Go.Proofs.U8Types Tryz.prog Tryz.B2:=Go.Proofs.U8Types.of260 Tryz.agR
theorem ala:U8Extra Tryz.prog Tryz.B2:=⟨by kernel_rfl,by kernel_rfl,by kernel_rfl,by kernel_rfl,by kernel_rfl,by kernel_rfl,by kernel_rfl⟩
theorem aaR:(Rows.laid_unicode_utf8_first:DataW Unit)=firstData:=Pinned.utf8First_eq
theorem Wa:(Rows.laid_unicode_utf8_acceptRanges:DataW Unit)=acceptData:=by kernel_rfl
theorem ai2:(Rows.laid_internal_strconv_uint64pow10:DataW Unit)=tabData .u64 pow10Tab:=by kernel_rfl
theorem aaZ:Tryz.B2.g 3=4:=by kernel_rfl
theorem aa0:Tryz.B2.g 4=5:=by kernel_rfl
theorem ag_ {l:List (String × DataW Unit)} {W:World} (hm:∀p ∈ y',p ∈ l) (cB:laidMet Tryz.prog l W) (BB:W.ShapedOpen Tryz.prog):GO W:=by
 have r:∀(n:String) (d:DataW Unit),(n,d) ∈ y'->VarReads Tryz.prog W n d:=fun n d h=>laidMet.reads cB (hm _ h);have aA:=r "unicode/utf8.first" Rows.laid_unicode_utf8_first (by simp [y',Rows.printTellsUptoRow]);have bF:=r "unicode/utf8.acceptRanges" Rows.laid_unicode_utf8_acceptRanges (by simp [y',Rows.printTellsUptoRow]);have aK:=r "strconv.ErrRange" Rows.laid_strconv_ErrRange (by simp [y',Rows.printTellsUptoRow]);have ak:=r "internal/strconv.uint64pow10" Rows.laid_internal_strconv_uint64pow10 (by simp [y',Rows.printTellsUptoRow]);rw [ai2] at ak;rw [aaR] at aA;rw [Wa] at bF;refine ⟨?_,?_,?_,?_⟩
 . have:=Go.Proofs.utf8Tabs_of_readsT alb ala aA bF;rwa [aaZ,aa0] at this
 . exact Go.Proofs.cell_of_shapedOpen_int BB (g:=0) (t:=3) (zero:=#[.int .i64 0]) (of_decide_eq_true (by kernel_rfl)) (by kernel_rfl) rfl (by kernel_rfl) (by kernel_rfl) Tryz.underlying3
 . exact aap (n:= "strconv.ErrRange") (t:=84) (by kernel_rfl) (by kernel_rfl) Tryz.underlying84 aK
 . exact akK (g:=1) (t:=141) (e:=121) (m:=20) (by kernel_rfl) (by kernel_rfl) (by kernel_rfl) (by kernel_rfl) (by kernel_rfl) (by kernel_rfl) ak
end
end Go.Proofs.YtefceblncmdkhaaGreatDoor
