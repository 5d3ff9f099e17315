/- The chapter's functions, walked by the abstract machine: plain lemmas, no condition. Printed by a program from longer texts: names made short. -/
import Derived.Test.YtkehcalakofigaaGreatDoorM6
import Derived.Test.YtkehcalakofigaaGreatDoorM15
import Derived.Test.YtkehcalakofigaaGreatDoorM5
import Derived.Test.YtkehcalakofigaaGreatDoorM8
import Derived.Lay
import Derived.LaidLaws
import Derived.PinnedBridge
import Derived.Lib.LaidU8T
import Derived.Shelf.Vars
import Derived.MakeChecks
set_option linter.unusedSectionVars false
set_option linter.unusedSimpArgs false
set_option linter.unusedVariables false
namespace Go.Proofs.YtkehcalakofigaaGreatDoor
open Go aY
theorem cells3:Tryz.prog.cellsOf 3=1:=by kernel_rfl
set_option maxRecDepth 10000 in
theorem ZJ {h:ae} {n m:Nat} {ab:List V} (H:dh Tryz.prog h n m 3 ab):∃i:Int,cl Any h (aY.encI i) ab∧ab.length=1:=by
 obtain ⟨i,rfl,_⟩:=H.int Tryz.underlying3
 exact ⟨i,.i .nil,rfl⟩
end Go.Proofs.YtkehcalakofigaaGreatDoor
namespace Go.Proofs.YtkehcalakofigaaGreatDoor
open Go aY Go.RowKit Go.Proofs Go.Lib
abbrev vV:List (String × DataW Unit):=Rows.treeChecksUptoRow.laid
theorem Sj {n:String} {g:Nat} {t:TypeId} {ms:Array (String × TypeId)} {name:String} {d:DataW Unit} {W:World} (aD:Tryz.prog.globalNamed n=some g) (Vk:(Tryz.prog.globals[g]?).map (·.type)=some t) (aC:Tryz.prog.underlying t=some (.interface ms))
 (h:VarReads Tryz.prog W n (.iface name d)):sa W g:=by
 obtain ⟨Ib,r2,cs,fuel,p,U,ad,aI,bq⟩:=h
 obtain rfl:=Option.some.inj (aD.symm.trans U)
 obtain rfl:=Option.some.inj (Vk.symm.trans ad)
 obtain ⟨_,u,v,gT,_,_⟩:=iface_of_trod aC bq
 refine ⟨.iface u v,?_,.inr ⟨u,v,rfl⟩⟩
 have:=World.var?_cell aD aI 0
 rw [this,←Array.getElem?_toList,gT]
 rfl
theorem ab2:Go.Proofs.U8Types Tryz.prog Tryz.vX:=Go.Proofs.U8Types.of260 Tryz.Yb
theorem ab1:U8Extra Tryz.prog Tryz.vX:=⟨by kernel_rfl,by kernel_rfl,by kernel_rfl,by kernel_rfl,by kernel_rfl,by kernel_rfl,by kernel_rfl⟩
theorem SJ:(Rows.laid_unicode_utf8_first:DataW Unit)=firstData:=Pinned.utf8First_eq
theorem Nx:(Rows.laid_unicode_utf8_acceptRanges:DataW Unit)=acceptData:=by kernel_rfl
theorem SS:Tryz.vX.g 3=0:=by kernel_rfl
theorem SU:Tryz.vX.g 4=1:=by kernel_rfl
theorem Yr {l:List (String × DataW Unit)} {W:World} (hm:∀p ∈ vV,p ∈ l) (cy:laidMet Tryz.prog l W) (vD:W.ShapedOpen Tryz.prog):AO W:=by
 have r:∀(n:String) (d:DataW Unit),(n,d) ∈ vV→VarReads Tryz.prog W n d:=fun n d h=>laidMet.reads cy (hm _ h)
 have ax:=r "unicode/utf8.first" Rows.laid_unicode_utf8_first (by simp [vV,Rows.treeChecksUptoRow])
 have bm:=r "unicode/utf8.acceptRanges" Rows.laid_unicode_utf8_acceptRanges (by simp [vV,Rows.treeChecksUptoRow])
 have aH:=r "strconv.ErrRange" Rows.laid_strconv_ErrRange (by simp [vV,Rows.treeChecksUptoRow])
 rw [SJ] at ax
 rw [Nx] at bm
 refine ⟨?_,?_,?_⟩
 · have:=Go.Proofs.utf8Tabs_of_readsT ab2 ab1 ax bm
   rwa [SS,SU] at this
 · exact Go.Proofs.cell_of_shapedOpen_int vD (g:=2) (t:=3) (zero:=#[.int .i64 0]) (of_decide_eq_true (by kernel_rfl)) (by kernel_rfl) rfl (by kernel_rfl) (by kernel_rfl) Tryz.underlying3
 · exact Sj (n:= "strconv.ErrRange") (t:=135) (by kernel_rfl) (by kernel_rfl) Tryz.underlying135 aH
end Go.Proofs.YtkehcalakofigaaGreatDoor
