/- The chapter's functions, walked by the abstract machine: plain lemmas, no condition. Printed by a program from longer texts: names made short. -/
import Derived.Test.YtgmhjhgoamjeeaaGreatDoorM14
import Derived.Test.YtgmhjhgoamjeeaaGreatDoorM21
import Derived.Test.YtgmhjhgoamjeeaaGreatDoorM5
import Derived.Test.YtgmhjhgoamjeeaaGreatDoorM6
import Derived.Test.YtgmhjhgoamjeeaaGreatDoorM10
import Derived.Lay
import Derived.LaidLaws
import Derived.PinnedBridge
import Derived.Lib.LaidU8T
import Derived.Shelf.Vars
import Derived.MakeChecks
set_option linter.unusedSectionVars false
set_option linter.unusedSimpArgs false
set_option linter.unusedVariables false
set_option maxHeartbeats 64000000
noncomputable section
namespace Go.Proofs.YtgmhjhgoamjeeaaGreatDoor
section
open Go aX
end
section
open Go aX Go.RowKit Go.Proofs Go.Lib
abbrev BL:List (String × DataW Unit):=Rows.coverTellsUptoRow.laid
theorem abd {n:String} {g:Nat} {t:TypeId} {ms:Array (String × TypeId)} {name:String} {d:DataW Unit} {W:World} (aG:Tryz.prog.globalNamed n=some g) (wm:(Tryz.prog.globals[g]?).map (·.type)=some t) (ax:Tryz.prog.underlying t=some (.interface ms))
 (h:VarReads Tryz.prog W n (.iface name d)):xm W g:=by
 obtain ⟨dM,ti,cs,fuel,p,aa,ad,aJ,bu⟩:=h;obtain rfl:=aqB (aG.symm.trans aa);obtain rfl:=aqB (wm.symm.trans ad);obtain ⟨_,u,v,ic,_,_⟩:=iface_of_trod ax bu;refine ⟨.iface u v,?_,.inr ⟨u,v,rfl⟩⟩;have:=World.var?_cell aG aJ 0;rw [this,<-aq1,ic];rfl
theorem amN:Go.Proofs.U8Types Tryz.prog Tryz.BM:=Go.Proofs.U8Types.of260 Tryz.ah'
theorem amM:U8Extra Tryz.prog Tryz.BM:=⟨by kernel_rfl,by kernel_rfl,by kernel_rfl,by kernel_rfl,by kernel_rfl,by kernel_rfl,by kernel_rfl⟩
theorem abK:(Rows.laid_unicode_utf8_first:DataW Unit)=firstData:=Pinned.utf8First_eq
theorem Xs:(Rows.laid_unicode_utf8_acceptRanges:DataW Unit)=acceptData:=by kernel_rfl
theorem abX:Tryz.BM.g 3=0:=by kernel_rfl
theorem abY:Tryz.BM.g 4=1:=by kernel_rfl
theorem aiv {l:List (String × DataW Unit)} {W:World} (hm:∀p ∈ BL,p ∈ l) (df:laidMet Tryz.prog l W) (Br:W.ShapedOpen Tryz.prog):Ha W:=by
 have r:∀(n:String) (d:DataW Unit),(n,d) ∈ BL->VarReads Tryz.prog W n d:=fun n d h=>laidMet.reads df (hm _ h);have av:=r "unicode/utf8.first" Rows.laid_unicode_utf8_first (by simp [BL,Rows.coverTellsUptoRow]);have bt:=r "unicode/utf8.acceptRanges" Rows.laid_unicode_utf8_acceptRanges (by simp [BL,Rows.coverTellsUptoRow]);have aC:=r "strconv.ErrRange" Rows.laid_strconv_ErrRange (by simp [BL,Rows.coverTellsUptoRow]);rw [abK] at av;rw [Xs] at bt;refine ⟨?_,?_,?_⟩
 . have:=Go.Proofs.utf8Tabs_of_readsT amN amM av bt;rwa [abX,abY] at this
 . exact Go.Proofs.cell_of_shapedOpen_int Br (g:=2) (t:=3) (zero:=#[.int .i64 0]) (of_decide_eq_true (by kernel_rfl)) (by kernel_rfl) rfl (by kernel_rfl) (by kernel_rfl) Tryz.underlying3
 . exact abd (n:= "strconv.ErrRange") (t:=190) (by kernel_rfl) (by kernel_rfl) Tryz.underlying190 aC
end
end Go.Proofs.YtgmhjhgoamjeeaaGreatDoor
