/- The chapter's functions, walked by the abstract machine: plain lemmas, no condition. Printed by a program from longer texts: names made short. -/
import Derived.Test.YtkehcalakofigaaGreatDoorM6
import Derived.Test.YtkehcalakofigaaGreatDoorM17
import Derived.Test.YtkehcalakofigaaGreatDoorM5
import Derived.Test.YtkehcalakofigaaGreatDoorM10
import Derived.Lay
import Derived.LaidLaws
import Derived.PinnedBridge
import Derived.Lib.LaidU8T
import Derived.Shelf.Vars
import Derived.MakeChecks
set_option linter.unusedSectionVars false
set_option linter.unusedSimpArgs false
set_option linter.unusedVariables false
namespace Go.Proofs.YtkehcalakofigaaGreatDoor
open Go aS
theorem Eu:Tryz.prog.cellsOf 30=5:=by kernel_rfl
theorem Vx:Tryz.prog.cellsOf 22=1:=by kernel_rfl
theorem Vy:Tryz.prog.cellsOf 9=1:=by kernel_rfl
theorem cells3:Tryz.prog.cellsOf 3=1:=by kernel_rfl
theorem O_:∀l:List aL,dD l=(l.map aL.size).sum
 | []=>rfl
 | t::l=>by rw [dD,List.map_cons,List.sum_cons,O_ l]
set_option maxRecDepth 10000 in
theorem Oy:∀(n:Nat) {m:Nat} {h:af} {ad:List V},df Tryz.prog h n m 30 ad→m≤1048576→∃t:aL,b9 Any h t.enc ad∧ad.length=5∧t.size≤m
 | 0,m,h,ad,H,_=>H.elim
 | n+1,m,h,ad,H,hm=>by
   obtain ⟨gT,e,ai,ms,aa,ae,aF⟩:=H.struct Tryz.underlying30
   obtain rfl:n=gT:=by omega
   rw [Eu] at ai
   match ad,ai with
   | [v0,v1,v2,v3,v4],_=>
     have hJ:ms.length=5:=aa
     clear aa
     match ms,hJ with
     | [m0,m1,m2,m3,m4],_=>
       have f0:=(aF 0 _ _ rfl rfl).2
       have f1:=(aF 1 _ _ rfl rfl).2
       have f2:=(aF 2 _ _ rfl rfl).2
       have f3:=(aF 3 _ _ rfl rfl).2
       have f4:=(aF 4 _ _ rfl rfl).2
       simp only [cells3,Vy,Vx] at f0 f1 f2 f3 f4
       obtain ⟨i0,cI,_⟩:=f0.int Tryz.underlying3
       obtain ⟨i1,aN,_⟩:=f1.int Tryz.underlying3
       obtain ⟨i2,aY,_⟩:=f2.int Tryz.underlying3
       obtain ⟨ll,cz,gN⟩:=f3.str Tryz.underlying9
       obtain ⟨hO,hT,aim,eX,gq,Jo⟩:=f4.slice Tryz.underlying22 (by rw [Eu];decide)
       simp only [List.drop_zero,List.drop_succ_cons,List.take_succ_cons,List.take_zero,List.cons.injEq,and_true] at cI aN aY cz gq
       subst cI aN aY cz gq
       simp only [List.sum_cons,List.sum_nil] at ae
       rw [Eu] at Jo
       obtain rfl:n=hO+1:=eX
       obtain ⟨l,_,aQ,L⟩:=aep aL.enc aL.size Jo (by omega) fun k ad aA q=>Oy hO q (by omega)
       refine ⟨.mk i0 i1 i2 ll l,?_,rfl,?_⟩
       · rw [ys]
         exact .i (.i (.i (.s (by show ll.length≤top;unfold top;omega) (L.cons .nil))))
       · rw [aL.size,O_];omega
end Go.Proofs.YtkehcalakofigaaGreatDoor
namespace Go.Proofs.YtkehcalakofigaaGreatDoor
open Go aS Go.RowKit Go.Proofs Go.Lib
abbrev x2:List (String × DataW Unit):=Rows.treeChecksUptoRow.laid
theorem WD {n:String} {g:Nat} {t:TypeId} {ms:Array (String × TypeId)} {name:String} {d:DataW Unit} {W:World} (aG:Tryz.prog.globalNamed n=some g) (ZR:(Tryz.prog.globals[g]?).map (·.type)=some t) (az:Tryz.prog.underlying t=some (.interface ms))
 (h:VarReads Tryz.prog W n (.iface name d)):tC W g:=by
 obtain ⟨w6,tn,cs,fuel,p,aa,ae,aF,bu⟩:=h
 obtain rfl:=Option.some.inj (aG.symm.trans aa)
 obtain rfl:=Option.some.inj (ZR.symm.trans ae)
 obtain ⟨_,u,v,gb,_,_⟩:=iface_of_trod az bu
 refine ⟨.iface u v,?_,.inr ⟨u,v,rfl⟩⟩
 have:=World.var?_cell aG aF 0
 rw [this,←Array.getElem?_toList,gb]
 rfl
theorem agS:Go.Proofs.U8Types Tryz.prog Tryz.x4:=Go.Proofs.U8Types.of260 Tryz.acM
theorem agR:U8Extra Tryz.prog Tryz.x4:=⟨by kernel_rfl,by kernel_rfl,by kernel_rfl,by kernel_rfl,by kernel_rfl,by kernel_rfl,by kernel_rfl⟩
theorem W7:(Rows.laid_unicode_utf8_first:DataW Unit)=firstData:=Pinned.utf8First_eq
theorem R2:(Rows.laid_unicode_utf8_acceptRanges:DataW Unit)=acceptData:=by kernel_rfl
theorem Xg:Tryz.x4.g 3=0:=by kernel_rfl
theorem Xh:Tryz.x4.g 4=1:=by kernel_rfl
theorem ac5 {l:List (String × DataW Unit)} {W:World} (hm:∀p ∈ x2,p ∈ l) (cV:laidMet Tryz.prog l W) (xH:W.ShapedOpen Tryz.prog):C6 W:=by
 have r:∀(n:String) (d:DataW Unit),(n,d) ∈ x2→VarReads Tryz.prog W n d:=fun n d h=>laidMet.reads cV (hm _ h)
 have ax:=r "unicode/utf8.first" Rows.laid_unicode_utf8_first (by simp [x2,Rows.treeChecksUptoRow])
 have bn:=r "unicode/utf8.acceptRanges" Rows.laid_unicode_utf8_acceptRanges (by simp [x2,Rows.treeChecksUptoRow])
 have aH:=r "strconv.ErrRange" Rows.laid_strconv_ErrRange (by simp [x2,Rows.treeChecksUptoRow])
 rw [W7] at ax
 rw [R2] at bn
 refine ⟨?_,?_,?_⟩
 · have:=Go.Proofs.utf8Tabs_of_readsT agS agR ax bn
   rwa [Xg,Xh] at this
 · exact Go.Proofs.cell_of_shapedOpen_int xH (g:=2) (t:=3) (zero:=#[.int .i64 0]) (of_decide_eq_true (by kernel_rfl)) (by kernel_rfl) rfl (by kernel_rfl) (by kernel_rfl) Tryz.underlying3
 · exact WD (n:= "strconv.ErrRange") (t:=135) (by kernel_rfl) (by kernel_rfl) Tryz.underlying135 aH
end Go.Proofs.YtkehcalakofigaaGreatDoor
