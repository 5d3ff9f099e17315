/- The chapter's functions, walked by the abstract machine: plain lemmas, no condition. Printed by a program from longer texts: names made short. -/
import Derived.Test.YtkehcalakofigaaGreatDoorM6
import Derived.Test.YtkehcalakofigaaGreatDoorM17
import Derived.Test.YtkehcalakofigaaGreatDoorM5
import Derived.Test.YtkehcalakofigaaGreatDoorM10
import Derived.Lay
import Derived.LaidLaws
import Derived.PinnedBridge
import Derived.Lib.LaidU8T
import Derived.Shelf.Vars
import Derived.MakeChecks
set_option linter.unusedSectionVars false
set_option linter.unusedSimpArgs false
set_option linter.unusedVariables false
namespace Go.Proofs.YtkehcalakofigaaGreatDoor
open Go aS
theorem FJ:Tryz.prog.cellsOf 30=5:=by kernel_rfl
theorem X5:Tryz.prog.cellsOf 22=1:=by kernel_rfl
theorem X6:Tryz.prog.cellsOf 9=1:=by kernel_rfl
theorem cells3:Tryz.prog.cellsOf 3=1:=by kernel_rfl
theorem Qs:∀l:List aM,dt l=(l.map aM.size).sum
 | []=>rfl
 | t::l=>by rw [dt,List.map_cons,List.sum_cons,Qs l]
set_option maxRecDepth 10000 in
theorem IM:∀(n:Nat) {m:Nat} {h:af} {ad:List V},dw Tryz.prog h n m 30 ad→m≤1048576→∃t:aM,bZ Any h t.enc ad∧ad.length=5∧t.size≤m
 | 0,m,h,ad,H,_=>H.elim
 | n+1,m,h,ad,H,hm=>by
   obtain ⟨hz,e,ak,ms,aa,ae,aI⟩:=H.struct Tryz.underlying30
   obtain rfl:n=hz:=by omega
   rw [FJ] at ak
   match ad,ak with
   | [v0,v1,v2,v3,v4],_=>
     have fB:ms.length=5:=aa
     clear aa
     match ms,fB with
     | [m0,m1,m2,m3,m4],_=>
       have f0:=(aI 0 _ _ rfl rfl).2
       have f1:=(aI 1 _ _ rfl rfl).2
       have f2:=(aI 2 _ _ rfl rfl).2
       have f3:=(aI 3 _ _ rfl rfl).2
       have f4:=(aI 4 _ _ rfl rfl).2
       simp only [cells3,X6,X5] at f0 f1 f2 f3 f4
       obtain ⟨i0,cT,_⟩:=f0.int Tryz.underlying3
       obtain ⟨i1,aB,_⟩:=f1.int Tryz.underlying3
       obtain ⟨i2,aO,_⟩:=f2.int Tryz.underlying3
       obtain ⟨ky,cc,hr⟩:=f3.str Tryz.underlying9
       obtain ⟨hJ,hO,akS,ew,fy,Av⟩:=f4.slice Tryz.underlying22 (by rw [FJ];decide)
       simp only [List.drop_zero,List.drop_succ_cons,List.take_succ_cons,List.take_zero,List.cons.injEq,and_true] at cT aB aO cc fy
       subst cT aB aO cc fy
       simp only [List.sum_cons,List.sum_nil] at ae
       rw [FJ] at Av
       obtain rfl:n=hJ+1:=ew
       obtain ⟨l,_,aR,L⟩:=agK aM.enc aM.size Av (by omega) fun k ad aD q=>IM hJ q (by omega)
       refine ⟨.mk i0 i1 i2 ky l,?_,rfl,?_⟩
       · rw [wI]
         exact .i (.i (.i (.s (by show ky.length≤top;unfold top;omega) (L.cons .nil))))
       · rw [aM.size,Qs];omega
end Go.Proofs.YtkehcalakofigaaGreatDoor
namespace Go.Proofs.YtkehcalakofigaaGreatDoor
open Go aS Go.RowKit Go.Proofs Go.Lib
abbrev yV:List (String × DataW Unit):=Rows.treeChecksUptoRow.laid
theorem Zb {n:String} {g:Nat} {t:TypeId} {ms:Array (String × TypeId)} {name:String} {d:DataW Unit} {W:World} (aH:Tryz.prog.globalNamed n=some g) (aca:(Tryz.prog.globals[g]?).map (·.type)=some t) (av:Tryz.prog.underlying t=some (.interface ms))
 (h:VarReads Tryz.prog W n (.iface name d)):uz W g:=by
 obtain ⟨ZM,uk,cs,fuel,p,aa,ae,aI,bu⟩:=h
 obtain rfl:=Option.some.inj (aH.symm.trans aa)
 obtain rfl:=Option.some.inj (aca.symm.trans ae)
 obtain ⟨_,u,v,fU,_,_⟩:=iface_of_trod av bu
 refine ⟨.iface u v,?_,.inr ⟨u,v,rfl⟩⟩
 have:=World.var?_cell aH aI 0
 rw [this,←Array.getElem?_toList,fU]
 rfl
theorem ajb:Go.Proofs.U8Types Tryz.prog Tryz.yW:=Go.Proofs.U8Types.of260 Tryz.ae6
theorem aja:U8Extra Tryz.prog Tryz.yW:=⟨by kernel_rfl,by kernel_rfl,by kernel_rfl,by kernel_rfl,by kernel_rfl,by kernel_rfl,by kernel_rfl⟩
theorem ZB:(Rows.laid_unicode_utf8_first:DataW Unit)=firstData:=Pinned.utf8First_eq
theorem TF:(Rows.laid_unicode_utf8_acceptRanges:DataW Unit)=acceptData:=by kernel_rfl
theorem ZN:Tryz.yW.g 3=0:=by kernel_rfl
theorem ZO:Tryz.yW.g 4=1:=by kernel_rfl
theorem afl {l:List (String × DataW Unit)} {W:World} (hm:∀p ∈ yV,p ∈ l) (cI:laidMet Tryz.prog l W) (yA:W.ShapedOpen Tryz.prog):D8 W:=by
 have r:∀(n:String) (d:DataW Unit),(n,d) ∈ yV→VarReads Tryz.prog W n d:=fun n d h=>laidMet.reads cI (hm _ h)
 have aA:=r "unicode/utf8.first" Rows.laid_unicode_utf8_first (by simp [yV,Rows.treeChecksUptoRow])
 have br:=r "unicode/utf8.acceptRanges" Rows.laid_unicode_utf8_acceptRanges (by simp [yV,Rows.treeChecksUptoRow])
 have aJ:=r "strconv.ErrRange" Rows.laid_strconv_ErrRange (by simp [yV,Rows.treeChecksUptoRow])
 rw [ZB] at aA
 rw [TF] at br
 refine ⟨?_,?_,?_⟩
 · have:=Go.Proofs.utf8Tabs_of_readsT ajb aja aA br
   rwa [ZN,ZO] at this
 · exact Go.Proofs.cell_of_shapedOpen_int yA (g:=2) (t:=3) (zero:=#[.int .i64 0]) (of_decide_eq_true (by kernel_rfl)) (by kernel_rfl) rfl (by kernel_rfl) (by kernel_rfl) Tryz.underlying3
 · exact Zb (n:= "strconv.ErrRange") (t:=135) (by kernel_rfl) (by kernel_rfl) Tryz.underlying135 aJ
end Go.Proofs.YtkehcalakofigaaGreatDoor
