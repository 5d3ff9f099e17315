/- The chapter's functions, walked by the abstract machine: plain lemmas, no condition. Printed by a program from longer texts: names made short. -/
import Derived.Test.YtkehcalakofigaaGreatDoorM6
import Derived.Test.YtkehcalakofigaaGreatDoorM13
import Derived.Test.YtkehcalakofigaaGreatDoorM5
import Derived.Test.YtkehcalakofigaaGreatDoorM8
import Derived.Lay
import Derived.LaidLaws
import Derived.PinnedBridge
import Derived.Lib.LaidU8T
import Derived.Shelf.Vars
import Derived.MakeChecks
set_option linter.unusedSectionVars false
set_option linter.unusedSimpArgs false
set_option linter.unusedVariables false
namespace Go.Proofs.YtkehcalakofigaaGreatDoor
open Go a1
theorem xR:Tryz.prog.cellsOf 30=5:=by kernel_rfl
theorem RL:Tryz.prog.cellsOf 22=1:=by kernel_rfl
theorem RM:Tryz.prog.cellsOf 9=1:=by kernel_rfl
theorem cells3:Tryz.prog.cellsOf 3=1:=by kernel_rfl
theorem E':∀l:List a',ek l=(l.map a'.size).sum
 | []=>rfl
 | t::l=>by rw [ek,List.map_cons,List.sum_cons,E' l]
set_option maxRecDepth 10000 in
theorem Lg:∀(n:Nat) {m:Nat} {h:ae} {ab:List V},c7 Tryz.prog h n m 30 ab→m≤1048576→∃t:a',ct Any h t.enc ab∧ab.length=5∧t.size≤m
 | 0,m,h,ab,H,_=>H.elim
 | n+1,m,h,ab,H,hm=>by
   obtain ⟨fU,e,ai,ms,U,ad,aI⟩:=H.struct Tryz.underlying30
   obtain rfl:n=fU:=by omega
   rw [xR] at ai
   match ab,ai with
   | [v0,v1,v2,v3,v4],_=>
     have e5:ms.length=5:=U
     clear U
     match ms,e5 with
     | [m0,m1,m2,m3,m4],_=>
       have f0:=(aI 0 _ _ rfl rfl).2
       have f1:=(aI 1 _ _ rfl rfl).2
       have f2:=(aI 2 _ _ rfl rfl).2
       have f3:=(aI 3 _ _ rfl rfl).2
       have f4:=(aI 4 _ _ rfl rfl).2
       simp only [cells3,RM,RL] at f0 f1 f2 f3 f4
       obtain ⟨i0,cC,_⟩:=f0.int Tryz.underlying3
       obtain ⟨i1,aE,_⟩:=f1.int Tryz.underlying3
       obtain ⟨i2,aM,_⟩:=f2.int Tryz.underlying3
       obtain ⟨qf,b9,hS⟩:=f3.str Tryz.underlying9
       obtain ⟨jX,hz,ad1,fW,gD,Gr⟩:=f4.slice Tryz.underlying22 (by rw [xR];decide)
       simp only [List.drop_zero,List.drop_succ_cons,List.take_succ_cons,List.take_zero,List.cons.injEq,and_true] at cC aE aM b9 gD
       subst cC aE aM b9 gD
       simp only [List.sum_cons,List.sum_nil] at ad
       rw [xR] at Gr
       obtain rfl:n=jX+1:=fW
       obtain ⟨l,_,aQ,L⟩:=Lf a'.enc a'.size Gr (by omega) fun k ab aA q=>Lg jX q (by omega)
       refine ⟨.mk i0 i1 i2 qf l,?_,rfl,?_⟩
       · rw [E3]
         exact .i (.i (.i (.s (by show qf.length≤top;unfold top;omega) (L.cons .nil))))
       · rw [a'.size,E'];omega
theorem aac {n m len:Nat} {h:ae} {v:V} (S:xp h 5 v len m (fun k=>c7 Tryz.prog h n k 30)) (hm:m≤1048576):∃l:List a',ek l≤m∧cF Any h 5 (l.map a'.enc) v:=by
 obtain ⟨l,_,aQ,L⟩:=Lf a'.enc a'.size S hm fun k ab aA q=>Lg n q (by omega)
 exact ⟨l,by rw [E'];omega,L⟩
end Go.Proofs.YtkehcalakofigaaGreatDoor
namespace Go.Proofs.YtkehcalakofigaaGreatDoor
open Go a1 Go.RowKit Go.Proofs Go.Lib
abbrev vZ:List (String × DataW Unit):=Rows.treeChecksUptoRow.laid
theorem SW {n:String} {g:Nat} {t:TypeId} {ms:Array (String × TypeId)} {name:String} {d:DataW Unit} {W:World} (aD:Tryz.prog.globalNamed n=some g) (VT:(Tryz.prog.globals[g]?).map (·.type)=some t) (aB:Tryz.prog.underlying t=some (.interface ms))
 (h:VarReads Tryz.prog W n (.iface name d)):sd W g:=by
 obtain ⟨Ts,r5,cs,fuel,p,U,ad,aI,br⟩:=h
 obtain rfl:=Option.some.inj (aD.symm.trans U)
 obtain rfl:=Option.some.inj (VT.symm.trans ad)
 obtain ⟨_,u,v,gp,_,_⟩:=iface_of_trod aB br
 refine ⟨.iface u v,?_,.inr ⟨u,v,rfl⟩⟩
 have:=World.var?_cell aD aI 0
 rw [this,←Array.getElem?_toList,gp]
 rfl
theorem acB:Go.Proofs.U8Types Tryz.prog Tryz.v8:=Go.Proofs.U8Types.of260 Tryz.YI
theorem acA:U8Extra Tryz.prog Tryz.v8:=⟨by kernel_rfl,by kernel_rfl,by kernel_rfl,by kernel_rfl,by kernel_rfl,by kernel_rfl,by kernel_rfl⟩
theorem Tj:(Rows.laid_unicode_utf8_first:DataW Unit)=firstData:=Pinned.utf8First_eq
theorem NT:(Rows.laid_unicode_utf8_acceptRanges:DataW Unit)=acceptData:=by kernel_rfl
theorem Tt:Tryz.v8.g 3=0:=by kernel_rfl
theorem Tu:Tryz.v8.g 4=1:=by kernel_rfl
theorem YY {l:List (String × DataW Unit)} {W:World} (hm:∀p ∈ vZ,p ∈ l) (cy:laidMet Tryz.prog l W) (vJ:W.ShapedOpen Tryz.prog):AT W:=by
 have r:∀(n:String) (d:DataW Unit),(n,d) ∈ vZ→VarReads Tryz.prog W n d:=fun n d h=>laidMet.reads cy (hm _ h)
 have ax:=r "unicode/utf8.first" Rows.laid_unicode_utf8_first (by simp [vZ,Rows.treeChecksUptoRow])
 have bm:=r "unicode/utf8.acceptRanges" Rows.laid_unicode_utf8_acceptRanges (by simp [vZ,Rows.treeChecksUptoRow])
 have aG:=r "strconv.ErrRange" Rows.laid_strconv_ErrRange (by simp [vZ,Rows.treeChecksUptoRow])
 rw [Tj] at ax
 rw [NT] at bm
 refine ⟨?_,?_,?_⟩
 · have:=Go.Proofs.utf8Tabs_of_readsT acB acA ax bm
   rwa [Tt,Tu] at this
 · exact Go.Proofs.cell_of_shapedOpen_int vJ (g:=2) (t:=3) (zero:=#[.int .i64 0]) (of_decide_eq_true (by kernel_rfl)) (by kernel_rfl) rfl (by kernel_rfl) (by kernel_rfl) Tryz.underlying3
 · exact SW (n:= "strconv.ErrRange") (t:=135) (by kernel_rfl) (by kernel_rfl) Tryz.underlying135 aG
end Go.Proofs.YtkehcalakofigaaGreatDoor
