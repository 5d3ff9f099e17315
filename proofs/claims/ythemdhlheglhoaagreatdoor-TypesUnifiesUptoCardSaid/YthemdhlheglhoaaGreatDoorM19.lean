/- The chapter's functions, walked by the abstract machine: plain lemmas, no condition. Printed by a program from longer texts: names made short. -/
import Derived.Test.YthemdhlheglhoaaGreatDoorM10
import Derived.Test.YthemdhlheglhoaaGreatDoorM14
import Derived.Test.YthemdhlheglhoaaGreatDoorM8
import Derived.Test.YthemdhlheglhoaaGreatDoorM18
import Derived.Test.YthemdhlheglhoaaGreatDoorM4
import Derived.Lay
import Derived.LaidLaws
import Derived.PinnedBridge
import Derived.Lib.LaidU8T
import Derived.Shelf.Vars
import Derived.MakeChecks
set_option linter.unusedSectionVars false
set_option linter.unusedSimpArgs false
set_option linter.unusedVariables false
set_option maxHeartbeats 64000000
noncomputable section
namespace Go.Proofs.YthemdhlheglhoaaGreatDoor
section
open Go a7
theorem A1:Tryz.prog.cellsOf 35=4:=by kernel_rfl
theorem abL:Tryz.prog.cellsOf 22=1:=by kernel_rfl
theorem abM:Tryz.prog.cellsOf 9=1:=by kernel_rfl
theorem cells3:Tryz.prog.cellsOf 3=1:=by kernel_rfl
theorem Mq:∀l:List aL,ca l=(l.map aL.size).sum
 | []=>rfl
 | t::l=>by rw [ca,List.map_cons,List.sum_cons,Mq l]
set_option maxRecDepth 10000 in
theorem Vo:∀(n:Nat) {m:Nat} {h:ai} {ah:List V},dS Tryz.prog h n m 35 ah->m<=1048576->∃t:aL,cW Any h t.enc ah/\ah.length=4/\t.size<=m
 | 0,m,h,ah,H,_=>H.elim
 | n+1,m,h,ah,H,hm=>by
   obtain ⟨hK,e,ay,ms,aa,ad,aJ⟩:=H.struct Tryz.underlying35;obtain rfl:n=hK:=by omega
   rw [A1] at ay
   match ah,ay with
   | [v0,v1,v3,v4],_=>
     have gz:ms.length=4:=aa;clear aa
     match ms,gz with
     | [m0,m1,m3,m4],_=>
       have f0:=(aJ 0 _ _ rfl rfl).2;have f1:=(aJ 1 _ _ rfl rfl).2;have f3:=(aJ 2 _ _ rfl rfl).2;have f4:=(aJ 3 _ _ rfl rfl).2;simp only [cells3,abM,abL] at f0 f1 f3 f4;obtain ⟨i0,c0,_⟩:=f0.int Tryz.underlying3;obtain ⟨i1,aP,_⟩:=f1.int Tryz.underlying3;obtain ⟨kM,cM,e3⟩:=f3.str Tryz.underlying9;obtain ⟨fP,iF,wX,fo,fM,OH⟩:=f4.slice Tryz.underlying22 (by rw [A1];decide);simp only [List.drop_zero,List.drop_succ_cons,List.take_succ_cons,List.take_zero,List.cons.injEq,and_true] at c0 aP cM fM;subst c0 aP cM fM;simp only [List.sum_cons,List.sum_nil] at ad;rw [A1] at OH;obtain rfl:n=fP+1:=fo;obtain ⟨l,_,aR,L⟩:=Vn aL.enc aL.size OH (by omega) fun k ah aH q=>Vo fP q (by omega);refine ⟨.mk i0 i1 kM l,?_,rfl,?_⟩
       . rw [CP];exact .i (.i (.s (by show kM.length<=top;unfold top;omega) (L.cons .nil)))
       . rw [aL.size,Mq];omega
theorem Vp {n m len:Nat} {h:ai} {v:V} (S:DQ h 4 v len m (fun k=>dS Tryz.prog h n k 35)) (hm:m<=1048576):∃l:List aL,ca l<=m/\cJ Any h 4 (l.map aL.enc) v:=by obtain ⟨l,_,aR,L⟩:=Vn aL.enc aL.size S hm fun k ah aH q=>Vo n q (by omega);exact ⟨l,by rw [Mq];omega,L⟩
end
section
open Go a7 Go.RowKit Go.Proofs Go.Lib
abbrev zj:List (String × DataW Unit):=Rows.typesAppliesUptoRow.laid
theorem ac5 {n:String} {g:Nat} {t:TypeId} {ms:Array (String × TypeId)} {name:String} {d:DataW Unit} {W:World} (aB:Tryz.prog.globalNamed n=some g) (K0:(Tryz.prog.globals[g]?).map (·.type)=some t) (an:Tryz.prog.underlying t=some (.interface ms))
 (h:VarReads Tryz.prog W n (.iface name d)):xQ W g:=by
 obtain ⟨cH,u1,cs,fuel,p,aa,ad,aJ,bE⟩:=h;obtain rfl:=Option.some.inj (aB.symm.trans aa);obtain rfl:=Option.some.inj (K0.symm.trans ad);obtain ⟨_,u,v,ho,_,_⟩:=iface_of_trod an bE;refine ⟨.iface u v,?_,.inr ⟨u,v,rfl⟩⟩;have:=World.var?_cell aB aJ 0;rw [this,<-Array.getElem?_toList,ho];rfl
theorem anM {n:String} {g:Nat} {t e:TypeId} {m:Nat} {k:IntKind} {fA:List Int} {W:World} (aB:Tryz.prog.globalNamed n=some g) (K0:(Tryz.prog.globals[g]?).map (·.type)=some t) (aw:Tryz.prog.underlying t=some (.array m e)) (he:Tryz.prog.underlying e=some (.int k)) (aeK:Tryz.prog.cellsOf e=1) (aeQ:Tryz.prog.cellsOf t=m)
 (h:VarReads Tryz.prog W n (tabData k fA)):TabIs Tryz.prog W n k fA:=by
 obtain ⟨cH,u1,cs,fuel,p,aa,ad,aJ,bE⟩:=h;obtain rfl:=Option.some.inj (aB.symm.trans aa);obtain rfl:=Option.some.inj (K0.symm.trans ad);unfold TabIs;rw [aJ,<-cells_of_tab aw he aeK aeQ bE]
theorem aoe:Go.Proofs.U8Types Tryz.prog Tryz.Cl:=Go.Proofs.U8Types.of260 Tryz.ajG
theorem aod:U8Extra Tryz.prog Tryz.Cl:=⟨by kernel_rfl,by kernel_rfl,by kernel_rfl,by kernel_rfl,by kernel_rfl,by kernel_rfl,by kernel_rfl⟩
theorem adu:(Rows.laid_unicode_utf8_first:DataW Unit)=firstData:=Pinned.utf8First_eq
theorem Zi:(Rows.laid_unicode_utf8_acceptRanges:DataW Unit)=acceptData:=by kernel_rfl
theorem alP:(Rows.laid_internal_strconv_uint64pow10:DataW Unit)=tabData .u64 pow10Tab:=by kernel_rfl
theorem adD:Tryz.Cl.g 3=2:=by kernel_rfl
theorem adE:Tryz.Cl.g 4=3:=by kernel_rfl
theorem aj3 {l:List (String × DataW Unit)} {W:World} (hm:∀p ∈ zj,p ∈ l) (eO:laidMet Tryz.prog l W) (rj:W.ShapedOpen Tryz.prog):HW W:=by
 have r:∀(n:String) (d:DataW Unit),(n,d) ∈ zj->VarReads Tryz.prog W n d:=fun n d h=>laidMet.reads eO (hm _ h);have aA:=r "unicode/utf8.first" Rows.laid_unicode_utf8_first (by simp [zj,Rows.typesAppliesUptoRow]);have a1:=r "unicode/utf8.acceptRanges" Rows.laid_unicode_utf8_acceptRanges (by simp [zj,Rows.typesAppliesUptoRow]);have aF:=r "strconv.ErrRange" Rows.laid_strconv_ErrRange (by simp [zj,Rows.typesAppliesUptoRow]);have ag:=r "internal/strconv.uint64pow10" Rows.laid_internal_strconv_uint64pow10 (by simp [zj,Rows.typesAppliesUptoRow]);rw [alP] at ag;rw [adu] at aA;rw [Zi] at a1;refine ⟨?_,?_,?_,?_⟩
 . have:=Go.Proofs.utf8Tabs_of_readsT aoe aod aA a1;rwa [adD,adE] at this
 . exact Go.Proofs.cell_of_shapedOpen_int rj (g:=0) (t:=3) (zero:=#[.int .i64 0]) (of_decide_eq_true (by kernel_rfl)) (by kernel_rfl) rfl (by kernel_rfl) (by kernel_rfl) Tryz.underlying3
 . exact ac5 (n:= "strconv.ErrRange") (t:=133) (by kernel_rfl) (by kernel_rfl) Tryz.underlying133 aF
 . exact anM (g:=1) (t:=197) (e:=166) (m:=20) (by kernel_rfl) (by kernel_rfl) (by kernel_rfl) (by kernel_rfl) (by kernel_rfl) (by kernel_rfl) ag
end
end Go.Proofs.YthemdhlheglhoaaGreatDoor
