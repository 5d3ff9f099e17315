/- The chapter's functions, walked by the abstract machine: plain lemmas, no condition. Printed by a program from longer texts: names made short. -/
import Derived.Test.YthemdhlheglhoaaGreatDoorM10
import Derived.Test.YthemdhlheglhoaaGreatDoorM14
import Derived.Test.YthemdhlheglhoaaGreatDoorM8
import Derived.Test.YthemdhlheglhoaaGreatDoorM18
import Derived.Test.YthemdhlheglhoaaGreatDoorM4
import Derived.Lay
import Derived.LaidLaws
import Derived.PinnedBridge
import Derived.Lib.LaidU8T
import Derived.Shelf.Vars
import Derived.MakeChecks
set_option linter.unusedSectionVars false
set_option linter.unusedSimpArgs false
set_option linter.unusedVariables false
set_option maxHeartbeats 64000000
noncomputable section
namespace Go.Proofs.YthemdhlheglhoaaGreatDoor
section
open Go aY
theorem D5:Tryz.prog.cellsOf 35=4:=by kernel_rfl
theorem aby:Tryz.prog.cellsOf 22=1:=by kernel_rfl
theorem abz:Tryz.prog.cellsOf 9=1:=by kernel_rfl
theorem cells3:Tryz.prog.cellsOf 3=1:=by kernel_rfl
theorem VG:∀l:List an,cN l=(l.map an.size).sum
 | []=>rfl
 | t::l=>by rw [cN,List.map_cons,List.sum_cons,VG l]
theorem QB:Tryz.prog.cellsOf 47=5:=by kernel_rfl
set_option maxRecDepth 10000 in
theorem Gj:∀(n:Nat) {m:Nat} {h:ah} {ag:List V},dC Tryz.prog h n m 35 ag->m<=1048576->∃t:an,b5 Any h t.enc ag/\ag.length=4/\t.size<=m
 | 0,m,h,ag,H,_=>H.elim
 | n+1,m,h,ag,H,hm=>by
   obtain ⟨fW,e,az,ms,aa,ad,aH⟩:=H.struct Tryz.underlying35;obtain rfl:n=fW:=by omega
   rw [D5] at az
   match ag,az with
   | [v0,v1,v3,v4],_=>
     have il:ms.length=4:=aa;clear aa
     match ms,il with
     | [m0,m1,m3,m4],_=>
       have f0:=(aH 0 _ _ rfl rfl).2;have f1:=(aH 1 _ _ rfl rfl).2;have f3:=(aH 2 _ _ rfl rfl).2;have f4:=(aH 3 _ _ rfl rfl).2;simp only [cells3,abz,aby] at f0 f1 f3 f4;obtain ⟨i0,cz,_⟩:=f0.int Tryz.underlying3;obtain ⟨i1,aN,_⟩:=f1.int Tryz.underlying3;obtain ⟨np,bJ,gk⟩:=f3.str Tryz.underlying9;obtain ⟨e8,hv,ajt,eJ,dR,OI⟩:=f4.slice Tryz.underlying22 (by rw [D5];decide);simp only [List.drop_zero,List.drop_succ_cons,List.take_succ_cons,List.take_zero,List.cons.injEq,and_true] at cz aN bJ dR;subst cz aN bJ dR;simp only [List.sum_cons,List.sum_nil] at ad;rw [D5] at OI;obtain rfl:n=e8+1:=eJ;obtain ⟨l,_,aM,L⟩:=U8 an.enc an.size OI (by omega) fun k ag aD q=>Gj e8 q (by omega);refine ⟨.mk i0 i1 np l,?_,rfl,?_⟩
       . rw [zC];exact .i (.i (.s (by show np.length<=top;unfold top;omega) (L.cons .nil)))
       . rw [an.size,VG];omega
set_option maxRecDepth 10000 in
theorem alr (n:Nat) {m:Nat} {h:ah} {ag:List V} (H:dC Tryz.prog h n m 47 ag) (hm:m<=1048576):∃p:Int × an,b5 Any h (lu p) ag/\ag.length=5/\p.2.size<=m:=by
 match n,H with
 | 0,H=>exact H.elim
 | n+1,H=>
   obtain ⟨fW,e,az,ms,aa,ad,aH⟩:=H.struct Tryz.underlying47;obtain rfl:n=fW:=by omega
   rw [QB] at az
   match ag,az with
   | [v0,v1,v2,v3,v4],_=>
     have il:ms.length=2:=aa;clear aa
     match ms,il with
     | [m0,m1],_=>
       have f0:=(aH 0 _ _ rfl rfl).2;have f1:=(aH 1 _ _ rfl rfl).2;simp only [cells3,D5] at f0 f1;obtain ⟨i0,cz,_⟩:=f0.int Tryz.underlying3;simp only [List.drop_zero,List.take_succ_cons,List.take_zero,List.cons.injEq,and_true] at cz;subst cz;simp only [List.sum_cons,List.sum_nil] at ad;simp only [List.drop_succ_cons,List.drop_zero,List.take_succ_cons,List.take_zero] at f1;obtain ⟨t,Ye,_,st⟩:=Gj n f1 (by omega);exact ⟨(i0,t),.i Ye,rfl,by simp only;omega⟩
theorem aam {s:dn} {p:Int × an} (h:p ∈ s):p.2.size<=(s.map fun p=>p.2.size).sum:=by
 induction s with
 | nil=>cases h
 | cons q s bd=>
   rw [List.map_cons,List.sum_cons];rcases List.mem_cons.1 h with rfl | h
   . omega
   . have:=bd h;omega
theorem Pq:∀s:dn,s.length<=(s.map fun p=>p.2.size).sum
 | []=>Nat.le_refl _
 | p::s=>by have:=Pq s;have:=rm p.2;rw [List.map_cons,List.sum_cons,List.length_cons];omega
theorem als {n m len:Nat} {h:ah} {v:V} (S:Dw h 5 v len m (fun k=>dC Tryz.prog h n k 47)) (hm:m<=1048576):∃s:dn,s.length<=m/\(∀p ∈ s,p.2.size<=m)/\dj Any h 5 (s.map lu) v:=by obtain ⟨s,_,aM,L⟩:=U8 lu (fun p:Int × an=>p.2.size) S hm fun k ag aD q=>alr n q (by omega);exact ⟨s,by have:=Pq s;omega,fun p af=>by have:=aam af;omega,L⟩
end
section
open Go aY Go.RowKit Go.Proofs Go.Lib
abbrev zh:List (String × DataW Unit):=Rows.typesAppliesUptoRow.laid
theorem acO {n:String} {g:Nat} {t:TypeId} {ms:Array (String × TypeId)} {name:String} {d:DataW Unit} {W:World} (aF:Tryz.prog.globalNamed n=some g) (La:(Tryz.prog.globals[g]?).map (·.type)=some t) (aq:Tryz.prog.underlying t=some (.interface ms))
 (h:VarReads Tryz.prog W n (.iface name d)):xI W g:=by
 obtain ⟨cQ,s7,cs,fuel,p,aa,ad,aH,bt⟩:=h;obtain rfl:=Option.some.inj (aF.symm.trans aa);obtain rfl:=Option.some.inj (La.symm.trans ad);obtain ⟨_,u,v,hh,_,_⟩:=iface_of_trod aq bt;refine ⟨.iface u v,?_,.inr ⟨u,v,rfl⟩⟩;have:=World.var?_cell aF aH 0;rw [this,<-Array.getElem?_toList,hh];rfl
theorem anB {n:String} {g:Nat} {t e:TypeId} {m:Nat} {k:IntKind} {iF:List Int} {W:World} (aF:Tryz.prog.globalNamed n=some g) (La:(Tryz.prog.globals[g]?).map (·.type)=some t) (au:Tryz.prog.underlying t=some (.array m e)) (he:Tryz.prog.underlying e=some (.int k)) (aeG:Tryz.prog.cellsOf e=1) (aeM:Tryz.prog.cellsOf t=m)
 (h:VarReads Tryz.prog W n (tabData k iF)):TabIs Tryz.prog W n k iF:=by
 obtain ⟨cQ,s7,cs,fuel,p,aa,ad,aH,bt⟩:=h;obtain rfl:=Option.some.inj (aF.symm.trans aa);obtain rfl:=Option.some.inj (La.symm.trans ad);unfold TabIs;rw [aH,<-cells_of_tab au he aeG aeM bt]
theorem an7:Go.Proofs.U8Types Tryz.prog Tryz.BZ:=Go.Proofs.U8Types.of260 Tryz.ajH
theorem an6:U8Extra Tryz.prog Tryz.BZ:=⟨by kernel_rfl,by kernel_rfl,by kernel_rfl,by kernel_rfl,by kernel_rfl,by kernel_rfl,by kernel_rfl⟩
theorem adb:(Rows.laid_unicode_utf8_first:DataW Unit)=firstData:=Pinned.utf8First_eq
theorem Zk:(Rows.laid_unicode_utf8_acceptRanges:DataW Unit)=acceptData:=by kernel_rfl
theorem alS:(Rows.laid_internal_strconv_uint64pow10:DataW Unit)=tabData .u64 pow10Tab:=by kernel_rfl
theorem ado:Tryz.BZ.g 3=2:=by kernel_rfl
theorem adp:Tryz.BZ.g 4=3:=by kernel_rfl
theorem ajZ {l:List (String × DataW Unit)} {W:World} (hm:∀p ∈ zh,p ∈ l) (eY:laidMet Tryz.prog l W) (nZ:W.ShapedOpen Tryz.prog):H4 W:=by
 have r:∀(n:String) (d:DataW Unit),(n,d) ∈ zh->VarReads Tryz.prog W n d:=fun n d h=>laidMet.reads eY (hm _ h);have aB:=r "unicode/utf8.first" Rows.laid_unicode_utf8_first (by simp [zh,Rows.typesAppliesUptoRow]);have aV:=r "unicode/utf8.acceptRanges" Rows.laid_unicode_utf8_acceptRanges (by simp [zh,Rows.typesAppliesUptoRow]);have aG:=r "strconv.ErrRange" Rows.laid_strconv_ErrRange (by simp [zh,Rows.typesAppliesUptoRow]);have af:=r "internal/strconv.uint64pow10" Rows.laid_internal_strconv_uint64pow10 (by simp [zh,Rows.typesAppliesUptoRow]);rw [alS] at af;rw [adb] at aB;rw [Zk] at aV;refine ⟨?_,?_,?_,?_⟩
 . have:=Go.Proofs.utf8Tabs_of_readsT an7 an6 aB aV;rwa [ado,adp] at this
 . exact Go.Proofs.cell_of_shapedOpen_int nZ (g:=0) (t:=3) (zero:=#[.int .i64 0]) (of_decide_eq_true (by kernel_rfl)) (by kernel_rfl) rfl (by kernel_rfl) (by kernel_rfl) Tryz.underlying3
 . exact acO (n:= "strconv.ErrRange") (t:=133) (by kernel_rfl) (by kernel_rfl) Tryz.underlying133 aG
 . exact anB (g:=1) (t:=197) (e:=166) (m:=20) (by kernel_rfl) (by kernel_rfl) (by kernel_rfl) (by kernel_rfl) (by kernel_rfl) (by kernel_rfl) af
end
end Go.Proofs.YthemdhlheglhoaaGreatDoor
