/- The chapter's functions, walked by the abstract machine: plain lemmas, no condition. Printed by a program from longer texts: names made short. -/
import Derived.Test.YthemdhlheglhoaaGreatDoorM10
import Derived.Test.YthemdhlheglhoaaGreatDoorM14
import Derived.Test.YthemdhlheglhoaaGreatDoorM8
import Derived.Test.YthemdhlheglhoaaGreatDoorM15
import Derived.Test.YthemdhlheglhoaaGreatDoorM5
import Derived.Lay
import Derived.LaidLaws
import Derived.PinnedBridge
import Derived.Lib.LaidU8T
import Derived.Shelf.Vars
import Derived.MakeChecks
set_option linter.unusedSectionVars false
set_option linter.unusedSimpArgs false
set_option linter.unusedVariables false
namespace Go.Proofs.YthemdhlheglhoaaGreatDoor
open Go a6
theorem yF:Tryz.prog.cellsOf 35=4:=by kernel_rfl
theorem TR:Tryz.prog.cellsOf 22=1:=by kernel_rfl
theorem TS:Tryz.prog.cellsOf 9=1:=by kernel_rfl
theorem cells3:Tryz.prog.cellsOf 3=1:=by kernel_rfl
theorem M8:∀l:List aL,c2 l=(l.map aL.size).sum
 | []=>rfl
 | t::l=>by rw [c2,List.map_cons,List.sum_cons,M8 l]
theorem IL:Tryz.prog.cellsOf 47=5:=by kernel_rfl
set_option maxRecDepth 10000 in
theorem F0:∀(n:Nat) {m:Nat} {h:af} {ad:List V},da Tryz.prog h n m 35 ad→m≤1048576→∃t:aL,bV Any h t.enc ad∧ad.length=4∧t.size≤m
 | 0,m,h,ad,H,_=>H.elim
 | n+1,m,h,ad,H,hm=>by
   obtain ⟨gF,e,ai,ms,aa,ae,aI⟩:=H.struct Tryz.underlying35
   obtain rfl:n=gF:=by omega
   rw [yF] at ai
   match ad,ai with
   | [v0,v1,v3,v4],_=>
     have e4:ms.length=4:=aa
     clear aa
     match ms,e4 with
     | [m0,m1,m3,m4],_=>
       have f0:=(aI 0 _ _ rfl rfl).2
       have f1:=(aI 1 _ _ rfl rfl).2
       have f3:=(aI 2 _ _ rfl rfl).2
       have f4:=(aI 3 _ _ rfl rfl).2
       simp only [cells3,TS,TR] at f0 f1 f3 f4
       obtain ⟨i0,cz,_⟩:=f0.int Tryz.underlying3
       obtain ⟨i1,aN,_⟩:=f1.int Tryz.underlying3
       obtain ⟨j6,bT,gx⟩:=f3.str Tryz.underlying9
       obtain ⟨gr,h1,aaC,cP,dA,HJ⟩:=f4.slice Tryz.underlying22 (by rw [yF];decide)
       simp only [List.drop_zero,List.drop_succ_cons,List.take_succ_cons,List.take_zero,List.cons.injEq,and_true] at cz aN bT dA
       subst cz aN bT dA
       simp only [List.sum_cons,List.sum_nil] at ae
       rw [yF] at HJ
       obtain rfl:n=gr+1:=cP
       obtain ⟨l,_,aQ,L⟩:=ME aL.enc aL.size HJ (by omega) fun k ad ax q=>F0 gr q (by omega)
       refine ⟨.mk i0 i1 j6 l,?_,rfl,?_⟩
       · rw [qw]
         exact .i (.i (.s (by show j6.length≤top;unfold top;omega) (L.cons .nil)))
       · rw [aL.size,M8];omega
set_option maxRecDepth 10000 in
theorem aci (n:Nat) {m:Nat} {h:af} {ad:List V} (H:da Tryz.prog h n m 47 ad) (hm:m≤1048576):∃p:Int × aL,bV Any h (iu p) ad∧ad.length=5∧p.2.size≤m:=by
 match n,H with
 | 0,H=>exact H.elim
 | n+1,H=>
   obtain ⟨gF,e,ai,ms,aa,ae,aI⟩:=H.struct Tryz.underlying47
   obtain rfl:n=gF:=by omega
   rw [IL] at ai
   match ad,ai with
   | [v0,v1,v2,v3,v4],_=>
     have e4:ms.length=2:=aa
     clear aa
     match ms,e4 with
     | [m0,m1],_=>
       have f0:=(aI 0 _ _ rfl rfl).2
       have f1:=(aI 1 _ _ rfl rfl).2
       simp only [cells3,yF] at f0 f1
       obtain ⟨i0,cz,_⟩:=f0.int Tryz.underlying3
       simp only [List.drop_zero,List.take_succ_cons,List.take_zero,List.cons.injEq,and_true] at cz
       subst cz
       simp only [List.sum_cons,List.sum_nil] at ae
       simp only [List.drop_succ_cons,List.drop_zero,List.take_succ_cons,List.take_zero] at f1
       obtain ⟨t,Bo,_,st⟩:=F0 n f1 (by omega)
       exact ⟨(i0,t),.i Bo,rfl,by simp only;omega⟩
theorem QW {s:dV} {p:Int × aL} (h:p ∈ s):p.2.size≤(s.map fun p=>p.2.size).sum:=by
 induction s with
 | nil=>cases h
 | cons q s bh=>
   rw [List.map_cons,List.sum_cons]
   rcases List.mem_cons.1 h with rfl | h
   · omega
   · have:=bh h;omega
theorem H':∀s:dV,s.length≤(s.map fun p=>p.2.size).sum
 | []=>Nat.le_refl _
 | p::s=>by
   have:=H' s
   have:=oa p.2
   rw [List.map_cons,List.sum_cons,List.length_cons];omega
theorem acj {n m len:Nat} {h:af} {v:V} (S:yh h 5 v len m (fun k=>da Tryz.prog h n k 47)) (hm:m≤1048576):∃s:dV,s.length≤m∧(∀p ∈ s,p.2.size≤m)∧cZ Any h 5 (s.map iu) v:=by
 obtain ⟨s,_,aQ,L⟩:=ME iu (fun p:Int × aL=>p.2.size) S hm fun k ad ax q=>aci n q (by omega)
 exact ⟨s,by have:=H' s;omega,fun p ag=>by have:=QW ag;omega,L⟩
end Go.Proofs.YthemdhlheglhoaaGreatDoor
namespace Go.Proofs.YthemdhlheglhoaaGreatDoor
open Go a6 Go.RowKit Go.Proofs Go.Lib
abbrev uw:List (String × DataW Unit):=Rows.typesAppliesUptoRow.laid
theorem UY {n:String} {g:Nat} {t:TypeId} {ms:Array (String × TypeId)} {name:String} {d:DataW Unit} {W:World} (aE:Tryz.prog.globalNamed n=some g) (E4:(Tryz.prog.globals[g]?).map (·.type)=some t) (aD:Tryz.prog.underlying t=some (.interface ms))
 (h:VarReads Tryz.prog W n (.iface name d)):sT W g:=by
 obtain ⟨rE,ps,cs,fuel,p,aa,ae,aI,bo⟩:=h
 obtain rfl:=Option.some.inj (aE.symm.trans aa)
 obtain rfl:=Option.some.inj (E4.symm.trans ae)
 obtain ⟨_,u,v,eW,_,_⟩:=iface_of_trod aD bo
 refine ⟨.iface u v,?_,.inr ⟨u,v,rfl⟩⟩
 have:=World.var?_cell aE aI 0
 rw [this,←Array.getElem?_toList,eW]
 rfl
theorem aer {n:String} {g:Nat} {t e:TypeId} {m:Nat} {k:IntKind} {h2:List Int} {W:World} (aE:Tryz.prog.globalNamed n=some g) (E4:(Tryz.prog.globals[g]?).map (·.type)=some t) (aA:Tryz.prog.underlying t=some (.array m e)) (he:Tryz.prog.underlying e=some (.int k)) (Wy:Tryz.prog.cellsOf e=1) (WE:Tryz.prog.cellsOf t=m)
 (h:VarReads Tryz.prog W n (tabData k h2)):TabIs Tryz.prog W n k h2:=by
 obtain ⟨rE,ps,cs,fuel,p,aa,ae,aI,bo⟩:=h
 obtain rfl:=Option.some.inj (aE.symm.trans aa)
 obtain rfl:=Option.some.inj (E4.symm.trans ae)
 unfold TabIs
 rw [aI,←cells_of_tab aA he Wy WE bo]
theorem aeM:Go.Proofs.U8Types Tryz.prog Tryz.xa:=Go.Proofs.U8Types.of260 Tryz.aaO
theorem aeL:U8Extra Tryz.prog Tryz.xa:=⟨by kernel_rfl,by kernel_rfl,by kernel_rfl,by kernel_rfl,by kernel_rfl,by kernel_rfl,by kernel_rfl⟩
theorem Vl:(Rows.laid_unicode_utf8_first:DataW Unit)=firstData:=Pinned.utf8First_eq
theorem P1:(Rows.laid_unicode_utf8_acceptRanges:DataW Unit)=acceptData:=by kernel_rfl
theorem acH:(Rows.laid_internal_strconv_uint64pow10:DataW Unit)=tabData .u64 pow10Tab:=by kernel_rfl
theorem Vu:Tryz.xa.g 3=2:=by kernel_rfl
theorem Vv:Tryz.xa.g 4=3:=by kernel_rfl
theorem aa7 {l:List (String × DataW Unit)} {W:World} (hm:∀p ∈ uw,p ∈ l) (dW:laidMet Tryz.prog l W) (gB:W.ShapedOpen Tryz.prog):BG W:=by
 have r:∀(n:String) (d:DataW Unit),(n,d) ∈ uw→VarReads Tryz.prog W n d:=fun n d h=>laidMet.reads dW (hm _ h)
 have av:=r "unicode/utf8.first" Rows.laid_unicode_utf8_first (by simp [uw,Rows.typesAppliesUptoRow])
 have br:=r "unicode/utf8.acceptRanges" Rows.laid_unicode_utf8_acceptRanges (by simp [uw,Rows.typesAppliesUptoRow])
 have aG:=r "strconv.ErrRange" Rows.laid_strconv_ErrRange (by simp [uw,Rows.typesAppliesUptoRow])
 have ag:=r "internal/strconv.uint64pow10" Rows.laid_internal_strconv_uint64pow10 (by simp [uw,Rows.typesAppliesUptoRow])
 rw [acH] at ag
 rw [Vl] at av
 rw [P1] at br
 refine ⟨?_,?_,?_,?_⟩
 · have:=Go.Proofs.utf8Tabs_of_readsT aeM aeL av br
   rwa [Vu,Vv] at this
 · exact Go.Proofs.cell_of_shapedOpen_int gB (g:=0) (t:=3) (zero:=#[.int .i64 0]) (of_decide_eq_true (by kernel_rfl)) (by kernel_rfl) rfl (by kernel_rfl) (by kernel_rfl) Tryz.underlying3
 · exact UY (n:= "strconv.ErrRange") (t:=133) (by kernel_rfl) (by kernel_rfl) Tryz.underlying133 aG
 · exact aer (g:=1) (t:=197) (e:=166) (m:=20) (by kernel_rfl) (by kernel_rfl) (by kernel_rfl) (by kernel_rfl) (by kernel_rfl) (by kernel_rfl) ag
end Go.Proofs.YthemdhlheglhoaaGreatDoor
