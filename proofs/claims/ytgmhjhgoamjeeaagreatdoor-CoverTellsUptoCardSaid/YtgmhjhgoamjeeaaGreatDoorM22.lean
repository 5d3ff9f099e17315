/- The chapter's functions, walked by the abstract machine: plain lemmas, no condition. Printed by a program from longer texts: names made short. -/
import Derived.Test.YtgmhjhgoamjeeaaGreatDoorM14
import Derived.Test.YtgmhjhgoamjeeaaGreatDoorM21
import Derived.Test.YtgmhjhgoamjeeaaGreatDoorM4
import Derived.Test.YtgmhjhgoamjeeaaGreatDoorM6
import Derived.Test.YtgmhjhgoamjeeaaGreatDoorM10
import Derived.Lay
import Derived.LaidLaws
import Derived.PinnedBridge
import Derived.Lib.LaidU8T
import Derived.Shelf.Vars
import Derived.MakeChecks
set_option linter.unusedSectionVars false
set_option linter.unusedSimpArgs false
set_option linter.unusedVariables false
set_option maxHeartbeats 64000000
noncomputable section
namespace Go.Proofs.YtgmhjhgoamjeeaaGreatDoor
section
open Go a7
theorem Ee:Tryz.prog.cellsOf 25=5:=by kernel_rfl
theorem aaH:Tryz.prog.cellsOf 23=1:=by kernel_rfl
theorem Is:Tryz.prog.cellsOf 9=1:=by kernel_rfl
theorem cells3:Tryz.prog.cellsOf 3=1:=by kernel_rfl
theorem Qq:Tryz.prog.cellsOf 90=5:=by kernel_rfl
theorem Qp:Tryz.prog.cellsOf 88=1:=by kernel_rfl
theorem Ba:Tryz.prog.cellsOf 94=4:=by kernel_rfl
theorem LP:∀l:List aE,b0 l=(l.map aE.size).sum
 | []=>rfl
 | t::l=>by rw [b0,are,ar7,LP l]
set_option maxRecDepth 10000 in
theorem Lt:∀(n:Nat) {m:Nat} {h:ag} {ah:List V},dB Tryz.prog h n m 25 ah->m<=1048576->∃t:aE,cb Any h t.enc ah/\ah.length=5/\t.size<=m
 | 0,m,h,ah,H,_=>H.elim
 | n+1,m,h,ah,H,hm=>by
   obtain ⟨hn,e,aw,ms,aa,ae,aM⟩:=H.struct Tryz.underlying25;obtain rfl:n=hn:=by omega
   rw [Ee] at aw
   match ah,aw with
   | [v0,v1,v2,v3,v4],_=>
     have fF:ms.length=5:=aa;clear aa
     match ms,fF with
     | [m0,m1,m2,m3,m4],_=>
       have f0:=(aM 0 _ _ rfl rfl).2;have f1:=(aM 1 _ _ rfl rfl).2;have f2:=(aM 2 _ _ rfl rfl).2;have f3:=(aM 3 _ _ rfl rfl).2;have f4:=(aM 4 _ _ rfl rfl).2;simp only [cells3,Is,aaH] at f0 f1 f2 f3 f4;obtain ⟨i0,cA,_⟩:=f0.int Tryz.underlying3;obtain ⟨i1,ax,_⟩:=f1.int Tryz.underlying3;obtain ⟨i2,aH,_⟩:=f2.int Tryz.underlying3;obtain ⟨jO,bA,dR⟩:=f3.str Tryz.underlying9;obtain ⟨dv,ic,TD,d_,b5,ks⟩:=f4.slice Tryz.underlying23 (by rw [Ee];decide);simp only [ara,arH,ari,asw,arS,ast] at cA ax aH bA b5;subst cA ax aH bA b5;simp only [ar7,List.sum_nil] at ae;rw [Ee] at ks;obtain rfl:n=dv+1:=d_;obtain ⟨l,_,aO,L⟩:=UT aE.enc aE.size ks (by omega) fun k ah aA q=>Lt dv q (by omega);refine ⟨.mk i0 i1 i2 jO l,?_,rfl,?_⟩
       . rw [xn];exact .i (.i (.i (.s (by show jO.length<=top;unfold top;omega) (L.cons .nil))))
       . rw [aE.size,LP];omega
theorem akJ {n m len:Nat} {h:ag} {v:V} (S:x_ h 5 v len m (fun k=>dB Tryz.prog h n k 25)) (hm:m<=1048576):∃l:List aE,b0 l<=m/\bB Any h 5 (l.map aE.enc) v:=by obtain ⟨l,_,aO,L⟩:=UT aE.enc aE.size S hm fun k ah aA q=>Lt n q (by omega);exact ⟨l,by rw [LP];omega,L⟩
set_option maxRecDepth 10000 in
theorem UU:∀(n:Nat) {m:Nat} {h:ag} {ah:List V},dB Tryz.prog h n m 94 ah->m<=1048576->∃t:List D,cb Any h (id t) ah/\ah.length=4
 | 0,m,h,ah,H,_=>H.elim
 | n+1,m,h,ah,H,hm=>by
   obtain ⟨hn,e,aw,ms,aa,ae,aM⟩:=H.struct Tryz.underlying94;obtain rfl:n=hn:=by omega
   rw [Ba] at aw
   match ah,aw with
   | [v0,v1,v3,v4],_=>
     have fF:ms.length=4:=aa;clear aa
     match ms,fF with
     | [m0,m1,m3,m4],_=>
       have f0:=(aM 0 _ _ rfl rfl).2;have f1:=(aM 1 _ _ rfl rfl).2;have f3:=(aM 2 _ _ rfl rfl).2;have f4:=(aM 3 _ _ rfl rfl).2;simp only [cells3,Is,Qp] at f0 f1 f3 f4;obtain ⟨i0,cA,_⟩:=f0.int Tryz.underlying3;obtain ⟨i1,ax,_⟩:=f1.int Tryz.underlying3;obtain ⟨jO,bA,dR⟩:=f3.str Tryz.underlying9;obtain ⟨dv,ic,TD,d_,b5,ks⟩:=f4.slice Tryz.underlying88 (by rw [Ba];decide);simp only [ara,arH,ari,asw,arS,ast] at cA ax bA b5;subst cA ax bA b5;simp only [ar7,List.sum_nil] at ae;rw [Ba] at ks;obtain rfl:n=dv+1:=d_;obtain ⟨l,_,aO,L⟩:=Ls id ks (by omega) fun k ah aA q=>UU dv q (by omega);exact ⟨_,.i (.i (.s (by show jO.length<=top;unfold top;omega) (L.cons .nil))),rfl⟩
set_option maxRecDepth 10000 in
theorem akH (n:Nat) {m:Nat} {h:ag} {ah:List V} (H:dB Tryz.prog h n m 90 ah) (hm:m<=1048576):∃c:b2,cb Any h c.enc ah/\ah.length=5:=by
 obtain ⟨hn,e,aw,ms,aa,ae,aM⟩:=H.struct Tryz.underlying90;rw [Qq] at aw
 match ah,aw with
 | [v0,v1,v2,v3,v4],_=>
   have fF:ms.length=5:=aa;clear aa
   match ms,fF with
   | [m0,m1,m2,m3,m4],_=>
     have f0:=(aM 0 _ _ rfl rfl).2;have f1:=(aM 1 _ _ rfl rfl).2;have f2:=(aM 2 _ _ rfl rfl).2;have f3:=(aM 3 _ _ rfl rfl).2;have f4:=(aM 4 _ _ rfl rfl).2;simp only [cells3,Is,Qp] at f0 f1 f2 f3 f4;obtain ⟨Mf,cA,jC⟩:=f0.str Tryz.underlying9;obtain ⟨s1,ax,bM⟩:=f1.str Tryz.underlying9;obtain ⟨i2,aH,_⟩:=f2.int Tryz.underlying3;obtain ⟨i3,bA,_⟩:=f3.int Tryz.underlying3;obtain ⟨dv,ic,TD,d_,b5,ks⟩:=f4.slice Tryz.underlying88 (by rw [Ba];decide);simp only [ara,arH,ari,asw,arS,ast] at cA ax aH bA b5;subst cA ax aH bA b5;simp only [ar7,List.sum_nil] at ae;rw [Ba] at ks;obtain ⟨l,_,_,L⟩:=Ls id ks (by omega) fun k ah aA q=>UU dv q (by omega);rw [List.map_id] at L;exact ⟨⟨Mf,s1,i2,i3,l⟩,.s (by show Mf.length<=top;unfold top;omega) (.s (by show s1.length<=top;unfold top;omega) (.i (.i (L.cons .nil)))),rfl⟩
theorem akI {n m len:Nat} {h:ag} {v:V} (S:x_ h 5 v len m (fun k=>dB Tryz.prog h n k 90)) (hm:m<=1048576):∃l:List b2,l.length<=m/\bB Any h 5 (l.map b2.enc) v:=by obtain ⟨l,_,aO,L⟩:=Ls b2.enc S hm fun k ah aA q=>akH n q (by omega);exact ⟨l,by omega,L⟩
end
section
open Go a7 Go.RowKit Go.Proofs Go.Lib
abbrev Cm:List (String × DataW Unit):=Rows.coverTellsUptoRow.laid
theorem acb {n:String} {g:Nat} {t:TypeId} {ms:Array (String × TypeId)} {name:String} {d:DataW Unit} {W:World} (aL:Tryz.prog.globalNamed n=some g) (nc:(Tryz.prog.globals[g]?).map (·.type)=some t) (aB:Tryz.prog.underlying t=some (.interface ms))
 (h:VarReads Tryz.prog W n (.iface name d)):xT W g:=by
 obtain ⟨dI,xF,cs,fuel,p,aa,ae,aM,bw⟩:=h;obtain rfl:=ars (aL.symm.trans aa);obtain rfl:=ars (nc.symm.trans ae);obtain ⟨_,u,v,hD,_,_⟩:=iface_of_trod aB bw;refine ⟨.iface u v,?_,.inr ⟨u,v,rfl⟩⟩;have:=World.var?_cell aL aM 0;rw [this,<-arR,hD];rfl
theorem anA:Go.Proofs.U8Types Tryz.prog Tryz.Cn:=Go.Proofs.U8Types.of260 Tryz.aiP
theorem anz:U8Extra Tryz.prog Tryz.Cn:=⟨by kernel_rfl,by kernel_rfl,by kernel_rfl,by kernel_rfl,by kernel_rfl,by kernel_rfl,by kernel_rfl⟩
theorem acC:(Rows.laid_unicode_utf8_first:DataW Unit)=firstData:=Pinned.utf8First_eq
theorem X':(Rows.laid_unicode_utf8_acceptRanges:DataW Unit)=acceptData:=by kernel_rfl
theorem acM:Tryz.Cn.g 3=0:=by kernel_rfl
theorem acN:Tryz.Cn.g 4=1:=by kernel_rfl
theorem ajb {l:List (String × DataW Unit)} {W:World} (hm:∀p ∈ Cm,p ∈ l) (c0:laidMet Tryz.prog l W) (B7:W.ShapedOpen Tryz.prog):HB W:=by
 have r:∀(n:String) (d:DataW Unit),(n,d) ∈ Cm->VarReads Tryz.prog W n d:=fun n d h=>laidMet.reads c0 (hm _ h);have aF:=r "unicode/utf8.first" Rows.laid_unicode_utf8_first (by simp [Cm,Rows.coverTellsUptoRow]);have bp:=r "unicode/utf8.acceptRanges" Rows.laid_unicode_utf8_acceptRanges (by simp [Cm,Rows.coverTellsUptoRow]);have aD:=r "strconv.ErrRange" Rows.laid_strconv_ErrRange (by simp [Cm,Rows.coverTellsUptoRow]);rw [acC] at aF;rw [X'] at bp;refine ⟨?_,?_,?_⟩
 . have:=Go.Proofs.utf8Tabs_of_readsT anA anz aF bp;rwa [acM,acN] at this
 . exact Go.Proofs.cell_of_shapedOpen_int B7 (g:=2) (t:=3) (zero:=#[.int .i64 0]) (of_decide_eq_true (by kernel_rfl)) (by kernel_rfl) rfl (by kernel_rfl) (by kernel_rfl) Tryz.underlying3
 . exact acb (n:= "strconv.ErrRange") (t:=190) (by kernel_rfl) (by kernel_rfl) Tryz.underlying190 aD
end
end Go.Proofs.YtgmhjhgoamjeeaaGreatDoor
