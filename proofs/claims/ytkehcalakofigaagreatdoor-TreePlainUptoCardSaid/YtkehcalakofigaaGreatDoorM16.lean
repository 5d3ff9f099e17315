/- The chapter's functions, walked by the abstract machine: plain lemmas, no condition. Printed by a program from longer texts: names made short. -/
import Derived.Test.YtkehcalakofigaaGreatDoorM10
import Derived.Test.YtkehcalakofigaaGreatDoorM15
import Derived.Test.YtkehcalakofigaaGreatDoorM14
import Derived.Test.YtkehcalakofigaaGreatDoorM6
import Derived.Test.YtkehcalakofigaaGreatDoorM4
set_option linter.unusedSectionVars false
set_option linter.unusedSimpArgs false
set_option linter.unusedVariables false
namespace Go.Proofs.YtkehcalakofigaaGreatDoor
open Go aS
mutual
def aL.plain:aL→aL
 | .mk k n a s l=>.mk k n 0 s (ft l)
def ft:List aL→List aL
 | []=>[]
 | t::l=>t.plain::ft l
end
theorem BR:∀l:List aL,ft l=l.map aL.plain
 | []=>rfl
 | t::l=>by rw [ft,BR l,List.map_cons]
theorem oH (t:aL):t.plain=.mk t.k t.n 0 t.s (t.l.map aL.plain):=by cases t;rw [aL.plain,BR];rfl
mutual
theorem OV:∀t:aL,t.plain.size=t.size
 | .mk k n a s l=>by rw [aL.plain,aL.size,aL.size,O2 l]
theorem O2:∀l:List aL,dD (ft l)=dD l
 | []=>rfl
 | t::l=>by rw [ft,dD,dD,OV t,O2 l]
end
section
variable [Lay]
inductive gn (h:af):(aO→Prop)→List aL→V→Prop
 | mk {S:aO→Prop} {l:List aL} {v:V} (us:List (List V)) (ws:Nat→V) (ka:Nat→aO→Prop) (o:ej 0 h 5 v l.length us.flatten) (hu:us.length=l.length) (aZ:l.length≤top)
    (cells:∀(i:Nat) (t:aL),l[i]? =some t→us[i]? =some [.int .i64 t.k,.int .i64 t.n,.int .i64 t.a,.str t.s,ws i]∧t.s.length≤top)
    (kids:∀(i:Nat) (t:aL),l[i]? =some t→gn h (ka i) t.l (ws i)) (bp:∀b,v.a_ b→S b) (dP:∀(i:Nat) (b:aO),i<l.length→ka i b→S b∧¬v.a_ b)
    (apart:∀(i j:Nat) (b:aO),i<l.length→j<l.length→i≠j→ka i b→¬ka j b):gn h S l v
variable {h ab:af} {S:aO→Prop} {l:List aL} {v:V}
theorem gn.nil (h:af) (S:aO→Prop):gn h S [] .b4:=
 .mk [] (fun _=>.b4) (fun _ _=>False) ⟨by simp,rfl⟩ rfl (Nat.zero_le _) (fun i t q=>by simp at q) (fun i t q=>by simp at q) (fun b q=>q.elim) (fun i b q=>absurd q (Nat.not_lt_zero _)) (fun i j b q=>absurd q (Nat.not_lt_zero _))
theorem gn.mod {M:aO→Prop} (H:gn h S l v) (m:Mod M h ab) (cO:∀b,S b→¬M b):gn ab S l v:=by
 induction H with
 | mk us ws ka o hu aZ cells kids bp dP apart bf=>
   exact .mk us ws ka (o.mod m fun b q=>cO b (bp b q)) hu aZ cells (fun i t q=>bf i t q fun b z=>cO b (dP i b (by obtain ⟨aq,_⟩:=List.getElem?_eq_some_iff.1 q;exact aq) z).1) bp dP apart
theorem gn.ext (H:gn h S l v) (e:Ext h ab):gn ab S l v:=by
 induction H with
 | mk us ws ka o hu aZ cells kids bp dP apart bf=>exact .mk us ws ka (o.ext e) hu aZ cells bf bp dP apart
theorem gn.iX {zs:aO→Prop} (H:gn h S l v) (w:∀b,S b→zs b):gn h zs l v:=by
 cases H with
 | mk us ws ka o hu aZ cells kids bp dP apart=>exact .mk us ws ka o hu aZ cells kids (fun b q=>w b (bp b q)) (fun i b q z=>⟨w b (dP i b q z).1,(dP i b q z).2⟩) apart
theorem gn.e8 {F:aO→Prop} (H:gn h S l v) (w:∀b,S b→F b):ch F h 5 (l.map aL.enc) v:=by
 induction H with
 | mk us ws ka o hu aZ cells kids bp dP apart bf=>
   refine ⟨o.room,by rw [List.length_map];exact aZ,⟨us,by rw [List.length_map];exact o.v,by rw [List.length_map];exact hu,fun u q=>?_,fun i e u aq av=>?_⟩,fun b q=>w b (bp b q)⟩
   · obtain ⟨i,az,rfl⟩:=List.getElem_of_mem q
     have:=(cells i _ (List.getElem?_eq_getElem (by omega))).1
     rw [List.getElem?_eq_getElem az] at this
     rw [Option.some.inj this];rfl
   · rw [List.getElem?_map] at aq
     cases aD:(_:List aL)[i]? with
     | none=>rw [aD] at aq;cases aq
     | some t=>
       rw [aD] at aq
       simp only [Option.map_some,Option.some.injEq] at aq
       subst aq
       obtain ⟨bs,bN⟩:=cells i t aD
       rw [bs] at av
       cases av
       rw [ys]
       have az:i<_:=(List.getElem?_eq_some_iff.1 aD).1
       exact .i (.i (.i (.s bN ((bf i t aD fun b z=>w b (dP i b az z).1).cons .nil))))
theorem gn.one (H:gn h S l v):v.one=true∧v.cells=[v]∧v.eW=true:=by
 cases H with
 | mk us ws ka o hu aZ cells kids bp dP apart=>exact o.v.one
theorem gn.bp (H:gn h S l v):∀b,v.a_ b→S b:=by
 cases H with
 | mk us ws ka o hu aZ cells kids bp dP apart=>exact bp
theorem gn.add {T:aO→Prop} {t:aL} {u:V} (H:gn h S l v) (E:gn h T t.l u) (AG:∀b,S b→¬T b) (mY:∀b,S b→Old h b) (uD:∀b,T b→Old h b) (hlen:(l.length+1) * 5≤top) (aQ:t.s.length≤top):
 ∃eh ab,lz 5 v (.slice (ay h.next) 0 1 1) (h.new (.bq [.int .i64 t.k,.int .i64 t.n,.int .i64 t.a,.str t.s,u] 0 false))=.val eh ab∧gn ab (fun b=>S b∨T b∨(h.next≤b8 b∧b8 b<ab.next)) (l++[t]) eh∧Mod v.a_ h ab∧h.next+1≤ab.next:=by
 have BJ:=E.one
 cases H with
 | mk us ws ka o hu aZ cells kids bp dP apart=>
   obtain ⟨eh,ab,aq,av,aK,bD,dr⟩:=zC (cs:=[.int .i64 t.k,.int .i64 t.n,.int .i64 t.a,.str t.s,u]) (by omega) o (Nat.zero_le _) hlen rfl (by simp only [ed,Ow,Hv,BJ.1,Bool.and_self,Bool.and_true])
   have MN:∀b,eh.a_ b→¬v.a_ b→¬Old h b:=fun b z z2=>by
    rcases dr b z with z | z
    · exact absurd z z2
    · unfold Old;omega
   have snoc:∀(i:Nat) (s:aL),(l++[t])[i]? =some s→(i<l.length∧l[i]? =some s)∨(i=l.length∧s=t):=fun i s q=>Xz q
   refine ⟨eh,ab,aq,.mk (us++[[.int .i64 t.k,.int .i64 t.n,.int .i64 t.a,.str t.s,u]]) (fun i=>if i<l.length then ws i else u) (fun i=>if i<l.length then ka i else T) ?_ (by simp [hu]) (by rw [List.length_append,List.length_singleton];omega) (fun i s q=>?_) (fun i s q=>?_) (fun b z=>?_) (fun i b az z=>?_) (fun i j b az bI k0 z=>?_),aK,bD⟩
   · rw [List.length_append,List.length_singleton,List.flatten_append]
     simpa using av
   · rcases snoc i s q with ⟨aa,ae⟩ | ⟨aa,rfl⟩
     · rw [if_pos aa,List.getElem?_append_left (by omega)]
       exact cells i s ae
     · subst aa
       rw [if_neg (by omega),List.getElem?_append_right (by omega),hu,Nat.sub_self]
       exact ⟨rfl,aQ⟩
   · rcases snoc i s q with ⟨aa,ae⟩ | ⟨aa,rfl⟩
     · simp only [if_pos aa]
       exact (kids i s ae).mod aK fun b z=>(dP i b aa z).2
     · subst aa
       simp only [Nat.lt_irrefl,if_false]
       exact E.mod aK fun b z z2=>AG b (bp b z2) z
   · have aR:=av.v.bR z
     rcases dr b z with z | z
     · exact .inl (bp b z)
     · exact .inr (.inr (by unfold Old at aR;omega))
   · by_cases aa:i<l.length
     · rw [if_pos aa] at z
       obtain ⟨a,c⟩:=dP i b aa z
       exact ⟨.inl a,fun z2=>MN b z2 c (mY b a)⟩
     · rw [if_neg aa] at z
       exact ⟨.inr (.inl z),fun z2=>MN b z2 (fun z3=>AG b (bp b z3) z) (uD b z)⟩
   · rw [List.length_append,List.length_singleton] at az bI
     by_cases aa:i<l.length
     · rw [if_pos aa] at z
       by_cases ae:j<l.length
       · rw [if_pos ae]
         exact apart i j b aa ae k0 z
       · rw [if_neg ae]
         exact AG b (dP i b aa z).1
     · rw [if_neg aa] at z
       rw [if_pos (by omega)]
       exact fun z2=>AG b (dP j b (by omega) z2).1 z
end
def l4 (a b:Nat) (p:aO):Prop:=a≤b8 p∧b8 p<b
set_option maxHeartbeats 2000000 in
theorem HH:∀(N:Nat) (t:aL),t.size≤N→N≤1000000000→∀(ad:List V) (h:af),b9 Any h t.enc ad→bM Tryz.prog 19 [.agg ad] h fun x ab=>∃w,x=.agg [.int .i64 t.k,.int .i64 t.n,.int .i64 0,.str t.s,w]∧gn ab (l4 h.next ab.next) (t.l.map aL.plain) w∧Ext h ab
 | 0,t,aQ,_,_,_,_=>by have:=ri t;omega
 | N+1,t,aQ,Fe,ad,h,H=>by
   obtain ⟨cH,rfl,L,_⟩:=aL.open H
   have bx:N≤1000000000:=by omega
   have ol:=L.one
   have ai:=L.len
   have hle:=L.le
   rw [List.length_map] at ai hle
   have b5:=size_eq t
   have h5:=p2 t.l
   refine TW rfl (dt ?_)
   unfold DU
   obtain ⟨aa,aq,aN,dw⟩:=gO h [.int .i64 t.k,.int .i64 t.n,.int .i64 t.a,.str t.s,cH]
   obtain ⟨ae,av,aY,Jn⟩:=gO aa [.int .i64 0,.int .i64 0,.int .i64 0,.str [],.b4]
   obtain ⟨aF,aK,cz,Jl⟩:=gZ ae [.int .i64 0,.int .i64 0,.int .i64 0,.str [],.b4] [.int .i64 t.k,.int .i64 t.n,.int .i64 0,.str t.s,.b4]
   have cS:=dw.ext aY
   have oU:=cS.ext cz
   have RD:=Jn.ext cz
   have c1:=aN.next
   have hO:=aY.next
   have bH:=dw.lt
   have bZ:=Jn.lt
   have Od:=Jl.lt
   simp +contextual only [ol.1,ol.2.1,aq,av,aK,dw.g,cS.g,oU.g,ai,↓aw,aJ,simprocAttr]
   refine gS (fun r g=>r 2=.ptr (ay aa.next) 0∧r 3=.ptr (ay ae.next) 0∧r 14=cH∧r 15=.int .i64 t.l.length∧∃(i:Nat) (w:V),r 16=.int .i64 i∧i≤t.l.length∧Has g aa.next [.int .i64 0,.int .i64 0,.int .i64 0,.str [],.b4]∧Has g ae.next [.int .i64 t.k,.int .i64 t.n,.int .i64 0,.str t.s,w]∧
    gn g (l4 aF.next g.next) ((t.l.take i).map aL.plain) w∧Ext h g∧aF.next≤g.next) (fun r g=>t.l.length - (r 16).toN) ?_ ?_
   · exact ⟨by simp only [↓aw,bw,simprocAttr],by simp only [↓aw,bw,simprocAttr],by simp only [↓aw,bw,simprocAttr],by simp only [↓aw,bw,simprocAttr],0,.b4,by simp only [↓aw,bw,simprocAttr]<;>rfl,by omega,RD,Jl,gn.nil _ _,(aN.trans aY).trans cz,Nat.le_refl _⟩
   rintro r g ⟨BX,HQ,nF,rj,i,w,r16,az,R,O,W,E,aG⟩
   unfold J'
   by_cases aP:i<t.l.length
   · have g0:((i:Int) < (t.l.length:Int))=True:=eq_true (by omega)
     obtain ⟨b,off,wl,c0,X,gY,ld⟩:=aL.k9 (L.ext E) (k:=.i64) aP
     have ih:=ld g (Ext.refl g)
     have eF:=gY.one
     have eR:=kF aP (by unfold top at hle;omega)
     have Y5:=rh (t:=t) (List.getElem_mem aP)
     obtain ⟨g1,dH,bm,Z⟩:=gZ g [.int .i64 0,.int .i64 0,.int .i64 0,.str [],.b4] [.int .i64 t.l[i].k,.int .i64 t.l[i].n,.int .i64 t.l[i].a,.str t.l[i].s,wl]
     have tJ:=O.ext bm
     have Cw:=W.one
     simp +contextual only [BX,HQ,nF,rj,r16,g0,c0,ih,dH,Z.g,O.g,tJ.g,eF.1,eF.2.1,Cw.1,Cw.2.1,↓aw,aJ,simprocAttr]
     refine cj (HH N t.l[i] (by omega) bx _ g1 (X.ext bm)) ?_
     rintro x g2 ⟨u,rfl,U,fu⟩
     have Cv:=bm.trans fu
     have Jk:=O.ext Cv
     have RC:=R.ext Cv
     have ai5:=Z.lt
     have s7:=bm.next
     have s8:=fu.next
     have BJ:=U.one
     have k6:t.l[i].s.length≤top:=by obtain ⟨_,_,_,q⟩:=aL.open X;exact q
     have k5:(t.l[i].plain).s=t.l[i].s:=by rw [oH];rfl
     have Zl:(t.l[i].plain).l=t.l[i].l.map aL.plain:=by rw [oH];rfl
     obtain ⟨aj,g3,b2,cq,dR,ju⟩:=(W.ext Cv).add (t:=t.l[i].plain) (T:=l4 g1.next g2.next) (u:=u) (by rw [Zl];exact U) (fun b q z=>by unfold l4 at q z;omega) (fun b q=>by unfold l4 at q;unfold Old;omega) (fun b q=>by unfold l4 at q;unfold Old;omega) (by rw [List.length_map,List.length_take];unfold top;omega) (by rw [k5];exact k6)
     rw [show (t.l[i].plain).k=t.l[i].k from by rw [oH];rfl,show (t.l[i].plain).n=t.l[i].n from by rw [oH];rfl,show (t.l[i].plain).a=0 from by rw [oH];rfl,k5] at b2
     have Mu:∀n,n<aF.next→¬w.a_ (ay n):=fun n aZ q=>by have:=W.bp _ q;unfold l4 at this;rw [c4] at this;omega
     have Jm:=Jk.mod dR (Mu _ Od)
     have RE:=RC.mod dR (Mu _ (by omega))
     have OE:=cq.one
     have lp:Ext h g3:=(E.trans Cv).q5 dR fun b q=>by have:=W.bp _ q;unfold l4 at this;have:=aN.next;have:=cz.next;omega
     have f1:(g2.next=ae.next)=False:=eq_false (by omega)
     have f2:(ae.next=g2.next)=False:=eq_false (by omega)
     simp +contextual only [f1,f2,if_false,BX,HQ,nF,rj,r16,Z.g,O.g,tJ.g,Jk.g,Jm.g,BJ.1,BJ.2.1,Cw.1,Cw.2.1,OE.1,OE.2.1,b2,eR,↓aw,aJ,simprocAttr]
     refine ⟨⟨i+1,aj,rfl,aP,RE.set (by omega) _,Jm.put _,?_,lp.set (by omega) _,by omega⟩,by omega⟩
     rw [take_one aP,List.map_append]
     refine (cq.iX fun b q=>?_).mod ((Mod.refl (fun x=>x=ay ae.next) g3).set (fun _=>rfl) _) fun b q z=>?_
     · unfold l4 at q ⊢;have:=dR.next;omega
     · rw [show b=ay ae.next from z] at q;unfold l4 at q;rw [c4] at q;omega
   · have g0:((i:Int) < (t.l.length:Int))=False:=eq_false (by omega)
     rw [List.take_of_length_le (by omega)] at W
     have eF:=W.one
     have f1:(aa.next=ae.next)=False:=eq_false (by omega)
     have f2:(ae.next=aa.next)=False:=eq_false (by omega)
     simp +contextual only [BX,HQ,nF,rj,r16,g0,R.g,O.g,eF.1,eF.2.1,f1,f2,↓aw,aJ,simprocAttr]
     refine ⟨_,rfl,(W.mod ((Mod.refl (fun x=>x=ay aa.next) g).set (fun _=>rfl) _) fun b q z=>?_).iX fun b q=>?_,E.set (by omega) _⟩
     · rw [show b=ay aa.next from z] at q;unfold l4 at q;rw [c4] at q;omega
     · unfold l4 at q ⊢;have:=aN.next;have:=cz.next;exact ⟨by omega,q.2⟩
end Go.Proofs.YtkehcalakofigaaGreatDoor
namespace Go.Proofs.YtkehcalakofigaaGreatDoor
open Go aS
theorem Qe (l m:List Nm) (v w:V) (h:af) (L:ch Any h 1 (l.map aS.encS) v) (M:ch Any h 1 (m.map aS.encS) w):bM Tryz.prog 24 [v,w] h fun x ab=>x=.bool (decide (l=m))∧ab=h:=by
 have ai:=L.len
 have hm:=M.len
 have hle:=L.le
 rw [List.length_map] at ai hm hle
 refine T5 rfl (dt ?_)
 unfold DX
 by_cases aC:l.length=m.length
 · have f0:((l.length:Int)=(m.length:Int))=True:=eq_true (by omega)
   simp +contextual only [ai,hm,f0,decide_true,decide_false,↓aw,aJ,simprocAttr]
   refine gS (fun r g=>r 0=v∧r 1=w∧g=h∧∃i:Nat,r 5=.int .i64 i∧i≤l.length∧(l=m↔l.drop i=m.drop i)) (fun r g=>l.length - (r 5).toN) ?_ ?_
   · exact ⟨by simp only [↓aw,bw,simprocAttr],by simp only [↓aw,bw,simprocAttr],rfl,0,by simp only [↓aw,bw,simprocAttr]<;>rfl,by omega,by simp⟩
   rintro r g ⟨bO,bz,rfl,i,dv,az,ah⟩
   unfold J_
   by_cases aP:i<l.length
   · have g0:((i:Int) < (l.length:Int))=True:=eq_true (by omega)
     have uN:i<m.length:=by omega
     obtain ⟨b,off,c0,aQ,ld⟩:=ch.yJ L (k:=.i64) aP
     obtain ⟨b_,yf,mj,aii,mo⟩:=ch.yJ M (k:=.i64) uN
     have d1:=ld g (Ext.refl g)
     have d2:=mo g (Ext.refl g)
     have eR:=kF aP (by unfold top at hle;omega)
     have sk:l.drop i=l[i]::l.drop (i+1):=List.drop_eq_getElem_cons aP
     have sl:m.drop i=m[i]::m.drop (i+1):=List.drop_eq_getElem_cons uN
     by_cases c:l[i]=m[i]
     · simp +contextual only [bO,bz,dv,ai,g0,c0,mj,d1,d2,eq_true c,decide_true,eR,↓aw,aJ,simprocAttr]
       refine ⟨⟨i+1,rfl,aP,?_⟩,by omega⟩
       rw [ah,sk,sl,c,List.cons.injEq];simp
     · simp +contextual only [bO,bz,dv,ai,g0,c0,mj,d1,d2,eq_false c,decide_false,eR,↓aw,aJ,simprocAttr]
       rw [decide_eq_false (fun q=>c (by have:=ah.1 q;rw [sk,sl,List.cons.injEq] at this;exact this.1))]
   · have g0:((i:Int) < (l.length:Int))=False:=eq_false (by omega)
     have:l=m:=ah.2 (by rw [List.drop_eq_nil_of_le (by omega),List.drop_eq_nil_of_le (by omega)])
     simp +contextual only [bO,bz,dv,ai,g0,↓aw,aJ,simprocAttr]
     rw [decide_eq_true this]
 · have f0:((l.length:Int)=(m.length:Int))=False:=eq_false (by omega)
   simp +contextual only [ai,hm,f0,decide_true,decide_false,↓aw,aJ,simprocAttr]
   rw [decide_eq_false (fun q=>aC (by rw [q]))]
section
variable [Lay]
end
end Go.Proofs.YtkehcalakofigaaGreatDoor
namespace Go.Proofs.YtkehcalakofigaaGreatDoor
open Go aS
mutual
theorem OT:∀t:aL,t.plain.plain=t.plain
 | .mk k n a s l=>by rw [aL.plain,aL.plain,O1 l]
theorem O1:∀l:List aL,ft (ft l)=ft l
 | []=>rfl
 | t::l=>by rw [ft,ft,OT t,O1 l]
end
mutual
theorem H_:∀t:aL,t.same t.plain=true∧t.plain.same t=true
 | .mk k n a s l=>by rw [aL.plain,aL.same,aL.same,(BS l).1,(BS l).2];simp
theorem BS:∀l:List aL,h' l (ft l)=true∧h' (ft l) l=true
 | []=>⟨rfl,rfl⟩
 | t::l=>by rw [ft,h',h',(H_ t).1,(H_ t).2,(BS l).1,(BS l).2];exact ⟨rfl,rfl⟩
end
mutual
theorem Ey:∀t:aL,t.plain.deep=t.deep
 | .mk k n a s l=>by rw [aL.plain,aL.deep,aL.deep,OM l]
theorem OM:∀l:List aL,hx (ft l)=hx l
 | []=>rfl
 | t::l=>by rw [ft,hx,hx,Ey t,OM l]
end
theorem yv (t:aL):t.plain.k=t.k:=by rw [oH];rfl
theorem OU (t:aL):t.plain.s=t.s:=by rw [oH];rfl
mutual
theorem O4:∀t:aL,t.plain.pre=t.pre.map aL.plain
 | .mk k n a s l=>by rw [aL.plain,aL.pre,aL.pre,O6 l,List.map_cons,aL.plain]
theorem O6:∀l:List aL,gk (ft l)=(gk l).map aL.plain
 | []=>rfl
 | t::l=>by rw [ft,gk,gk,O4 t,O6 l,List.map_append]
end
theorem adC (l:List aL):((l.map aL.plain).filter fun p=>decide (p.k=11)).map aL.s=(l.filter fun p=>decide (p.k=11)).map aL.s:=by
 induction l with
 | nil=>rfl
 | cons t l bf=>
   rw [List.map_cons,List.filter_cons,List.filter_cons,yv]
   split
   · rw [List.map_cons,List.map_cons,bf,OU]
   · exact bf
theorem N6 (t:aL):t.plain.names=t.names:=by unfold aL.names;rw [O4,adC]
theorem SW (l:List aL):iB (ft l)=iB l:=by
 unfold iB
 rw [BR]
 induction l with
 | nil=>rfl
 | cons t l bf=>
   rw [List.map_cons,List.filter_cons,List.filter_cons,yv]
   split
   · rw [List.map_cons,List.map_cons,bf,OU]
   · exact bf
theorem SU (k:Int) (l:List aL) (i:Nat):hD k (ft l) i=hD k l i:=by
 have aa:je (ft l)=je l:=by
  cases l with
  | nil=>rfl
  | cons t l=>rw [ft,je,je,N6]
 unfold hD
 rw [aa,SW]
section
variable (u:List Nm→Nm→List Nm)
mutual
theorem Lt:∀(t:aL) (B O:List Nm),t.plain.dh u B O=t.dh u B O
 | .mk k n a s l,B,O=>by rw [aL.plain,aL.dh,aL.dh,Lz k l 0 l]
theorem Lz (k:Int) (gv:List aL):∀(i:Nat) (l:List aL) (B O:List Nm),e1 u k (ft gv) i (ft l) B O=e1 u k gv i l B O
 | _,[],_,_=>by rw [ft,e1,e1]
 | i,t::l,B,O=>by rw [ft,e1,e1,Lz k gv (i+1) l,SU,Lt t]
end
end
section
variable (named:Int→List UInt8→Bool)
mutual
theorem N1:∀t:aL,t.may named=true→t.plain.may named=true
 | .mk k n a s l,h=>by
   rw [aL.plain,aL.may]
   rw [aL.may] at h
   cases aH:oL k with
   | none=>rw [aH] at h;cases h
   | some r=>
     rw [aH] at h
     simp only [Bool.and_eq_true] at h ⊢
     obtain ⟨⟨aa,ae⟩,aF⟩:=h
     have ai:(ft l).length=l.length:=by rw [BR,List.length_map]
     rw [ai]
     refine ⟨⟨?_,ae⟩,OX _ l aF⟩
     unfold xg at aa ⊢
     simp only [Bool.and_eq_true,decide_eq_true_eq] at aa ⊢
     exact ⟨⟨⟨aa.1.1.1,by omega⟩,by omega⟩,aa.2⟩
theorem OX:∀(gs:List Int) (l:List aL),j1 named gs l=true→j1 named gs (ft l)=true
 | gs,[],_=>by rw [ft];cases gs<;>rw [j1]
 | [],t::l,_=>by rw [ft,j1]
 | g::gs,t::l,h=>by
   rw [ft,j1]
   rw [j1] at h
   simp only [Bool.and_eq_true] at h ⊢
   exact ⟨⟨by rw [yv];exact h.1.1,N1 t h.1.2⟩,OX gs l h.2⟩
end
end
theorem Xd (t:aL):t.free.Pairwise (· < ·):=by
 unfold aL.free
 split
 · exact (E0 t [] j7.nil).st
 · exact .nil
theorem VQ {t:aL} (h:pf [t]=0):pf [t.plain]=0∧t.plain.free=t.free:=by
 unfold pf at h ⊢
 simp only [List.all_cons,List.all_nil,Bool.and_true] at h ⊢
 by_cases bs:(decide (hX t.k=7)&&t.may ee)=true
 · rw [if_pos bs] at h
   by_cases bN:decide (t.deep≤200)=true
   · simp only [Bool.and_eq_true] at bs
     have hm:=N1 ee t bs.2
     refine ⟨?_,?_⟩
     · rw [yv,Ey,hm,bs.1,bN];rfl
     · unfold aL.free
       rw [yv,hm,bs.2,Lt]
   · rw [if_neg bN] at h;cases h
 · rw [if_neg bs] at h;cases h
theorem O' (t:aL):dD [t]=t.size:=by rw [dD,dD];rfl
end Go.Proofs.YtkehcalakofigaaGreatDoor
namespace Go.Proofs.YtkehcalakofigaaGreatDoor
open Go aS Go.RowKit
end Go.Proofs.YtkehcalakofigaaGreatDoor
namespace Go.Proofs.YtkehcalakofigaaGreatDoor
open Go aS
end Go.Proofs.YtkehcalakofigaaGreatDoor
namespace Go.Proofs.YtkehcalakofigaaGreatDoor
open Go aS Go.RowKit
set_option maxRecDepth 100000 in
theorem acy:Ix ctx 100000 6 []=true:=by kernel_rfl
theorem acw (h:af):eS Tryz.prog 6 [] h (.bool true) h:=
 VS (by kernel_rfl) (fun E x q=>by subst q;simp [Rel]) ⟨_,Tryz.func6,by kernel_rfl⟩ (fun w hw=>agO (C:=ctx) follows dq hw HP (by kernel_rfl) (by kernel_rfl) acy) h
theorem acx (h:af):bM Tryz.prog 6 [] h fun x ab=>x=.bool true∧ab=h:=⟨_,_,acw h,rfl,rfl⟩
end Go.Proofs.YtkehcalakofigaaGreatDoor
namespace Go.Proofs.YtkehcalakofigaaGreatDoor
open Go aS
theorem abA (P:Program) (a b:Nm):(d'.str .geq).run P (.str a) (.str b)=some (.bool (!decide (a<b))):=by
 rw [←NP];rfl
theorem aeK [Lay] {F:aO→Prop} {g:af} {t:aL} {w:V} (aQ:t.s.length≤top) (W:ch F g 5 ((t.l.map aL.plain).map aL.enc) w):b9 F g t.plain.enc [.int .i64 t.k,.int .i64 t.n,.int .i64 0,.str t.s,w]:=by
 rw [oH,ys]
 exact .i (.i (.i (.s aQ (W.cons .nil))))
theorem af9 {l:List Nm} (h:l.Pairwise (· < ·)) {i:Nat} (aa:1≤i) (ae:i<l.length):l[i-1]<l[i]:=List.pairwise_iff_getElem.1 h (i-1) i (by omega) ae (by omega)
set_option maxHeartbeats 16000000 in
theorem aeL (t:aL) (aD:t.size≤50000000) (ad:List V) (h:af) (H:b9 Any h t.enc ad):bM Tryz.prog 7 [.agg ad] h fun x ab=>x=.bool true:=by
 have hU:=H
 obtain ⟨cH,rfl,L,k6⟩:=aL.open H
 have ol:=L.one
 refine U7 rfl (dt ?_)
 unfold tY
 obtain ⟨aa,aq,aN,dw⟩:=gO h [.int .i64 t.k,.int .i64 t.n,.int .i64 t.a,.str t.s,cH]
 simp +contextual only [ol.1,ol.2.1,aq,↓aw,aJ,simprocAttr]
 refine cj (acx aa) ?_
 rintro x hJ ⟨rfl,a'⟩
 rw [a']
 obtain ⟨aF,aK,cz,RJ⟩:=GY (F:=Any) (h:=aa) (size:=5) rfl (hU.ext aN) trivial
 have RL:ch Any aF 5 ([t].map aL.enc) (.slice (ay aa.next) 0 1 1):=RJ
 have oU:=dw.ext cz
 have lp:=aN.trans cz
 simp +contextual only [ol.1,ol.2.1,aK,dw.g,↓aw,aJ,simprocAttr]
 refine cj (acA [t] 300 _ aF RL) ?_
 rintro x E9 ⟨⟨ac4,rfl⟩,a'⟩
 rw [a']
 cases ac4 with
 | true=>simp +contextual only [↓aw,aJ,simprocAttr]
 | false=>
 have Nq:=oU.lt
 simp +contextual only [oU.g,↓aw,aJ,simprocAttr]
 refine cj (HH t.size t (Nat.le_refl _) (by omega) _ aF (hU.ext lp)) ?_
 rintro x bu ⟨pl,rfl,wq,gq⟩
 have op:=wq.one
 have yV:=oU.ext gq
 have rL:=lp.trans gq
 obtain ⟨cd,dr,jE,vV⟩:=gZ bu [.int .i64 0,.int .i64 0,.int .i64 0,.str [],.b4] [.int .i64 t.k,.int .i64 t.n,.int .i64 0,.str t.s,pl]
 have tA:=yV.ext jE
 have l0:=rL.trans jE
 have oo:b9 Any cd t.plain.enc [.int .i64 t.k,.int .i64 t.n,.int .i64 0,.str t.s,pl]:=by
  have:=(wq.ext jE).e8 (F:=Any) fun _ _=>trivial
  rw [oH,ys]
  simp only [aL.k,aL.n,aL.a,aL.s,aL.l]
  exact .i (.i (.i (.s k6 (this.cons .nil))))
 have xD:t.plain.size=t.size:=OV t
 have Zt:t.plain.deep=t.deep:=Ey t
 have px:=KG t
 generalize oq:t.plain=q at *
 have pM:t.same q=true∧q.same t=true:=by rw [←oq];exact H_ t
 simp +contextual only [op.1,op.2.1,dr,tA.g,vV.g,↓aw,aJ,simprocAttr]
 refine cj (Qr t q _ _ cd (hU.ext l0) oo) ?_
 rintro x fx ⟨rfl,wY⟩
 rw [pM.1]
 have yW:=tA.ext wY
 have y8:=vV.ext wY
 have I0:=l0.trans wY
 simp +contextual only [tA.g,vV.g,yW.g,y8.g,↓aw,aJ,simprocAttr]
 refine cj (Qr q t _ _ fx (oo.ext wY) (hU.ext I0)) ?_
 rintro x hr ⟨rfl,r6⟩
 rw [pM.2]
 have vQ:=yW.ext r6
 have vW:=y8.ext r6
 have I1:=I0.trans r6
 have RX:=wY.trans r6
 simp +contextual only [tA.g,vV.g,yW.g,y8.g,vQ.g,vW.g,↓aw,aJ,simprocAttr]
 refine cj (wQ _ t (Nat.le_refl _) (by omega) _ hr (hU.ext I1)) ?_
 rintro x AD ⟨rfl,uh⟩
 have yX:=vQ.ext uh
 have y9:=vW.ext uh
 have Q5:=I1.trans uh
 have Jw:=RX.trans uh
 simp +contextual only [vQ.g,vW.g,yX.g,y9.g,↓aw,aJ,simprocAttr]
 refine cj (wQ _ q (Nat.le_refl _) (by omega) _ AD (oo.ext Jw)) ?_
 rintro x Fa ⟨rfl,Ac⟩
 rw [Zt]
 have vR:=yX.ext Ac
 have vX:=y9.ext Ac
 have I2:=Q5.trans Ac
 have RY:=Jw.trans Ac
 simp +contextual only [vQ.g,vW.g,yX.g,y9.g,vR.g,vX.g,decide_true,decide_false,↓aw,aJ,simprocAttr]
 refine cj (Ie t (by omega) _ Fa (hU.ext I2)) ?_
 rintro x XW ⟨rfl,z_⟩
 have yS:=vR.ext z_
 have y2:=vX.ext z_
 have QY:=I2.trans z_
 have Js:=RY.trans z_
 simp +contextual only [vR.g,vX.g,yS.g,y2.g,↓aw,aJ,simprocAttr]
 refine cj (Ie q (by omega) _ XW (oo.ext Js)) ?_
 rintro x XX ⟨rfl,Aa⟩
 rw [xD]
 have yT:=yS.ext Aa
 have y5:=y2.ext Aa
 have IW:=QY.trans Aa
 have RR:=Js.trans Aa
 simp +contextual only [vR.g,vX.g,yS.g,y2.g,yT.g,y5.g,decide_true,decide_false,↓aw,aJ,simprocAttr]
 refine cj (wQ _ t (Nat.le_refl _) (by omega) _ XX (hU.ext IW)) ?_
 rintro x XY ⟨rfl,fa⟩
 have Cy:=yT.ext fa
 have CG:=y5.ext fa
 have IX:=IW.trans fa
 have RS:=RR.trans fa
 simp +contextual only [yT.g,y5.g,Cy.g,CG.g,↓aw,aJ,simprocAttr]
 refine cj (Ie t (by omega) _ XY (hU.ext IX)) ?_
 rintro x XZ ⟨rfl,pj⟩
 have IK:=Cy.ext pj
 have IN:=CG.ext pj
 have QZ:=IX.trans pj
 have Jt:=RS.trans pj
 have WU:((t.size:Int) < (t.deep:Int))=False:=eq_false (by omega)
 simp +contextual only [tA.g,vV.g,yW.g,y8.g,vQ.g,vW.g,yX.g,y9.g,vR.g,vX.g,yS.g,y2.g,yT.g,y5.g,Cy.g,CG.g,IK.g,IN.g,WU,decide_true,decide_false,↓aw,aJ,simprocAttr]
 refine cj (OQ q (by omega) _ XZ (oo.ext Jt)) ?_
 rintro hI X0 ⟨tD,Ab⟩
 have of:=tD.one
 have jF:=tD.len
 have As:=tD.le
 rw [List.length_map] at jF As
 have ZM:q.free.Pairwise (· < ·):=by rw [←oq];exact Xd _
 have Cz:=IK.ext Ab
 have IP:=IN.ext Ab
 have IY:=QZ.trans Ab
 have RT:=Jt.trans Ab
 simp +contextual only [of.1,of.2.1,↓aw,aJ,simprocAttr]
 refine gS (fun r g=>r 1=.ptr (ay h.next) 0∧r 3=.bool true∧r 4=.ptr (ay bu.next) 0∧r 5=hI∧g=X0∧∃i:Nat,r 6=.int .i64 i∧1≤i) (fun r g=>q.free.length - (r 6).toN) ?_ ?_
 · exact ⟨by simp only [↓aw,bw,simprocAttr],by simp only [↓aw,bw,simprocAttr],by simp only [↓aw,bw,simprocAttr],by simp only [↓aw,bw,simprocAttr],rfl,1,by simp only [↓aw,bw,simprocAttr]<;>rfl,by omega⟩
 rintro r g ⟨bz,b6,eX,dv,rfl,i,dZ,az⟩
 unfold Kk
 by_cases aP:i<q.free.length
 · have g0:((i:Int) < (q.free.length:Int))=True:=eq_true (by omega)
   have FX:i-1<q.free.length:=by omega
   obtain ⟨b,off,c0,_,ld⟩:=ch.yJ tD (k:=.i64) FX
   obtain ⟨b_,yf,mj,_,mo⟩:=ch.yJ tD (k:=.i64) aP
   have d1:=ld g (Ext.refl g)
   have d2:=mo g (Ext.refl g)
   have eR:=kF aP (by unfold top at As;omega)
   have bY:IntKind.i64.wrap ((i:Int)-1)=((i-1:Nat):Int):=by rw [wrap_i64 (by unfold top at As;omega) (by unfold top at As;omega)];omega
   have af2:=af9 ZM az aP
   simp +contextual only [bz,b6,eX,dv,dZ,jF,g0,bY,c0,mj,d1,d2,abA,eq_true af2,decide_true,decide_false,Bool.not_true,Bool.not_false,eR,↓aw,aJ,simprocAttr]
   exact ⟨⟨i+1,rfl,by omega⟩,by omega⟩
 have g0:((i:Int) < (q.free.length:Int))=False:=eq_false (by omega)
 obtain ⟨E7,aeZ,wT,RF⟩:=GY (F:=Any) (h:=g) (size:=5) rfl (hU.ext IY) trivial
 have RG:ch Any E7 5 ([t].map aL.enc) (.slice (ay g.next) 0 1 1):=RF
 have yU:=Cz.ext wT
 have y7:=IP.ext wT
 have Q0:=IY.trans wT
 have Ju:=RT.trans wT
 obtain ⟨LQ,ae0,ud,RH⟩:=GY (F:=Any) (h:=E7) (size:=5) rfl (oo.ext Ju) trivial
 have RI:ch Any LQ 5 ([q].map aL.enc) (.slice (ay E7.next) 0 1 1):=RH
 have CA:=yU.ext ud
 have CH:=y7.ext ud
 have Q1:=Q0.trans ud
 have RU:=Ju.trans ud
 simp +contextual only [bz,b6,eX,dv,dZ,jF,g0,Cz.g,yU.g,y7.g,aeZ,ae0,ol.1,ol.2.1,op.1,op.2.1,↓aw,aJ,simprocAttr]
 refine cj (Kr [t] (by rw [O'];omega) _ LQ (RG.ext ud)) ?_
 rintro x X1 ⟨rfl,ue⟩
 have CB:=CA.ext ue
 have CI:=CH.ext ue
 have Q2:=Q1.trans ue
 have RV:=RU.trans ue
 simp +contextual only [CA.g,CH.g,CB.g,CI.g,yU.g,y7.g,↓aw,aJ,simprocAttr]
 refine cj (Kr [q] (by rw [O'];omega) _ X1 (RI.ext ue)) ?_
 rintro x X2 ⟨rfl,wU⟩
 have rF:=CB.ext wU
 have rI:=CI.ext wU
 have IZ:=Q2.trans wU
 have RW:=RV.trans wU
 simp +contextual only [bz,b6,eX,dv,Cz.g,IP.g,yU.g,y7.g,CA.g,CH.g,CB.g,CI.g,rF.g,rI.g,↓aw,aJ,simprocAttr]
 refine cj (ya t (by omega) _ X2 (hU.ext IZ)) ?_
 rintro c1 LR ⟨o0,wV⟩
 have ni:=Hc t
 have Ru:ch Any LR 1 (t.names.map aS.encS) c1:=o0.e8 (by unfold top;omega) fun _ _=>trivial
 have tx:=rF.ext wV
 have tB:=rI.ext wV
 have Q3:=IZ.trans wV
 have Jv:=RW.trans wV
 simp +contextual only [rF.g,rI.g,tx.g,tB.g,↓aw,aJ,simprocAttr]
 refine cj (ya q (by omega) _ LR (oo.ext Jv)) ?_
 rintro hO ux ⟨qw,uf⟩
 have Zu:q.names=t.names:=by rw [←oq];exact N6 t
 rw [Zu] at qw
 have Rv:ch Any ux 1 (t.names.map aS.encS) hO:=qw.e8 (by unfold top;omega) fun _ _=>trivial
 have tz:=tx.ext uf
 have oV:=tB.ext uf
 have Q4:=Q3.trans uf
 have Db:=Jv.trans uf
 simp +contextual only [rF.g,rI.g,tx.g,tB.g,tz.g,oV.g,↓aw,aJ,simprocAttr]
 refine cj (Qe t.names t.names c1 hO ux (Ru.ext uf) Rv) ?_
 rintro x ah2 ⟨rfl,a'⟩
 rw [a',decide_eq_true rfl]
 have Q8:ch Any ux 1 (q.free.map aS.encS) hI:=tD.ext (((((wT.trans ud).trans ue).trans wU).trans wV).trans uf)
 have Zv:q.plain=q:=by rw [←oq];exact OT t
 have sI:q.k=t.k∧q.n=t.n∧q.a=0∧q.s=t.s:=by rw [←oq,oH];exact ⟨rfl,rfl,rfl,rfl⟩
 have last:∀(g:af),Ext ux g→bM Tryz.prog 19 [.agg [.int .i64 t.k,.int .i64 t.n,.int .i64 0,.str t.s,pl]] g fun x w6=>∃w,x=.agg [.int .i64 t.k,.int .i64 t.n,.int .i64 0,.str t.s,w]∧b9 Any w6 q.enc [.int .i64 t.k,.int .i64 t.n,.int .i64 0,.str t.s,w]∧Ext g w6:=by
  intro g e
  refine (HH q.size q (Nat.le_refl _) (by omega) _ g (oo.ext (Db.trans e))).mono ?_
  rintro x w6 ⟨w,rfl,W,cU⟩
  rw [sI.1,sI.2.1,sI.2.2.2]
  refine ⟨w,rfl,?_,cU⟩
  have:=W.e8 (F:=Any) fun _ _=>trivial
  have p1:=aeK (t:=q) (by rw [sI.2.2.2];exact k6) this
  rw [Zv,sI.1,sI.2.1,sI.2.2.2] at p1
  exact p1
 by_cases bs:pf [t]=0
 · obtain ⟨bN,c3⟩:=VQ bs
   rw [oq] at bN c3
   simp +contextual only [bz,b6,eX,dv,rF.g,rI.g,tx.g,tB.g,tz.g,oV.g,bs,bN,decide_true,decide_false,↓aw,aJ,simprocAttr]
   refine cj (OQ t (by omega) _ ux (hU.ext Q4)) ?_
   rintro f2 LU ⟨I9,wW⟩
   rw [←c3] at I9
   have IL:=tz.ext wW
   have vU:=oV.ext wW
   simp +contextual only [bz,b6,eX,dv,tz.g,oV.g,IL.g,vU.g,↓aw,aJ,simprocAttr]
   refine cj (Qe q.free q.free f2 hI LU I9 (Q8.ext wW)) ?_
   rintro x ah3 ⟨rfl,a'⟩
   rw [a',decide_eq_true rfl]
   simp +contextual only [bz,b6,eX,dv,tz.g,oV.g,IL.g,vU.g,rF.g,rI.g,tx.g,tB.g,↓aw,aJ,simprocAttr]
   refine cj (last LU wW) ?_
   rintro x E8 ⟨w,rfl,W,wX⟩
   have rJ:=vU.ext wX
   simp +contextual only [vU.g,rJ.g,↓aw,aJ,simprocAttr]
   refine cj (PT q _ _ E8 W (oo.ext ((Db.trans wW).trans wX))) ?_
   rintro x X4 ⟨rfl,EG⟩
   have CJ:=rJ.ext EG
   simp +contextual only [eX,vU.g,rJ.g,CJ.g,↓aw,aJ,simprocAttr]
 · simp +contextual only [bz,b6,eX,dv,rF.g,rI.g,tx.g,tB.g,tz.g,oV.g,eq_false bs,decide_true,decide_false,↓aw,aJ,simprocAttr]
   refine cj (last ux (Ext.refl _)) ?_
   rintro x E8 ⟨w,rfl,W,wX⟩
   have rJ:=oV.ext wX
   simp +contextual only [oV.g,rJ.g,↓aw,aJ,simprocAttr]
   refine cj (PT q _ _ E8 W (oo.ext (Db.trans wX))) ?_
   rintro x X4 ⟨rfl,EG⟩
   have CJ:=rJ.ext EG
   simp +contextual only [eX,oV.g,rJ.g,CJ.g,↓aw,aJ,simprocAttr]
end Go.Proofs.YtkehcalakofigaaGreatDoor
