/- The abstract machine and its walks (a verified interpreter of the model's code: plain definitions and lemmas, no condition). Printed by a program from longer texts: names made short. -/
import Derived.Test.YtgmhjhgoamjeeaaGreatDoorM5
set_option linter.unusedSectionVars false
set_option linter.unusedSimpArgs false
set_option linter.unusedVariables false
set_option maxHeartbeats 64000000
noncomputable section
namespace Go.Proofs.YtgmhjhgoamjeeaaGreatDoor.aX
section
open Go Go.RowKit
variable [Lay]
theorem dS.room {B:Nat} {h:ae} {size:Nat} {v:V} {n:Nat} {ag:List V} (H:dS B h size v n ag):Gd v:=by intro b o l c e;subst e;have q:=H.2;simp only at q;omega
theorem Has.mod {M:aL->Prop} {h ab:ae} {n:Nat} {l:List V} (B:Has h n l) (m:Mod M h ab) (aV:¬M (aw n)):Has ab n l:=⟨arv B.lt m.next,(m.get _ (hv B.lt) aV).trans B.g⟩
structure eA (B:Nat) (G:aL->Prop) (h:ae) (size:Nat) (es:List (List D)) (v:V):Prop where
 ex:∃us:List (List V),dS B h size v es.length us.flatten/\us.length=es.length/\(∀u ∈ us,u.length=size)/\∀(i:Nat) (e:List D) (u:List V),es[i]? =some e->us[i]? =some u->bN (fun b=>G b/\¬v.aW b) h e u
section
variable {B:Nat} {G:aL->Prop} {h ab:ae} {size:Nat} {es:List (List D)} {v:V}
theorem eA.nil (B:Nat) (G:aL->Prop) (h:ae) (size:Nat):eA B G h size [] .bg:=⟨⟨[],⟨by simp,rfl⟩,rfl,fun u hu=>(by cases hu),fun i e u q=>(by simp at q)⟩⟩
theorem eA.one (H:eA B G h size es v):v.one=true/\v.cells=[v]/\v.eO=true:=by obtain ⟨us,a,_⟩:=H.ex;exact a.v.one
theorem eA.base (H:eA B G h size es v) {b:aL} (ah:v.aW b):B<=bX b:=by obtain ⟨us,a,_⟩:=H.ex;exact a.base ah
theorem eA.ru (H:eA B G h size es v) {b:aL} (ah:v.aW b):Old h b:=by obtain ⟨us,a,_⟩:=H.ex;exact a.v.bG ah
theorem eA.len (H:eA B G h size es v):hJ v=some (.int .i64 es.length):=by obtain ⟨us,a,_⟩:=H.ex;exact a.v.len
theorem eA.ext (H:eA B G h size es v) (e:Ext h ab):eA B G ab size es v:=by obtain ⟨us,a,b,c,d⟩:=H.ex;exact ⟨us,a.ext e,b,c,fun i x u ak al=>(d i x u ak al).ext e⟩
theorem eA.mod {M:aL->Prop} (H:eA B G h size es v) (m:Mod M h ab) (bs:∀b,v.aW b->¬M b) (dX:∀b,G b->Old h b->¬v.aW b->¬M b):eA B G ab size es v:=by obtain ⟨us,a,b,c,d⟩:=H.ex;exact ⟨us,a.mod m bs,b,c,fun i x u ak al=>(d i x u ak al).mod m fun b q o=>⟨dX b q.1 o q.2,q⟩⟩
theorem eA.gR {og:aL->Prop} (H:eA B G h size es v) (w:∀b,G b->og b):eA B og h size es v:=by obtain ⟨us,a,b,c,d⟩:=H.ex;exact ⟨us,a,b,c,fun i x u ak al=>(d i x u ak al).gR fun b q=>⟨w b q.1,q.2⟩⟩
theorem eA.eZ {F:aL->Prop} (H:eA B G h size es v) (aA:es.length<=top) (dX:∀b,G b->F b) (cD:∀b,B<=bX b->F b):b0 F h size es v:=by obtain ⟨us,a,b,c,d⟩:=H.ex;exact ⟨a.room,aA,⟨us,a.v,b,c,fun i x u ak al=>(d i x u ak al).gR fun b q=>dX b q.1⟩,fun b q=>cD b (a.base q)⟩
theorem AQ {α:Type} {l:List α} {x y:α} {i:Nat} (q:(l++[x])[i]? =some y):(i<l.length/\l[i]? =some y)\/(i=l.length/\y=x):=by
 by_cases ax:i<l.length
 . rw [apM ax] at q;exact .inl ⟨ax,q⟩
 . rw [apO (by omega)] at q;obtain ⟨aR,_⟩:=apN.1 q;simp only [apB,ap_] at aR;have:i=l.length:=by omega
   subst this;simp only [aq7,apK,aps] at q;exact .inr ⟨rfl,q.symm⟩
theorem eA.add {ds:List D} {cs:List V} (H:eA B G h size es v) (E:bN (fun b=>G b/\¬v.aW b) h ds cs) (cq:1<=size) (cD:B<=h.next) (hlen:(es.length+1) * size<=top) (ic:cs.length=size):
 ∃cd ab,jZ size v (.slice (aw h.next) 0 1 1) (h.new (.bQ cs 0 false))=.val cd ab/\eA B G ab size (es++[ds]) cd/\Mod v.aW h ab/\h.next+1<=ab.next/\∀b,cd.aW b->v.aW b\/h.next<bX b:=by
 obtain ⟨us,a,b,c,d⟩:=H.ex;obtain ⟨cd,ab,ak,al,aI,bB,cG⟩:=Ai cq a cD hlen ic E.eY
 have eR:∀b,(G b/\¬v.aW b)->Old h b->¬v.aW b/\(G b/\¬cd.aW b):=fun b q o=>⟨q.2,q.1,fun z=>by
  rcases cG b z with z | z
  . exact q.2 z
  . unfold Old at o;omega⟩
 refine ⟨cd,ab,ak,⟨us++[cs],?_,by simp [b],?_,?_⟩,aI,bB,cG⟩
 . rw [apD,ark,List.flatten_append];simpa using al
 . intro u hu;rcases aqR.1 hu with hu | hu
   . exact c u hu
   . rw [aqp] at hu;subst hu;exact ic
 . intro i e u aK aS;rcases AQ aK with ⟨aa,aK⟩ | ⟨aa,rfl⟩
   . rcases AQ aS with ⟨ad,aS⟩ | ⟨ad,rfl⟩
     . exact (d i e u aK aS).mod aI eR
     . omega
   . rcases AQ aS with ⟨ad,aS⟩ | ⟨ad,rfl⟩
     . omega
     . exact E.mod aI eR
end
def gB (l:List Int):List V:=l.map (V.int .i64)
theorem Ke (l:List Int):(gB l).length=l.length:=apG _
theorem Sq (a b:List Int):gB (a++b)=gB a++gB b:=arl
theorem TU:∀l:List Int,eY (gB l)=true
 | []=>rfl
 | i::l=>by simpa [gB,eY,V.one] using TU l
theorem D9:∀l:List Int,(l.map fun i=>[V.int .i64 i]).flatten=gB l
 | []=>rfl
 | i::l=>by rw [aqu,aqH,D9 l];rfl
theorem fq.alU {h:ae} {v:V} {l:List Int} (H:fq h 1 v l.length (gB l)) (aC:Gd v) (aA:l.length<=top):b0 Any h 1 (l.map gb) v:=
 ⟨aC,by rw [apG];exact aA,⟨l.map fun i=>[V.int .i64 i],by rw [apG,D9];exact H,by simp,fun u hu=>by
   obtain ⟨i,_,rfl⟩:=List.mem_map.1 hu;rfl,fun i e u ak al=>by
   rw [aqi] at ak al;cases ax:l[i]? with
   | none=>rw [ax] at ak;cases ak
   | some y=>
     rw [ax] at ak al;simp only [aqV,aps] at ak al;subst ak al
     exact .i .nil⟩,fun _ _=>trivial⟩
theorem b0.ints {F:aL->Prop} {h:ae} {v:V} {l:List Int} (H:b0 F h 1 (l.map gb) v):fq h 1 v l.length (gB l):=by
 obtain ⟨us,a,b,c,d⟩:=H.ex;rw [apG] at a b;have:us.flatten=gB l:=by
  rw [<-D9];congr 1;apply arz;intro i;by_cases ax:i<l.length
  . have aa:us[i]? =some us[i]:=apr (by omega);have ad:=d i (gb l[i]) us[i] (by rw [aqi,apr ax];rfl) aa;obtain ⟨ws,aK,aS⟩:=bN.int ad;rw [aa,aK,aS.no,aqi,apr ax];rfl
  . rw [apT (by omega),apT (by rw [apG];omega)]
 rw [<-this];exact a
theorem Fm (h:ae) (size n:Nat) (ag:List V) (aA:ag.length=n * size) (aV:n<=top):∃H,h.new (.bQ ag 0 false)=H/\Ext h H/\dS h.next H size (.slice (aw h.next) 0 n n) n ag:=
 ⟨_,rfl,(Ext.refl h).new _,aA,rfl,by rw [c1];exact apv _,hv (by rw [f_];omega),apv _,aV,ag,0,false,qY _,by omega,by rw [aqy,aqX]⟩
end
end Go.Proofs.YtgmhjhgoamjeeaaGreatDoor.aX
