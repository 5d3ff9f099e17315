/- The abstract machine and its walks (a verified interpreter of the model's code: plain definitions and lemmas, no condition). Printed by a program from longer texts: names made short. -/
import Derived.Test.YtgmhjhgoamjeeaaGreatDoorM4
import Derived.Test.YtgmhjhgoamjeeaaGreatDoorM5
set_option linter.unusedSectionVars false
set_option linter.unusedSimpArgs false
set_option linter.unusedVariables false
set_option maxHeartbeats 64000000
noncomputable section
namespace Go.Proofs.YtgmhjhgoamjeeaaGreatDoor.aX
section
open Go Go.RowKit
variable [Lay]
theorem dY.room {B:Nat} {h:ae} {size:Nat} {v:V} {n:Nat} {af:List V} (H:dY B h size v n af):C2 v:=by intro b o l c e;subst e;have q:=H.2;simp only at q;omega
theorem Has.mod {M:aM->Prop} {h ab:ae} {n:Nat} {l:List V} (B:Has h n l) (m:Mod M h ab) (aV:¬M (az n)):Has ab n l:=⟨aty B.lt m.next,(m.get _ (hP B.lt) aV).trans B.g⟩
structure eH (B:Nat) (G:aM->Prop) (h:ae) (size:Nat) (es:List (List D)) (v:V):Prop where
 ex:∃us:List (List V),dY B h size v es.length us.flatten/\us.length=es.length/\(∀u ∈ us,u.length=size)/\∀(i:Nat) (e:List D) (u:List V),es[i]? =some e->us[i]? =some u->bM (fun b=>G b/\¬v.aZ b) h e u
section
variable {B:Nat} {G:aM->Prop} {h ab:ae} {size:Nat} {es:List (List D)} {v:V}
theorem eH.nil (B:Nat) (G:aM->Prop) (h:ae) (size:Nat):eH B G h size [] .bj:=⟨⟨[],⟨by simp,rfl⟩,rfl,fun u hu=>(by cases hu),fun i e u q=>(by simp at q)⟩⟩
theorem eH.one (H:eH B G h size es v):v.one=true/\v.cells=[v]/\v.eU=true:=by obtain ⟨us,a,_⟩:=H.ex;exact a.v.one
theorem eH.base (H:eH B G h size es v) {b:aM} (ah:v.aZ b):B<=b0 b:=by obtain ⟨us,a,_⟩:=H.ex;exact a.base ah
theorem eH.rW (H:eH B G h size es v) {b:aM} (ah:v.aZ b):Old h b:=by obtain ⟨us,a,_⟩:=H.ex;exact a.v.bL ah
theorem eH.len (H:eH B G h size es v):ht v=some (.int .i64 es.length):=by obtain ⟨us,a,_⟩:=H.ex;exact a.v.len
theorem eH.ext (H:eH B G h size es v) (e:Ext h ab):eH B G ab size es v:=by obtain ⟨us,a,b,c,d⟩:=H.ex;exact ⟨us,a.ext e,b,c,fun i x u al ao=>(d i x u al ao).ext e⟩
theorem eH.mod {M:aM->Prop} (H:eH B G h size es v) (m:Mod M h ab) (bt:∀b,v.aZ b->¬M b) (d':∀b,G b->Old h b->¬v.aZ b->¬M b):eH B G ab size es v:=by obtain ⟨us,a,b,c,d⟩:=H.ex;exact ⟨us,a.mod m bt,b,c,fun i x u al ao=>(d i x u al ao).mod m fun b q o=>⟨d' b q.1 o q.2,q⟩⟩
theorem eH.gy {oY:aM->Prop} (H:eH B G h size es v) (w:∀b,G b->oY b):eH B oY h size es v:=by obtain ⟨us,a,b,c,d⟩:=H.ex;exact ⟨us,a,b,c,fun i x u al ao=>(d i x u al ao).gy fun b q=>⟨w b q.1,q.2⟩⟩
theorem eH.eW {F:aM->Prop} (H:eH B G h size es v) (ax:es.length<=top) (d':∀b,G b->F b) (cG:∀b,B<=b0 b->F b):bY F h size es v:=by obtain ⟨us,a,b,c,d⟩:=H.ex;exact ⟨a.room,ax,⟨us,a.v,b,c,fun i x u al ao=>(d i x u al ao).gy fun b q=>d' b q.1⟩,fun b q=>cG b (a.base q)⟩
theorem Bs {α:Type} {l:List α} {x y:α} {i:Nat} (q:(l++[x])[i]? =some y):(i<l.length/\l[i]? =some y)\/(i=l.length/\y=x):=by
 by_cases aw:i<l.length
 . rw [arI aw] at q;exact .inl ⟨aw,q⟩
 . rw [arJ (by omega)] at q;obtain ⟨aS,_⟩:=arL.1 q;simp only [arA,asd] at aS;have:i=l.length:=by omega
   subst this;simp only [as6,arG,arq] at q;exact .inr ⟨rfl,q.symm⟩
theorem eH.add {ds:List D} {cs:List V} (H:eH B G h size es v) (E:bM (fun b=>G b/\¬v.aZ b) h ds cs) (cu:1<=size) (cG:B<=h.next) (hlen:(es.length+1) * size<=top) (iG:cs.length=size):
 ∃cl ab,kg size v (.slice (az h.next) 0 1 1) (h.new (.bU cs 0 false))=.val cl ab/\eH B G ab size (es++[ds]) cl/\Mod v.aZ h ab/\h.next+1<=ab.next/\∀b,cl.aZ b->v.aZ b\/h.next<b0 b:=by
 obtain ⟨us,a,b,c,d⟩:=H.ex;obtain ⟨cl,ab,al,ao,aK,bG,cK⟩:=AT cu a cG hlen iG E.e9
 have e1:∀b,(G b/\¬v.aZ b)->Old h b->¬v.aZ b/\(G b/\¬cl.aZ b):=fun b q o=>⟨q.2,q.1,fun z=>by
  rcases cK b z with z | z
  . exact q.2 z
  . unfold Old at o;omega⟩
 refine ⟨cl,ab,al,⟨us++[cs],?_,by simp [b],?_,?_⟩,aK,bG,cK⟩
 . rw [arE,ato,List.flatten_append];simpa using ao
 . intro u hu;rcases asX.1 hu with hu | hu
   . exact c u hu
   . rw [asl] at hu;subst hu;exact iG
 . intro i e u aJ aR;rcases Bs aJ with ⟨aa,aJ⟩ | ⟨aa,rfl⟩
   . rcases Bs aR with ⟨ad,aR⟩ | ⟨ad,rfl⟩
     . exact (d i e u aJ aR).mod aK e1
     . omega
   . rcases Bs aR with ⟨ad,aR⟩ | ⟨ad,rfl⟩
     . omega
     . exact E.mod aK e1
end
theorem amH {P:Program} {n:Nat} (h:n<=4611686018427387904):(eX.int .quo).run P (.int .i64 (n:Int)) (.int .i64 100)=some (.int .i64 ((n / 100:Nat):Int)):=by simp only [eX.run,l',Cg,V.eu];rw [show (pb .i64 .i64&&!Int.gQ 100 0)=true from rfl,aru];rw [show (n:Int).tdiv 100=((n / 100:Nat):Int) from by rw [Int.tdiv_eq_ediv_of_nonneg (by omega)];rfl,wrap_i64 (by omega) (by omega)]
def gU (l:List Int):List V:=l.map (V.int .i64)
theorem K7 (l:List Int):(gU l).length=l.length:=arC _
theorem TI (a b:List Int):gU (a++b)=gU a++gU b:=atp
theorem Vd:∀l:List Int,e9 (gU l)=true
 | []=>rfl
 | i::l=>by simpa [gU,e9,V.one] using Vd l
theorem ES:∀l:List Int,(l.map fun i=>[V.int .i64 i]).flatten=gU l
 | []=>rfl
 | i::l=>by rw [ast,asG,ES l];rfl
theorem fp.anK {h:ae} {v:V} {l:List Int} (H:fp h 1 v l.length (gU l)) (aD:C2 v) (ax:l.length<=top):bY Any h 1 (l.map gB) v:=
 ⟨aD,by rw [arC];exact ax,⟨l.map fun i=>[V.int .i64 i],by rw [arC,ES];exact H,by simp,fun u hu=>by
   obtain ⟨i,_,rfl⟩:=atM.1 hu;rfl,fun i e u al ao=>by
   rw [ase] at al ao;cases aw:l[i]? with
   | none=>rw [aw] at al;cases al
   | some y=>
     rw [aw] at al ao;simp only [asD,arq] at al ao;subst al ao
     exact .i .nil⟩,fun _ _=>trivial⟩
theorem bY.ints {F:aM->Prop} {h:ae} {v:V} {l:List Int} (H:bY F h 1 (l.map gB) v):fp h 1 v l.length (gU l):=by
 obtain ⟨us,a,b,c,d⟩:=H.ex;rw [arC] at a b;have:us.flatten=gU l:=by
  rw [<-ES];congr 1;apply atD;intro i;by_cases aw:i<l.length
  . have aa:us[i]? =some us[i]:=ars (by omega);have ad:=d i (gB l[i]) us[i] (by rw [ase,ars aw];rfl) aa;obtain ⟨ws,aJ,aR⟩:=bM.int ad;rw [aa,aJ,aR.no,ase,ars aw];rfl
  . rw [arW (by omega),arW (by rw [arC];omega)]
 rw [<-this];exact a
theorem F6 (h:ae) (size n:Nat) (af:List V) (ax:af.length=n * size) (aV:n<=top):∃H,h.new (.bU af 0 false)=H/\Ext h H/\dY h.next H size (.slice (az h.next) 0 n n) n af:=
 ⟨_,rfl,(Ext.refl h).new _,ax,rfl,by rw [c7];exact arv _,hP (by rw [gv];omega),arv _,aV,af,0,false,rq _,by omega,by rw [asf,asZ]⟩
end
end Go.Proofs.YtgmhjhgoamjeeaaGreatDoor.aX
