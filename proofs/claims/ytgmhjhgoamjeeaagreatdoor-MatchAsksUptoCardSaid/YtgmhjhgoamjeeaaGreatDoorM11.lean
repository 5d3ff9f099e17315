/- The abstract machine and its walks (a verified interpreter of the model's code: plain definitions and lemmas, no condition). Printed by a program from longer texts: names made short. -/
import Derived.Test.YtgmhjhgoamjeeaaGreatDoorM4
import Derived.Test.YtgmhjhgoamjeeaaGreatDoorM5
set_option linter.unusedSectionVars false
set_option linter.unusedSimpArgs false
set_option linter.unusedVariables false
set_option maxHeartbeats 64000000
noncomputable section
namespace Go.Proofs.YtgmhjhgoamjeeaaGreatDoor.aZ
section
open Go Go.RowKit
variable [Lay]
theorem dc.room {B:Nat} {h:ae} {size:Nat} {v:V} {n:Nat} {af:List V} (H:dc B h size v n af):w_ v:=by intro b o l c e;subst e;have q:=H.2;simp only at q;omega
theorem Has.mod {M:aO->Prop} {h aa:ae} {n:Nat} {l:List V} (B:Has h n l) (m:Mod M h aa) (aV:¬M (aC n)):Has aa n l:=⟨Nat.lt_of_lt_of_le B.lt m.next,(m.get _ (h5 B.lt) aV).trans B.g⟩
structure dY (B:Nat) (G:aO->Prop) (h:ae) (size:Nat) (es:List (List D)) (v:V):Prop where
 ex:∃us:List (List V),dc B h size v es.length us.flatten/\us.length=es.length/\(∀u ∈ us,u.length=size)/\∀(i:Nat) (e:List D) (u:List V),es[i]? =some e->us[i]? =some u->b6 (fun b=>G b/\¬v.aS b) h e u
section
variable {B:Nat} {G:aO->Prop} {h aa:ae} {size:Nat} {es:List (List D)} {v:V}
theorem dY.nil (B:Nat) (G:aO->Prop) (h:ae) (size:Nat):dY B G h size [] .bu:=⟨⟨[],⟨by simp,rfl⟩,rfl,fun u hu=>(by cases hu),fun i e u q=>(by simp at q)⟩⟩
theorem dY.one (H:dY B G h size es v):v.one=true/\v.cells=[v]/\v.fu=true:=by obtain ⟨us,a,_⟩:=H.ex;exact a.v.one
theorem dY.base (H:dY B G h size es v) {b:aO} (ah:v.aS b):B<=b0 b:=by obtain ⟨us,a,_⟩:=H.ex;exact a.base ah
theorem dY.kX (H:dY B G h size es v) {b:aO} (ah:v.aS b):Old h b:=by obtain ⟨us,a,_⟩:=H.ex;exact a.v.bG ah
theorem dY.len (H:dY B G h size es v):hK v=some (.int .i64 es.length):=by obtain ⟨us,a,_⟩:=H.ex;exact a.v.len
theorem dY.ext (H:dY B G h size es v) (e:Ext h aa):dY B G aa size es v:=by obtain ⟨us,a,b,c,d⟩:=H.ex;exact ⟨us,a.ext e,b,c,fun i x u aj an=>(d i x u aj an).ext e⟩
theorem dY.mod {M:aO->Prop} (H:dY B G h size es v) (m:Mod M h aa) (bA:∀b,v.aS b->¬M b) (eB:∀b,G b->Old h b->¬v.aS b->¬M b):dY B G aa size es v:=by obtain ⟨us,a,b,c,d⟩:=H.ex;exact ⟨us,a.mod m bA,b,c,fun i x u aj an=>(d i x u aj an).mod m fun b q o=>⟨eB b q.1 o q.2,q⟩⟩
theorem dY.d' {F:aO->Prop} (H:dY B G h size es v) (ar:es.length<=top) (eB:∀b,G b->F b) (cC:∀b,B<=b0 b->F b):bN F h size es v:=by obtain ⟨us,a,b,c,d⟩:=H.ex;exact ⟨a.room,ar,⟨us,a.v,b,c,fun i x u aj an=>(d i x u aj an).eQ fun b q=>eB b q.1⟩,fun b q=>cC b (a.base q)⟩
theorem AS {α:Type} {l:List α} {x y:α} {i:Nat} (q:(l++[x])[i]? =some y):(i<l.length/\l[i]? =some y)\/(i=l.length/\y=x):=by
 by_cases ax:i<l.length
 . rw [apM ax] at q;exact .inl ⟨ax,q⟩
 . rw [apN (by omega)] at q;obtain ⟨aL,_⟩:=apL.1 q;simp only [apz,ap5] at aL;have:i=l.length:=by omega
   subst this;simp only [aq5,apH,apq] at q;exact .inr ⟨rfl,q.symm⟩
theorem dY.add {ds:List D} {cs:List V} (H:dY B G h size es v) (E:b6 (fun b=>G b/\¬v.aS b) h ds cs) (cn:1<=size) (cC:B<=h.next) (hlen:(es.length+1) * size<=top) (iB:cs.length=size):
 ∃b1 aa,jM size v (.slice (aC h.next) 0 1 1) (h.new (.bT cs 0 false))=.val b1 aa/\dY B G aa size (es++[ds]) b1/\Mod v.aS h aa/\h.next+1<=aa.next/\∀b,b1.aS b->v.aS b\/h.next<b0 b:=by
 obtain ⟨us,a,b,c,d⟩:=H.ex;obtain ⟨b1,aa,aj,an,aJ,bE,cO⟩:=tT cn a cC hlen iB E.e5
 have ec:∀b,(G b/\¬v.aS b)->Old h b->¬v.aS b/\(G b/\¬b1.aS b):=fun b q o=>⟨q.2,q.1,fun z=>by
  rcases cO b z with z | z
  . exact q.2 z
  . unfold Old at o;omega⟩
 refine ⟨b1,aa,aj,⟨us++[cs],?_,by simp [b],?_,?_⟩,aJ,bE,cO⟩
 . rw [apC,ark,List.flatten_append];simpa using an
 . intro u hu;rcases aqv.1 hu with hu | hu
   . exact c u hu
   . rw [aqa] at hu;subst hu;exact iB
 . intro i e u av aK;rcases AS av with ⟨U,av⟩ | ⟨U,rfl⟩
   . rcases AS aK with ⟨ab,aK⟩ | ⟨ab,rfl⟩
     . exact (d i e u av aK).mod aJ ec
     . omega
   . rcases AS aK with ⟨ab,aK⟩ | ⟨ab,rfl⟩
     . omega
     . exact E.mod aJ ec
end
theorem akS {P:Program} {n:Nat} (h:n<=4611686018427387904):(e8.int .quo).run P (.int .i64 (n:Int)) (.int .i64 100)=some (.int .i64 ((n / 100:Nat):Int)):=by simp only [e8.run,lT,BF,V.ew];rw [show (oQ .i64 .i64&&!Int.gM 100 0)=true from rfl,apt];rw [show (n:Int).tdiv 100=((n / 100:Nat):Int) from by rw [Int.tdiv_eq_ediv_of_nonneg (by omega)];rfl,wrap_i64 (by omega) (by omega)]
def gw (l:List Int):List V:=l.map (V.int .i64)
theorem Sz (l:List Int):(gw l).length=l.length:=apv _
theorem BG (a b:List Int):gw (a++b)=gw a++gw b:=aqM
theorem y_:∀l:List Int,e5 (gw l)=true
 | []=>rfl
 | i::l=>by simpa [gw,e5,V.one] using y_ l
theorem Ec:∀l:List Int,(l.map fun i=>[V.int .i64 i]).flatten=gw l
 | []=>rfl
 | i::l=>by rw [aqt,aqy,Ec l];rfl
theorem e2.gI {h:ae} {v:V} {l:List Int} (H:e2 h 1 v l.length (gw l)) (aD:w_ v) (ar:l.length<=top):bN Any h 1 (l.map gA) v:=
 ⟨aD,by rw [apv];exact ar,⟨l.map fun i=>[V.int .i64 i],by rw [apv,Ec];exact H,by simp,fun u hu=>by
   obtain ⟨i,_,rfl⟩:=List.mem_map.1 hu;rfl,fun i e u aj an=>by
   rw [aqb] at aj an;cases ax:l[i]? with
   | none=>rw [ax] at aj;cases aj
   | some y=>
     rw [ax] at aj an;simp only [aqO,apq] at aj an;subst aj an
     exact .i .nil⟩,fun _ _=>trivial⟩
theorem dc.gI {B:Nat} {h:ae} {v:V} {l:List Int} (H:dc B h 1 v l.length (gw l)) (ar:l.length<=top):bN Any h 1 (l.map gA) v:=H.v.gI H.room ar
theorem bN.ints {F:aO->Prop} {h:ae} {v:V} {l:List Int} (H:bN F h 1 (l.map gA) v):e2 h 1 v l.length (gw l):=by
 obtain ⟨us,a,b,c,d⟩:=H.ex;rw [apv] at a b;have:us.flatten=gw l:=by
  rw [<-Ec];congr 1;apply arA;intro i;by_cases ax:i<l.length
  . have U:us[i]? =some us[i]:=apo (by omega);have ab:=d i (gA l[i]) us[i] (by rw [aqb,apo ax];rfl) U;obtain ⟨ws,av,aK⟩:=b6.int ab;rw [U,av,aK.no,aqb,apo ax];rfl
  . rw [apS (by omega),apS (by rw [apv];omega)]
 rw [<-this];exact a
theorem qo (h:ae) (size n:Nat) (af:List V) (ar:af.length=n * size) (aV:n<=top):∃H,h.new (.bT af 0 false)=H/\Ext h H/\dc h.next H size (.slice (aC h.next) 0 n n) n af:=
 ⟨_,rfl,(Ext.refl h).new _,ar,rfl,by rw [cV];exact aps _,h5 (by rw [ga];omega),aps _,aV,af,0,false,nU _,by omega,by rw [aqu,are]⟩
end
end Go.Proofs.YtgmhjhgoamjeeaaGreatDoor.aZ
