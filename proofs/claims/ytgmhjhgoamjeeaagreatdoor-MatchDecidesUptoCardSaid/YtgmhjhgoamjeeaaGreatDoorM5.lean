/- The abstract machine and its walks (a verified interpreter of the model's code: plain definitions and lemmas, no condition). Printed by a program from longer texts: names made short. -/
import Derived.Test.YtgmhjhgoamjeeaaGreatDoorM4
set_option linter.unusedSectionVars false
set_option linter.unusedSimpArgs false
set_option linter.unusedVariables false
set_option maxHeartbeats 64000000
noncomputable section
namespace Go.Proofs.YtgmhjhgoamjeeaaGreatDoor.aX
section
open Go Go.RowKit
variable [Lay]
def K':IntKind->IntKind->Bool
 | .i8,.i8 | .i16,.i16 | .i32,.i32 | .i64,.i64 | .u8,.u8 | .u16,.u16 | .u32,.u32 | .u64,.u64=>true
 | _,_=>false
theorem TP {a b:IntKind} (h:K' a b=true):a=b:=by cases a<;>cases b<;>first | rfl | cases h
def uX:Int->Int->Bool
 | .ofNat a,.ofNat b=>Nat.beq a b
 | .negSucc a,.negSucc b=>Nat.beq a b
 | _,_=>false
theorem FN {a b:Int} (h:uX a b=true):a=b:=by cases a<;>cases b<;>simp only [uX] at h<;>first | (rw [asn h]) | (cases h)
def Oz:Bool->Bool->Bool
 | true,true | false,false=>true
 | _,_=>false
theorem ZH {a b:Bool} (h:Oz a b=true):a=b:=by cases a<;>cases b<;>first | rfl | cases h
def G7:List UInt8->List UInt8->Bool
 | [],[]=>true
 | a::Ox,b::e6=>Nat.beq a.toNat b.toNat&&G7 Ox e6
 | _,_=>false
theorem Wo:∀{a b:List UInt8},G7 a b=true->a=b
 | [],[],_=>rfl
 | [],_::_,h=>by cases h
 | _::_,[],h=>by cases h
 | a::Ox,b::e6,h=>by simp only [G7,arp] at h;rw [Wo h.2,atz.1 (asn h.1)]
def Gm (mB:List D->List V->Bool) (size:Nat):List (List D)->List V->Bool
 | [],pg=>(match pg with | []=>true | _=>false)
 | e::es,pg=>Nat.beq (pg.take size).length size&&mB e (pg.take size)&&Gm mB size es (pg.drop size)
def LX (aq:ae) (mB:List D->List V->Bool) (size:Nat) (es:List (List D)):V->Bool
 | .bj=>(match es with | []=>true | _=>false)
 | .slice b off len cap=>Nat.beq len es.length&&Nat.ble len cap&&Nat.ble len top&&Nat.blt (b0 b) aq.next&&(match aq.get b with
   | .cells n cs _ _=>Nat.ble (off+len * size) n&&Gm mB size es (hK cs off (len * size))
   | _=>false)
 | _=>false
def jg (aq:ae):Nat->List D->List V->Bool
 | 0,_,_=>false
 | f+1,ds,af=>match ds with
   | []=>(match af with | []=>true | _=>false)
   | d::ds=>match af with
     | []=>false
     | v::af=>(match d with
       | .i k n=>(match v with | .int br gu=>K' k br&&uX n gu | _=>false)
       | .b x=>(match v with | .bool y=>Oz x y | _=>false)
       | .s x=>(match v with | .str y=>G7 x y&&Nat.ble x.length top | _=>false)
       | .l size es=>LX aq (jg aq f) size es v)&&jg aq f ds af
section
variable {h aq:ae}
def va (h aq:ae) (b:aM):Prop:=h.next<=b0 b/\b0 b<h.next+aq.next
theorem U6 {mB:List D->List V->Bool} {size:Nat}:∀{es:List (List D)} {pg:List V},Gm mB size es pg=true->
 ∃us:List (List V),pg=us.flatten/\us.length=es.length/\(∀u ∈ us,u.length=size)/\∀(i:Nat) (e:List D) (u:List V),es[i]? =some e->us[i]? =some u->mB e u=true
 | [],pg,H=>by
   cases pg with
   | nil=>exact ⟨[],rfl,rfl,fun u q=>(by cases q),fun i e u q=>(by simp at q)⟩
   | cons _ _=>cases H
 | e::es,pg,H=>by
   simp only [Gm,arp] at H;obtain ⟨us,al,ao,aK,bG⟩:=U6 H.2;refine ⟨pg.take size::us,by rw [asG,<-al,asI],by simp [ao],fun u hu=>?_,fun i x u aJ aR=>?_⟩
   . rcases arM.1 hu with rfl | hu
     . exact asn H.1.1
     . exact aK u hu
   . cases i with
     | zero=>
       simp only [arG,arq] at aJ aR;subst aJ aR;exact H.1.2
     | succ i=>exact bG i x u (by simpa using aJ) (by simpa using aR)
theorem ad0 (cs:T V) (n off m:Nat) (hm:off+m<=n):((hK cs 0 n).drop off).take m=hK cs off m:=by
 apply atD;intro i;by_cases aw:i<m
 . rw [asw aw,asH,EY cs n 0 _ (by omega),EY cs m off i aw,arV]
 . rw [arW (by rw [ar6,asc,wk];omega),arW (by rw [wk];omega)]
theorem als {mB:List D->List V->Bool} (aB:∀ds af,mB ds af=true->bM (va h aq) (h.app aq) ds (lg h.next af)) {size:Nat} {es:List (List D)} {v:V} (H:LX aq mB size es v=true):
 bY (va h aq) (h.app aq) size es (v.db h.next):=by
 cases v<;>simp only [LX] at H<;>try (cases H;done)
 case bj=>
  cases es with
  | nil=>exact bY.nil _ _ _
  | cons _ _=>cases H
 case slice b off len cap=>
  simp only [arp] at H;obtain ⟨⟨⟨⟨aa,ad⟩,aH⟩,bw⟩,cM⟩:=H;have aa:=asn aa;have ad:=ar7 ad;have aH:=ar7 aH;have bw:b0 b<aq.next:=ar7 bw
  cases aF:aq.get b<;>rw [aF] at cM<;>simp only at cM<;>try (cases cM;done)
  rename_i n cs cL st;simp only [arp] at cM;have gb:=ar7 cM.1;obtain ⟨us,al,ao,aK,bG⟩:=U6 cM.2;subst aa;have sV:(h.app aq).get (lh h.next b)=.bU ((hK cs 0 n).map (V.db h.next)) cL st:=by have:=Of h aq bw;rw [vf,aF] at this;exact this
  have jd:(us.map (List.map (V.db h.next))).flatten=us.flatten.map (V.db h.next):=by rw [List.map_flatten]
  have hlen:us.flatten.length=es.length * size:=by rw [<-al,wk]
  refine ⟨fun bR o l c e=>(by cases e;exact ad),aH,⟨us.map (List.map (V.db h.next)),⟨by rw [jd,arC,hlen],rfl,?_,_,.inr ⟨cL,st,sV⟩,?_,?_⟩,by rw [arC,ao],fun u hu=>?_,fun i e u aJ aR=>?_⟩,fun bR q=>?_⟩
  . unfold Old lh;rw [c7,Og];omega
  . rw [jd,arC,arC,wk,hlen];exact gb
  . rw [jd,arC,hlen,<-List.map_drop,<-List.map_take,ad0 cs n off _ gb,al]
  . obtain ⟨fE,hf,rfl⟩:=atM.1 hu;rw [arC];exact aK fE hf
  . rw [ase] at aR;cases ay:us[i]? with
    | none=>rw [ay] at aR;cases aR
    | some fE=>
      rw [ay] at aR;simp only [asD,arq] at aR;subst aR;rw [<-Wt];exact aB _ _ (bG i e fE aJ ay)
  . simp only [V.db,V.aZ] at q;subst q;unfold va lh;rw [c7];exact ⟨by omega,by omega⟩
theorem LV:∀{f:Nat} {ds:List D} {af:List V},jg aq f ds af=true->bM (va h aq) (h.app aq) ds (lg h.next af)
 | 0,_,_,H=>by cases H
 | f+1,ds,af,H=>by
   cases ds with
   | nil=>
     cases af with
     | nil=>exact .nil
     | cons _ _=>cases H
   | cons d ds=>
     cases af with
     | nil=>cases H
     | cons v af=>
       simp only [jg,arp] at H;have t:=LV (f:=f) H.2;have H1:=H.1;rw [lg];cases d with
       | i k n=>
         cases v<;>simp only at H1<;>try (cases H1;done)
         simp only [arp] at H1;rw [TP H1.1,FN H1.2];simp only [V.db];exact .i t
       | b x=>
         cases v<;>simp only at H1<;>try (cases H1;done)
         rw [ZH H1];simp only [V.db];exact .b t
       | s x=>
         cases v<;>simp only at H1<;>try (cases H1;done)
         simp only [arp] at H1;rw [<-Wo H1.1];simp only [V.db];exact .s (ar7 H1.2) t
       | l size es=>exact (als (fun ds af q=>LV (f:=f) q) H1).cons t
end
def nO (k:Int):List (Int × List D)->Option (List D)
 | []=>none
 | (n,d)::l=>if k=n then some d else nO k l
inductive mv (F:aM->Prop) (h:ae):List (Int × List D)->List b_->Prop
 | nil:mv F h [] []
 | cons {n:Int} {ds:List D} {y:V} {born:Nat} {aO:List (Int × List D)} {es:List b_} (aI:bM F h ds y.cells) (t:mv F h aO es):mv F h ((n,ds)::aO) (⟨.int .i64 n,y,born⟩::es)
structure o2 (F:aM->Prop) (h:ae) (aO:List (Int × List D)) (v:V):Prop where
 ex:∃b es,v=.map b/\Old h b/\((∃clock,h.get b=.mp es clock)\/h.get b=.hO es/\(aO.map Prod.fst).Nodup)/\mv F h aO es/\F b
section
variable {F:aM->Prop} {h ab:ae} {aO:List (Int × List D)} {es:List b_} {v:V}
theorem mv.ext (H:mv F h aO es) (e:Ext h ab):mv F ab aO es:=by
 induction H with
 | nil=>exact .nil
 | cons aI t bc=>exact .cons (aI.ext e) bc
theorem o2.ext (H:o2 F h aO v) (e:Ext h ab):o2 F ab aO v:=by obtain ⟨b,es,al,ao,aK,bG,cK⟩:=H.ex;exact ⟨b,es,al,e.bL ao,by rw [e.get b ao];exact aK,bG.ext e,cK⟩
theorem G4 (k n:Int):ki.run (.int .i64 k) (.int .i64 n)=some (decide (k=n)):=by simp only [ki,V.eu,pc,aru,ED]
theorem mv.kk (H:mv F h aO es) (k:Int):(nO k aO=none/\kk ki (.int .i64 k) es=some none)\/∃ds y,nO k aO=some ds/\bM F h ds y.cells/\Go.Proofs.YtgmhjhgoamjeeaaGreatDoor.aX.kk ki (.int .i64 k) es=some (some y):=by
 induction H with
 | nil=>exact .inl ⟨rfl,rfl⟩
 | @cons n ds y born aO es aI t bc=>
   simp only [nO,Go.Proofs.YtgmhjhgoamjeeaaGreatDoor.aX.kk,G4];by_cases q:k=n
   . subst q;simp only [ar2,as7,aru];exact .inr ⟨ds,y,rfl,aI,rfl⟩
   . simp only [q,ar5,atc,arB];exact bc
theorem UB {k:Int} {ds:List D}:∀{aO:List (Int × List D)},nO k aO=some ds->k ∈ aO.map Prod.fst
 | [],h=>by cases h
 | (n,d)::l,h=>by
   simp only [nO] at h;by_cases q:k=n
   . subst q;simp
   . rw [arw q] at h;simp only [ast,arM];exact .inr (UB h)
theorem mv.nu (H:mv F h aO es) (aV:(aO.map Prod.fst).Nodup) (k:Int):(nO k aO=none/\nu ki (.int .i64 k) es=some none)\/∃ds y,nO k aO=some ds/\bM F h ds y.cells/\Go.Proofs.YtgmhjhgoamjeeaaGreatDoor.aX.nu ki (.int .i64 k) es=some (some y):=by
 induction H with
 | nil=>exact .inl ⟨rfl,rfl⟩
 | @cons n ds y born aO es aI t bc=>
   simp only [ast,atr] at aV;have bc:=bc aV.2;simp only [nO,Go.Proofs.YtgmhjhgoamjeeaaGreatDoor.aX.nu,G4];by_cases q:k=n
   . subst q;rcases bc with ⟨_,e⟩ | ⟨_,_,e,_⟩
     . simp only [e,ar2,as7,aru];exact .inr ⟨ds,y,rfl,aI,rfl⟩
     . exact absurd (UB e) aV.1
   . rcases bc with ⟨aJ,e⟩ | ⟨mC,mn,aJ,aR,e⟩
     . simp only [e,q,ar5,atc,arB];exact .inl ⟨aJ,trivial⟩
     . simp only [e,q,ar5,atc,arB];exact .inr ⟨mC,mn,aJ,aR,rfl⟩
theorem o2.look (H:o2 F h aO v) (k:Int) (z:V) (ok:Bool):(nO k aO=none/\gK ki z ok h v (.int .i64 k)=some (bif ok then .tuple [z,.bool false] else z))\/
 ∃ds y,nO k aO=some ds/\bM F h ds y.cells/\gK ki z ok h v (.int .i64 k)=some (bif ok then .tuple [y,.bool true] else y):=by
 obtain ⟨b,es,rfl,_,aK,bG,_⟩:=H.ex;rcases aK with ⟨clock,aK⟩ | ⟨aK,aV⟩
 . rcases bG.kk k with ⟨aJ,e⟩ | ⟨ds,y,aJ,aR,e⟩
   . exact .inl ⟨aJ,by simp only [gK,aK,hv,qA,b6.hQ,e]⟩
   . exact .inr ⟨ds,y,aJ,aR,by simp only [gK,aK,hv,qA,b6.hQ,e]⟩
 . rcases bG.nu aV k with ⟨aJ,e⟩ | ⟨ds,y,aJ,aR,e⟩
   . exact .inl ⟨aJ,by simp only [gK,aK,e]⟩
   . exact .inr ⟨ds,y,aJ,aR,by simp only [gK,aK,e]⟩
end
def CJ (aq:ae) (f:Nat):List (Int × List D)->List b_->Bool
 | [],es=>(match es with | []=>true | _=>false)
 | (n,ds)::aO,es=>(match es with
   | []=>false
   | m::es=>(match m.k with | .int k i=>K' k .i64&&uX i n | _=>false)&&jg aq f ds m.v.cells&&CJ aq f aO es)
def Gi:List Int->Bool
 | []=>true
 | n::l=>(l.all fun m=>!uX n m)&&Gi l
def Gp (aq:ae) (f:Nat) (aO:List (Int × List D)):V->Bool
 | .map b=>Nat.blt (b0 b) aq.next&&Gi (aO.map Prod.fst)&&(match aq.get b with
   | .mp es _=>CJ aq f aO es
   | .hO es=>CJ aq f aO es
   | _=>false)
 | _=>false
theorem ag0:∀n:Int,uX n n=true
 | .ofNat a=>atm a
 | .negSucc a=>atm a
theorem UU:∀{l:List Int},Gi l=true->l.Nodup
 | [],_=>List.nodup_nil
 | n::l,h=>by simp only [Gi,arp] at h;refine atr.2 ⟨fun q=>?_,UU h.2⟩;have:=arU.1 h.1 n q;rw [ag0] at this;cases this
theorem abu (n:Nat) (v:V):(v.db n).cells=lg n v.cells:=by cases v<;>simp only [V.db,V.cells,lg]
section
variable {h aq:ae}
theorem LW {f:Nat}:∀{aO:List (Int × List D)} {es:List b_},CJ aq f aO es=true->mv (va h aq) (h.app aq) aO (es.map (b_.db h.next))
 | [],es,H=>by
   cases es with
   | nil=>exact .nil
   | cons _ _=>cases H
 | (n,ds)::aO,es,H=>by
   cases es with
   | nil=>cases H
   | cons m es=>
     simp only [CJ,arp] at H;obtain ⟨⟨aa,ad⟩,aH⟩:=H;obtain ⟨mk,cO,born⟩:=m;cases mk<;>simp only at aa<;>try (cases aa;done)
     simp only [arp] at aa;rw [TP aa.1,FN aa.2,ast];simp only [b_.db,V.db];exact .cons (by rw [abu];exact LV ad) (LW aH)
theorem alr {f:Nat} {aO:List (Int × List D)} {v:V} (H:Gp aq f aO v=true):o2 (va h aq) (h.app aq) aO (v.db h.next):=by
 cases v<;>simp only [Gp] at H<;>try (cases H;done)
 rename_i b;simp only [arp] at H;obtain ⟨⟨aa,ad⟩,aH⟩:=H;have aa:b0 b<aq.next:=ar7 aa
 have aF:=Of h aq aa;rw [vf] at aF;have ah:va h aq (lh h.next b):=by unfold va lh;rw [c7];exact ⟨by omega,by omega⟩
 have aW:Old (h.app aq) (lh h.next b):=by unfold Old lh;rw [c7,Og];omega
 cases aB:aq.get b<;>rw [aB] at aH<;>simp only at aH<;>try (cases aH;done)
 . rw [aB] at aF;exact ⟨_,_,rfl,aW,.inl ⟨_,aF⟩,LW aH,ah⟩
 . rw [aB] at aF;exact ⟨_,_,rfl,aW,.inr ⟨aF,UU ad⟩,LW aH,ah⟩
end
theorem mv.gy {F dU:aM->Prop} {h:ae} {aO:List (Int × List D)} {es:List b_} (H:mv F h aO es) (w:∀b,F b->dU b):mv dU h aO es:=by
 induction H with
 | nil=>exact .nil
 | cons aI t bc=>exact .cons (aI.gy w) bc
theorem o2.gy {F dU:aM->Prop} {h:ae} {aO:List (Int × List D)} {v:V} (H:o2 F h aO v) (w:∀b,F b->dU b):o2 dU h aO v:=by obtain ⟨b,es,al,ao,aK,bG,cK⟩:=H.ex;exact ⟨b,es,al,ao,aK,bG.gy w,w b cK⟩
def Gq (C:Ctx) (n:Nat) (f:FuncId) (mB:ae->V->Bool):Bool:=match sE C n f [] ae.empty with
 | .val v aq=>mB aq v
 | _=>false
def AN (h:ae) (b:aM):Prop:=h.next<=b0 b
section
variable {C:Ctx} (cN:C.P.follows .mixedOrders=true) (bF:eg C.P) (gR:pT C) {n:Nat} {f:FuncId} (av:Nat.beq f dB=false) (ak:C.ext f=none) (ik:∃fn,C.P.funcs[f]? =some fn/\fn.body.isSome=true)
include cN bF gR av ak ik
theorem abE {mB:ae->V->Bool} (H:Gq C n f mB=true) (h:ae):∃v aq,mB aq v=true/\e4 C.P f [] h (v.db h.next) (h.app aq):=by
 unfold Gq at H;cases aq:sE C n f [] ae.empty with
 | fail=>rw [aq] at H;cases H
 | cP _ _=>rw [aq] at H;cases H
 | val v a8=>
   rw [aq] at H;exact ⟨v,a8,H,abF cN bF gR av ak ik aq h⟩
theorem abD {m:Nat} {aO:List (Int × List D)} (H:Gq C n f (fun aq v=>Gp aq m aO v)=true) (h:ae):cR C.P f [] h fun x ab=>Ext h ab/\o2 (AN h) ab aO x:=by obtain ⟨v,aq,q,c⟩:=abE cN bF gR av ak ik H h;exact ⟨_,_,c,Zl _ _,(alr q).gy fun b q=>q.1⟩
end
end
end Go.Proofs.YtgmhjhgoamjeeaaGreatDoor.aX
