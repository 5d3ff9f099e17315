/- The abstract machine and its walks (a verified interpreter of the model's code: plain definitions and lemmas, no condition). Printed by a program from longer texts: names made short. -/
import Derived.Test.YtefceblncmdkhaaGreatDoorM1
import Derived.LaidEqlPtr
import Derived.RangeFuncLeaves
import Derived.RecoverIn
import Derived.OrdersIn
set_option linter.unusedSectionVars false
set_option linter.unusedSimpArgs false
set_option linter.unusedVariables false
set_option maxHeartbeats 64000000
noncomputable section
namespace Go.Proofs.YtefceblncmdkhaaGreatDoor.bd
section
open Go Go.RowKit
variable [Lay]
theorem aU.ni:∀{p q:aU},aU.hV p q=true->p=q
 | .z,.z,_=>rfl
 | .l p,.l q,h=>by rw [aU.ni (p:=p) (q:=q) h]
 | .r p,.r q,h=>by rw [aU.ni (p:=p) (q:=q) h]
 | .z,.l _,h=>by cases h
 | .z,.r _,h=>by cases h
 | .l _,.z,h=>by cases h
 | .l _,.r _,h=>by cases h
 | .r _,.z,h=>by cases h
 | .r _,.l _,h=>by cases h
theorem aU.AJ:∀p:aU,aU.hV p p=true
 | .z=>rfl
 | .l p=>aU.AJ p
 | .r p=>aU.AJ p
section
variable {P:Program}
theorem S' {aB:Fr} {E:Env} {h:ah} {w:World} (s:ba aB E h w) {b:aU} {p:iW} (ak:E b=some p) (aj:(h.get b).Fo=true):(h.get b).own=true/\∃c t,w.heap[p.bj]? =some (.cells c t (0,0)):=by
 have ay:=s.at ak;cases al:h.get b<;>rw [al] at aj<;>try (cases aj;done)
 rename_i n cs cT st;rw [al] at ay;obtain ⟨_,p',c,el,b5,an,_,v8,_,c2,_⟩:=ay;rw [ak] at an;cases an;have:st=false:=by simpa [cm.Fo] using aj
 rw [c2 this] at v8;exact ⟨rfl,c,el,v8⟩
theorem Tn {t:TypeId} (h:jV P t=true):∃e j,P.underlying t=some (.pointer e)/\P.info? e=some j/\j.size≠0:=by
 unfold jV at h;cases aE:bf P t with
 | none=>rw [aE] at h;cases h
 | some aO=>
   rw [aE] at h;simp only at h;cases hu:aO.bl<;>rw [hu] at h<;>simp only at h<;>try (cases h;done)
   rename_i e;cases he:bf P e with
   | none=>rw [he] at h;cases h
   | some bh=>
     rw [he] at h;simp only at h;obtain ⟨_,_,ad,_⟩:=uX aE;obtain ⟨j,g1,_,g3,_⟩:=uX he;refine ⟨e,j,by rw [ad,hu],g1,fun dJ=>?_⟩;rw [g3,dJ] at h;cases h
theorem aiF {t:TypeId} (h:jV P t=true) (w:World):∃e,(underlying t).run P w=.ok (.pointer e) w:=by obtain ⟨e,_,J,_⟩:=Tn h;exact ⟨e,KM J w⟩
theorem ajC {t e:TypeId} {w:World} (hu:(underlying t).run P w=.ok (.pointer e) w) (b:Bool) (v:Value):(Instr.checkKey b 10000 t v).run P w=.ok () w:=by show (Instr.checkKey b (9999+1) t v).run P w=.ok () w;unfold Instr.checkKey;rw [Sem.run_bind,hu];rfl
theorem Tl {aB:Fr} {E:Env} {h:ah} {w:World} (s:ba aB E h w) {t:TypeId} (aE:jV P t=true) {x y:V} {X Y:Value} {b:Bool} (he:me h x y=some b) (ar:Rel E x X) (bc:Rel E y Y):
 (∃a c,X=.pointer (some a)/\Y=.pointer (some c))/\∀d,(Op.equalIn (d+1) t X Y).run P w=.ok b w:=by
 obtain ⟨e,j,ak,cE,cy⟩:=Tn aE;unfold me at he
 split at he
 case h_2=>cases he
 rename_i b8 dc
 split at he
 case h_2=>cases he
 rename_i cF c4;simp only [Rel] at ar bc;obtain ⟨p,lo,rfl⟩:=ar;obtain ⟨q,iK,rfl⟩:=bc;refine ⟨⟨_,_,rfl,rfl⟩,fun d=>?_⟩;cases heq:aU.hV b8 cF with
 | true=>
   rw [heq] at he;simp only [am4,amW] at he;have:=aU.ni heq;subst this;rw [lo] at iK;cases iK;have aj:b=decide (dc=c4):=by
    rw [<-he];by_cases h:dc=c4
    . subst h;simp
    . rw [anL h,<-Bool.not_eq_true,anA];exact h
   have key:(sameAddr ⟨p.bj,p.base+dc,none⟩ ⟨p.bj,p.base+c4,none⟩).run P w=.ok b w:=by
    rw [aj];by_cases h:dc=c4
    . subst h;simpa using run_sameAddr_same w (⟨p.bj,p.base+dc,none⟩:Addr)
    . have ez:((⟨p.bj,p.base+dc,none⟩:Addr) == ⟨p.bj,p.base+c4,none⟩)=false:=by
       rw [aof];intro e;injection e with _ aN _
       omega
      simp [sameAddr,ez,h]
   simp [Op.equalIn,run_underlying ak,sizeOf,typeInfo,cE,cy,key]
 | false=>
   rw [heq] at he;simp only [anf] at he;obtain ⟨ao,he⟩:=fc he;simp only [amX] at ao;cases he;obtain ⟨Kg,bW,t1,v7⟩:=S' s lo ao.1;obtain ⟨Kh,cw,t2,yq⟩:=S' s iK ao.2;have ez:(⟨p.bj,p.base+dc,none⟩:Addr)≠⟨q.bj,q.base+c4,none⟩:=by
    intro e;injection e with an _ _
    have:=s.inj b8 cF p q Kg Kh lo iK an;subst this;rw [aU.AJ] at heq;cases heq
   simp [Op.equalIn,run_underlying ak,sizeOf,typeInfo,cE,cy,run_sameAddr_other w ez v7 yq]
theorem Tk {aB:Fr} {E:Env} {h:ah} {w:World} (s:ba aB E h w) {op:BinOp} {t:TypeId} {neg:Bool} (mC:w4 P op t=some neg) {x y:V} {jS jT:Operand} {X Y:Value} {b:Bool} (he:me h x y=some b) (ar:Rel E x X) (bc:Rel E y Y):
 ∃Z,(do eqGuard op t jS jT X Y;binOp op t X Y:Sem Value).run P w=.ok Z w/\Rel E (.bool (bif neg then !b else b)) Z:=by
 unfold w4 at mC;have main:jV P t=true->((op=.eql/\neg=false)\/(op=.neq/\neg=true))->∃Z,(do eqGuard op t jS jT X Y;binOp op t X Y:Sem Value).run P w=.ok Z w/\Rel E (.bool (bif neg then !b else b)) Z:=by
  intro aE nt;obtain ⟨⟨a,c,rfl,rfl⟩,df⟩:=Tl s aE he ar bc;have al:=fun (o:BinOp)=>DH (P:=P) (op:=o) (t:=t) (x:=jS) (y:=jT) (X:=.pointer (some a)) (Y:=.pointer (some c)) (by simp) (.inl (by simp)) w;have an:(Op.equal t (.pointer (some a)) (.pointer (some c))).run P w=.ok b w:=df 9999;rcases nt with ⟨rfl,rfl⟩ | ⟨rfl,rfl⟩
  . refine ⟨.bool b,?_,by simp [Rel]⟩;rw [Sem.run_bind,al,Result.andThen_ok,binOp_eql (X:=.pointer (some a)) True.intro,Sem.run_bind,an];rfl
  . refine ⟨.bool (!b),?_,by simp [Rel]⟩;rw [Sem.run_bind,al,Result.andThen_ok,binOp_neq (X:=.pointer (some a)) True.intro,Sem.run_bind,an];rfl
 cases op<;>simp only at mC<;>try (cases mC;done)
 . obtain ⟨J,ad⟩:=fc mC;cases ad;exact main J (.inl ⟨rfl,rfl⟩)
 . obtain ⟨J,ad⟩:=fc mC;cases ad;exact main J (.inr ⟨rfl,rfl⟩)
end
section
variable {P:Program}
def xC (P:Program) (w:World) (E:Env) (dz:TypeId) (e:ec):Prop:=
 ∀k bx K mr b,e.run k bx=some b->Rel E k K->Rel E bx mr->(Op.equal dz K mr).run P w=.ok b w/\(b=true->mr=K/\Instr.sameBits 10000 K K=true)
theorem aiE {aB:Fr} {E:Env} {h:ah} {w:World} (s:ba aB E h w) {dz:TypeId} (aE:jV P dz=true):xC P w E dz ⟨me h⟩:=by
 intro k bx K mr b he ar bc;obtain ⟨⟨a,c,rfl,rfl⟩,df⟩:=Tl s aE he ar bc;refine ⟨df 9999,fun aj=>?_⟩;subst aj;simp only [me] at he
 split at he
 case h_2=>cases he
 split at he
 case h_2=>cases he
 rename_i b8 dc _ cF c4;simp only [Rel] at ar bc;obtain ⟨p,lo,ar⟩:=ar;obtain ⟨q,iK,bc⟩:=bc;cases heq:aU.hV b8 cF with
 | false=>
   rw [heq] at he;simp only [anf] at he;obtain ⟨_,he⟩:=fc he;cases he
 | true=>
   rw [heq] at he;simp only [am4,amW] at he;have:=aU.ni heq;subst this;rw [lo] at iK;cases iK;have:=anP he;subst this;rw [ar,bc];exact ⟨rfl,by simp [Instr.sameBits]⟩
theorem Pr {w:World} {E:Env} {dz:TypeId} {e:ec} (j5:xC P w E dz e) {k:V} {K:Value} (ay:Rel E k K):∀(es:List cK) (l:List MapEntry) (r:Option V) (i:Nat),kO e k es=some r->e5 E es l->
 ∃R,(Instr.findAsking dz K l i).run P w=.ok R w/\(match r with
  | none=>R=none
  | some v=>∃j Y,R=some (j,Y)/\Rel E v Y)
 | [],l,r,i,h,aJ=>by simp only [e5] at aJ;subst aJ;simp only [kO,amW] at h;subst h;exact ⟨none,rfl,rfl⟩
 | m::ms,l,r,i,h,aJ=>by
   obtain ⟨eQ,es,rfl,J,ad,aD,bn⟩:=aJ;simp only [kO] at h;cases aM:e.run k m.k with
   | none=>rw [aM] at h;cases h
   | some b=>
     rw [aM] at h;simp only at h;obtain ⟨ag,av⟩:=j5 _ _ _ _ _ aM ay J;cases b with
     | true=>
       simp only [am4,amW] at h;subst h;exact ⟨some (i,eQ.val),by simp [Instr.findAsking,ag],i,eQ.val,rfl,ad⟩
     | false=>
       simp only [anf] at h;obtain ⟨R,g1,g2⟩:=Pr j5 ay ms es r (i+1) h bn;exact ⟨R,by simp [Instr.findAsking,ag,g1],g2⟩
theorem To {w:World} {E:Env} {dz:TypeId} {e:ec} (j5:xC P w E dz e) {k v:V} {K X:Value} (ay:Rel E k K) (bB:Rel E v X) (clock:Nat):∀(es:List cK) (l:List MapEntry) (r:List cK × Bool) (i:Nat),oy e k v clock es=some r->e5 E es l->
 (r.2=true->(Instr.findAsking dz K l i).run P w=.ok none w/\e5 E r.1 (l++[⟨K,X,clock⟩]))/\
 (r.2=false->∃j eQ Y,(Instr.findAsking dz K l i).run P w=.ok (some (i+j,Y)) w/\l[j]? =some eQ/\Instr.sameBits 10000 eQ.key K=true/\e5 E r.1 (l.modify j fun eQ=>{eQ with key:=K,val:=X}))
 | [],l,r,i,h,aJ=>by simp only [e5] at aJ;subst aJ;simp only [oy,amW] at h;subst h;exact ⟨fun _=>⟨rfl,_,_,rfl,ay,bB,rfl,rfl⟩,fun h=>by cases h⟩
 | m::ms,l,r,i,h,aJ=>by
   obtain ⟨eQ,es,rfl,J,ad,aD,bn⟩:=aJ;simp only [oy] at h;cases aM:e.run k m.k with
   | none=>rw [aM] at h;cases h
   | some b=>
     rw [aM] at h;simp only at h;obtain ⟨ag,av⟩:=j5 _ _ _ _ _ aM ay J;cases b with
     | true=>
       simp only [am4,amW] at h;subst h;obtain ⟨aI,bU⟩:=av rfl;refine ⟨fun h=>(by cases h),fun _=>⟨0,eQ,eQ.val,by simp [Instr.findAsking,ag],rfl,by rw [aI];exact bU,?_⟩⟩;exact ⟨_,es,rfl,ay,bB,aD,bn⟩
     | false=>
       simp only [anf] at h;cases ak:oy e k v clock ms with
       | none=>rw [ak] at h;cases h
       | some bI=>
         rw [ak] at h;simp only [amW] at h;subst h;obtain ⟨g1,g2⟩:=To j5 ay bB clock ms es bI (i+1) ak bn;refine ⟨fun h=>?_,fun h=>?_⟩
         . obtain ⟨bR,a2⟩:=g1 h;exact ⟨by simp [Instr.findAsking,ag,bR],⟨eQ,es++[⟨K,X,clock⟩],rfl,J,ad,aD,a2⟩⟩
         . obtain ⟨j,dI,Y,bR,a2,a3,a4⟩:=g2 h;exact ⟨j+1,dI,Y,by simp [Instr.findAsking,ag,bR];omega,by simpa using a2,a3,⟨eQ,_,rfl,J,ad,aD,a4⟩⟩
theorem ajE {dz:TypeId} {k':TypeId} {w:World} (hu:(underlying dz).run P w=.ok (.pointer k') w) {K:Value} {l:List MapEntry} {R:Option (Nat × Value)} (h:(Instr.findAsking dz K l 0).run P w=.ok R w):
 (Instr.findKey dz K l).run P w=.ok R w:=by
 cases l with
 | nil=>
   simp only [Instr.findAsking,Sem.run_pure] at h;cases h;simp [Instr.findKey,hu,Instr.findNow]
 | cons eQ es=>
   have aX:Instr.findNow (.pointer k') K (eQ::es) 0=none:=by simp [Instr.findNow,Instr.sameNow]
   simp [Instr.findKey,hu,aX,h]
theorem ZQ {x y:V} (h:vB x y=true):x=y:=by
 cases x<;>simp only [vB] at h<;>try (cases h;done)
 all_goals (cases y<;>simp only at h<;>try (cases h;done))
 . rw [aow] at h;rw [h]
 . simp only [amX,ni,aow] at h;rw [sj h.1,h.2]
 . rw [vp,aow] at h;rw [h]
theorem Pg:∀{xs cS:List V},vC xs cS=true->xs=cS
 | [],[],_=>rfl
 | [],_::_,h=>by cases h
 | _::_,[],h=>by cases h
 | x::xs,y::cS,h=>by
   simp only [vC] at h;cases J:vB x y with
   | false=>rw [J] at h;cases h
   | true=>rw [J] at h;rw [ZQ J,Pg h]
theorem ZP {E:Env} {x:V} {X Y:Value} (h:vB x x=true) (dL:Rel E x X) (fV:Rel E x Y):X=Y/\∀n,Instr.sameBits n X X=true:=by
 cases x<;>simp only [vB] at h<;>try (cases h;done)
 . simp only [Rel] at dL fV;subst dL fV;exact ⟨rfl,fun n=>by cases n<;>simp [Instr.sameBits]⟩
 . simp only [Rel] at dL fV;subst dL fV;exact ⟨rfl,fun n=>by cases n<;>simp [Instr.sameBits]⟩
 . simp only [Rel] at dL fV;subst dL fV;exact ⟨rfl,fun n=>by cases n<;>simp [Instr.sameBits,bytes_beq]⟩
theorem Pf {E:Env}:∀{xs:List V} {l gd:List Value},vC xs xs=true->bm E xs l->bm E xs gd->l=gd/\∀n,((l.zip l).all fun (x,y)=>Instr.sameBits n x y)=true
 | [],l,gd,_,J,ad=>by simp only [bm] at J ad;subst J ad;exact ⟨rfl,fun _=>rfl⟩
 | x::xs,l,gd,h,J,ad=>by
   obtain ⟨y,cS,rfl,bR,a2⟩:=J;obtain ⟨qR,amV,rfl,b8,cF⟩:=ad;simp only [vC] at h;cases ao:vB x x with
   | false=>rw [ao] at h;cases h
   | true=>
     rw [ao] at h;obtain ⟨rfl,ag⟩:=ZP ao bR b8;obtain ⟨rfl,av⟩:=Pf h a2 cF;exact ⟨rfl,fun n=>by simp only [List.zip_cons_cons,anX,ag,av,Bool.and_self]⟩
theorem akd {w:World} {E:Env} {dz:TypeId}:xC P w E dz (structEq P dz):=by
 intro k bx K mr b he ar bc;simp only [structEq] at he
 split at he
 case h_2=>cases he
 split at he
 case h_2=>cases he
 rename_i xs _ cS;cases aq:(h8 P 12 dz).run (.agg xs) (.agg cS) with
 | none=>rw [aq] at he;cases he
 | some c=>
   rw [aq] at he;have aM:=HE 12 Op.maxDepth dz _ _ K mr c (by decide) aq ar bc w;cases c with
   | false=>
     simp only [anf,amW] at he;subst he;exact ⟨aM,fun h=>by cases h⟩
   | true=>
     simp only [am4] at he;cases ak:vC xs cS with
     | false=>rw [ak] at he;cases he
     | true=>
       rw [ak] at he;simp only [am4,amW] at he;subst he;refine ⟨aM,fun _=>?_⟩;have:=Pg ak;subst this;simp only [Rel] at ar bc;obtain ⟨a,rfl,J⟩:=ar;obtain ⟨bt,rfl,ad⟩:=bc;obtain ⟨e,q⟩:=Pf ak J ad;have dI:a=bt:=Array.toList_inj.1 e;subst dI;exact ⟨rfl,by show Instr.sameBits (9999+1) _ _=true;simp only [Instr.sameBits,beq_self_eq_true,an2];exact q _⟩
theorem run_checkKey_plain {bl:TypeDesc} (aA:lu bl=true) {t:TypeId} {w:World} (hu:(underlying t).run P w=.ok bl w) (b:Bool) (n:Nat) (v:Value):(Instr.checkKey b (n+1) t v).run P w=.ok () w:=by
 unfold Instr.checkKey;rw [Sem.run_bind,hu];cases bl<;>simp only [lu] at aA<;>first
  | (cases aA;done)
  | rfl
theorem aan {w:World} {E:Env} {cs:List V} {a:Array Value} (bF:bm E cs a.toList) (b:Bool) (n:Nat):∀(cl:List Field),DP P cs cl=true->
 (do for f in cl do
      if f.name≠ "_" then Instr.checkKey b (n+1) f.type (<-part f.type a f.offset):Sem Unit).run P w=.ok () w:=by
 intro cl
 induction cl with
 | nil=>intro _;simp
 | cons f cl bA=>
   intro h;simp only [DP] at h;cases J:(qF P f.type f.offset).run cs with
   | none=>rw [J] at h;cases h
   | some x=>
     rw [J] at h;simp only at h;cases ad:bf P f.type with
     | none=>rw [ad] at h;cases h
     | some la=>
       rw [ad] at h;simp only at h;cases aD:lu la.bl with
       | false=>rw [aD] at h;cases h
       | true=>
         rw [aD] at h;simp only [am4] at h;obtain ⟨X,dL,_⟩:=Cg bF J w;have ay:=run_checkKey_plain (P:=P) aD (fY ad w) b n X;have:=bA h;by_cases aX:f.name= "_"
         . simpa [aX] using this
         . simpa [aX,dL,ay] using this
theorem ake {t:TypeId} (h:mS P t=true) (w:World):∃cl,(underlying t).run P w=.ok (.struct cl) w:=by
 unfold mS at h;cases aE:bf P t with
 | none=>rw [aE] at h;cases h
 | some aO=>
   rw [aE] at h;simp only at h;have hu:=fY aE w;cases b3:aO.bl<;>rw [b3] at h<;>simp only at h<;>try (cases h;done)
   rw [b3] at hu;exact ⟨_,hu⟩
theorem ajD {t:TypeId} {k:V} (al:rH P t k=true) {E:Env} {K:Value} (ay:Rel E k K) {w:World} (b:Bool):(Instr.checkKey b 10000 t K).run P w=.ok () w:=by
 unfold rH at al;cases aE:bf P t with
 | none=>rw [aE] at al;cases al
 | some aO=>
   rw [aE] at al;simp only at al;have hu:=fY aE w;cases b3:aO.bl<;>rw [b3] at al<;>simp only at al<;>try (cases al;done)
   rename_i cl;rw [b3] at hu;cases k<;>simp only at al<;>try (cases al;done)
   rename_i cs;simp only [Rel] at ay;obtain ⟨a,rfl,bF⟩:=ay;show (Instr.checkKey b (9998+1+1) t (.agg a)).run P w=.ok () w;unfold Instr.checkKey;rw [Sem.run_bind,hu];have:=aan (P:=P) (w:=w) bF b 9998 cl.toList al;simp only [Result.andThen_ok,Array.forIn_toList] at this ⊢;exact this
theorem ajF {dz:TypeId} {cl:Array Field} {w:World} (hu:(underlying dz).run P w=.ok (.struct cl) w) {K:Value} {l:List MapEntry} {R:Option (Nat × Value)} (h:(Instr.findAsking dz K l 0).run P w=.ok R w):
 (Instr.findKey dz K l).run P w=.ok R w:=by
 cases l with
 | nil=>
   simp only [Instr.findAsking,Sem.run_pure] at h;cases h;simp [Instr.findKey,hu,Instr.findNow]
 | cons eQ es=>
   have aX:Instr.findNow (.struct cl) K (eQ::es) 0=none:=by simp [Instr.findNow,Instr.sameNow]
   simp [Instr.findKey,hu,aX,h]
structure zN (P:Program) (w:World) (E:Env) (dz:TypeId) (e:ec) (K:Value):Prop where
 eq:xC P w E dz e
 check:∀b,(Instr.checkKey b 10000 dz K).run P w=.ok () w
 find:∀{l:List MapEntry} {R},(Instr.findAsking dz K l 0).run P w=.ok R w->(Instr.findKey dz K l).run P w=.ok R w
theorem G0 {aB:Fr} {E:Env} {h:ah} {w:World} (s:ba aB E h w) {dz:TypeId} (aE:jV P dz=true) (K:Value):zN P w E dz ⟨me h⟩ K:=by obtain ⟨S6,n0⟩:=aiF aE w;exact ⟨aiE s aE,fun b=>ajC n0 b K,fun q=>ajE n0 q⟩
theorem G1 {w:World} {E:Env} {dz:TypeId} (aE:mS P dz=true) {k:V} (al:rH P dz k=true) {K:Value} (ay:Rel E k K):zN P w E dz (structEq P dz) K:=by obtain ⟨cl,n0⟩:=ake aE w;exact ⟨akd,fun b=>ajD al ay b,fun q=>ajF n0 q⟩
end
section
variable {P:Program}
theorem JC {E:Env} {bl:TypeDesc} {k bx:V} {K mr:Value} {b:Bool} (he:(l8 bl).run k bx=some b) (ar:Rel E k K) (bc:Rel E bx mr):
 Instr.sameNow bl K mr=some b/\(b=true->mr=K/\∀n,Instr.sameBits n K K=true):=by
 cases bl<;>simp only [l8] at he<;>try (simp [ec.none] at he;done)
 case bool=>
  simp only [q8] at he;cases k<;>simp only at he<;>try (cases he;done)
  cases bx<;>simp only at he<;>try (cases he;done)
  simp only [Rel] at ar bc;subst ar bc;simp only [amW] at he;subst he;refine ⟨rfl,fun h=>?_⟩;rw [aow] at h;subst h;exact ⟨rfl,fun n=>by cases n<;>simp [Instr.sameBits]⟩
 case int cz=>
  simp only [nj] at he;obtain ⟨j,m,rfl,J⟩:=kB he;clear he;obtain ⟨EB,dA,rfl,ad⟩:=kB J;clear J;obtain ⟨ay,h⟩:=fc ad;clear ad;have:=sj ay;subst this;simp only [Rel] at ar bc;subst ar bc;simp only [amW,ni] at h;subst h;refine ⟨by simp [Instr.sameNow],fun h=>?_⟩;rw [aow] at h;subst h;exact ⟨rfl,fun n=>by cases n<;>simp [Instr.sameBits]⟩
 case string=>
  simp only [vD] at he;cases k<;>simp only at he<;>try (cases he;done)
  cases bx<;>simp only at he<;>try (cases he;done)
  simp only [Rel] at ar bc;subst ar bc;simp only [amW,vp] at he;subst he;refine ⟨by simp only [Instr.sameNow,bytes_beq],fun h=>?_⟩;rw [aow] at h;subst h;exact ⟨rfl,fun n=>by cases n<;>simp [Instr.sameBits,bytes_beq]⟩
theorem run_checkKey {bl:TypeDesc} (aA:lu bl=true) {t:TypeId} {w:World} (hu:(underlying t).run P w=.ok bl w) (b:Bool) (v:Value):(Instr.checkKey b 10000 t v).run P w=.ok () w:=by
 show (Instr.checkKey b (9999+1) t v).run P w=.ok () w;unfold Instr.checkKey;rw [Sem.run_bind,hu];cases bl<;>simp only [lu] at aA<;>first
  | (cases aA;done)
  | rfl
theorem run_findKey {bl:TypeDesc} {t:TypeId} {w:World} (hu:(underlying t).run P w=.ok bl w) {K:Value} {l:List MapEntry} {R:Option (Nat × Value)} (h:Instr.findNow bl K l 0=some R):
 (Instr.findKey t K l).run P w=.ok R w:=by
 simp only [Instr.findKey,Sem.run_bind,hu,Result.andThen_ok,h,Sem.run_pure]
theorem Pz {E:Env} {bl:TypeDesc} {k:V} {K:Value} (ay:Rel E k K):∀(es:List cK) (l:List MapEntry) (r:Option V) (i:Nat),kO (l8 bl) k es=some r->e5 E es l->
 ∃R,Instr.findNow bl K l i=some R/\(match r with
  | none=>R=none
  | some v=>∃j Y,R=some (j,Y)/\Rel E v Y)
 | [],l,r,i,h,aJ=>by simp only [e5] at aJ;subst aJ;simp only [kO,amW] at h;subst h;exact ⟨none,rfl,rfl⟩
 | m::ms,l,r,i,h,aJ=>by
   obtain ⟨e,es,rfl,J,ad,aD,bn⟩:=aJ;simp only [kO] at h;cases aM:(l8 bl).run k m.k with
   | none=>rw [aM] at h;cases h
   | some b=>
     rw [aM] at h;simp only at h;obtain ⟨ag,av⟩:=JC aM ay J;cases b with
     | true=>
       simp only [am4,amW] at h;subst h;exact ⟨some (i,e.val),by simp only [Instr.findNow,ag],i,e.val,rfl,ad⟩
     | false=>
       simp only [anf] at h;obtain ⟨R,g1,g2⟩:=Pz ay ms es r (i+1) h bn;exact ⟨R,by simp only [Instr.findNow,ag,g1],g2⟩
theorem Tr {E:Env} {bl:TypeDesc} {k v:V} {K X:Value} (ay:Rel E k K) (bB:Rel E v X) (clock:Nat):∀(es:List cK) (l:List MapEntry) (r:List cK × Bool) (i:Nat),oy (l8 bl) k v clock es=some r->e5 E es l->
 (r.2=true->Instr.findNow bl K l i=some none/\e5 E r.1 (l++[⟨K,X,clock⟩]))/\
 (r.2=false->∃j e Y,Instr.findNow bl K l i=some (some (i+j,Y))/\l[j]? =some e/\Instr.sameBits 10000 e.key K=true/\e5 E r.1 (l.modify j fun e=>{e with key:=K,val:=X}))
 | [],l,r,i,h,aJ=>by simp only [e5] at aJ;subst aJ;simp only [oy,amW] at h;subst h;exact ⟨fun _=>⟨rfl,_,_,rfl,ay,bB,rfl,rfl⟩,fun h=>by cases h⟩
 | m::ms,l,r,i,h,aJ=>by
   obtain ⟨e,es,rfl,J,ad,aD,bn⟩:=aJ;simp only [oy] at h;cases aM:(l8 bl).run k m.k with
   | none=>rw [aM] at h;cases h
   | some b=>
     rw [aM] at h;simp only at h;obtain ⟨ag,av⟩:=JC aM ay J;cases b with
     | true=>
       simp only [am4,amW] at h;subst h;obtain ⟨aI,bU⟩:=av rfl;refine ⟨fun h=>(by cases h),fun _=>⟨0,e,e.val,by simp only [Instr.findNow,ag,aoA],rfl,by rw [aI];exact bU _,?_⟩⟩;exact ⟨_,es,rfl,ay,bB,aD,bn⟩
     | false=>
       simp only [anf] at h;cases ak:oy (l8 bl) k v clock ms with
       | none=>rw [ak] at h;cases h
       | some bI=>
         rw [ak] at h;simp only [amW] at h;subst h;obtain ⟨g1,g2⟩:=Tr ay bB clock ms es bI (i+1) ak bn;refine ⟨fun h=>?_,fun h=>?_⟩
         . obtain ⟨bR,a2⟩:=g1 h;exact ⟨by simp only [Instr.findNow,ag,bR],⟨e,es++[⟨K,X,clock⟩],rfl,J,ad,aD,a2⟩⟩
         . obtain ⟨j,dI,Y,bR,a2,a3,a4⟩:=g2 h;exact ⟨j+1,dI,Y,by simp only [Instr.findNow,ag,bR];congr 3;omega,by simpa using a2,a3,e,_,rfl,J,ad,aD,a4⟩
theorem JT {aB:Fr} {E:Env} {h:ah} {w:World} (s:ba aB E h w) {x:V} {X:Value} {es:List cK} (he:rP h x=some es) (ar:Rel E x X):
 (X=.map none/\es=[])\/∃r a clock,X=.map (some r)/\(getObj r).run P w=.ok (.map a clock) w/\e5 E es a.toList:=by
 cases x<;>simp only [rP] at he<;>try (cases he;done)
 . simp only [Rel] at ar;exact .inl ⟨ar,by simpa using he.symm⟩
 . rename_i b;simp only [Rel] at ar;obtain ⟨p,ak,rfl⟩:=ar;have aj:=s.at ak;cases al:h.get b<;>rw [al] at he<;>simp only [cm.lD] at he<;>try (cases he;done)
   simp only [amW] at he;subst he;rw [al] at aj;obtain ⟨q,a,J,_,aD,bn⟩:=aj;rw [ak] at J;cases J;exact .inr ⟨p.bj,a,_,rfl,by simp only [getObj,Sem.run,aD];rfl,bn⟩
theorem Pt {bl:TypeDesc} {K:Value}:∀{l:List MapEntry} {i:Nat},(∀e ∈ l,Instr.sameNow bl K e.key=some false)->Instr.findNow bl K l i=some none
 | [],_,_=>rfl
 | e::es,i,h=>by simp only [Instr.findNow,h e (by simp)];exact Pt fun dI e_=>h dI (by simp [e_])
theorem Pv {bl:TypeDesc} {K:Value}:∀{l:List MapEntry} {i:Nat},(∀e ∈ l,∃b,Instr.sameNow bl K e.key=some b)->(∃e ∈ l,Instr.sameNow bl K e.key=some true)->
 ∃j,∃e ∈ l,Instr.sameNow bl K e.key=some true/\Instr.findNow bl K l i=some (some (j,e.val))
 | [],_,_,h=>by obtain ⟨e,he,_⟩:=h;simp at he
 | e::es,i,J,ad=>by
   obtain ⟨b,aj⟩:=J e (by simp);cases b with
   | true=>exact ⟨i,e,by simp,aj,by simp only [Instr.findNow,aj]⟩
   | false=>
     obtain ⟨dI,e_,aE⟩:=ad;simp only [ans] at e_;rcases e_ with rfl | e_
     . rw [aj] at aE;cases aE
     . obtain ⟨j,aN,ag,av,aI⟩:=Pv (i:=i+1) (fun x ar=>J x (by simp [ar])) ⟨dI,e_,aE⟩;exact ⟨j,aN,by simp [ag],av,by simp only [Instr.findNow,aj,aI]⟩
theorem Pw {E:Env} {bl:TypeDesc} {k:V} {K:Value} (ay:Rel E k K):∀(es:List cK) (l:List MapEntry) (r:Option V),kN (l8 bl) k es=some r->lR E es l->
 (∀e ∈ l,∃b,Instr.sameNow bl K e.key=some b)/\(match r with
  | none=>∀e ∈ l,Instr.sameNow bl K e.key=some false
  | some v=>(∃e ∈ l,Instr.sameNow bl K e.key=some true)/\∀e ∈ l,Instr.sameNow bl K e.key=some true->Rel E v e.val)
 | [],l,r,h,aJ=>by simp only [lR] at aJ;subst aJ;simp only [kN,amW] at h;subst h;exact ⟨fun e he=>by simp at he,fun e he=>by simp at he⟩
 | m::ms,l,r,h,aJ=>by
   obtain ⟨e,es,rfl,J,ad,bn⟩:=aJ;simp only [kN] at h;cases aA:kN (l8 bl) k ms with
   | none=>rw [aA] at h;cases h
   | some bI=>
     rw [aA] at h;simp only at h;obtain ⟨g1,g2⟩:=Pw ay ms es bI aA bn;cases aM:(l8 bl).run k m.k with
     | none=>rw [aM] at h;cases h
     | some b=>
       rw [aM] at h;simp only at h;obtain ⟨ag,_⟩:=JC aM ay J;have Ip:∀dI ∈ e::es,∃b,Instr.sameNow bl K dI.key=some b:=by
        intro dI e_;rcases ans.1 e_ with rfl | e_
        . exact ⟨b,ag⟩
        . exact g1 dI e_
       refine ⟨Ip,?_⟩;cases b with
       | true=>
         simp only [am4] at h;cases bI with
         | some _=>cases h
         | none=>
           simp only [amW] at h;subst h;refine ⟨⟨e,by simp,ag⟩,fun dI e_ aE=>?_⟩;rcases ans.1 e_ with rfl | e_
           . exact ad
           . have:=g2 dI e_;rw [aE] at this;cases this
       | false=>
         simp only [anf,amW] at h;subst h;cases bI with
         | none=>
           intro dI e_;rcases ans.1 e_ with rfl | e_
           . exact ag
           . exact g2 dI e_
         | some v=>
           obtain ⟨⟨dJ,fe,fu⟩,y3⟩:=g2;refine ⟨⟨dJ,by simp [fe],fu⟩,fun dI e_ aE=>?_⟩;rcases ans.1 e_ with rfl | e_
           . rw [ag] at aE;cases aE
           . exact y3 dI e_ aE
theorem aae {E:Env} {bl:TypeDesc} {k:V} {K:Value} (ay:Rel E k K) {es:List cK} {l a:List MapEntry} {r:Option V} (h:kN (l8 bl) k es=some r) (aJ:lR E es l) (ak:l.Perm a):
 ∃R,Instr.findNow bl K a 0=some R/\(match r with
  | none=>R=none
  | some v=>∃j Y,R=some (j,Y)/\Rel E v Y):=by
 obtain ⟨J,ad⟩:=Pw ay es l r h aJ;have hm:∀e,e ∈ a↔e ∈ l:=fun e=>ak.mem_iff.symm;cases r with
 | none=>exact ⟨none,Pt fun e he=>ad e ((hm e).1 he),rfl⟩
 | some v=>
   obtain ⟨⟨dJ,fe,fu⟩,y3⟩:=ad;obtain ⟨j,e,ag,av,aI⟩:=Pv (i:=0) (fun e he=>J e ((hm e).1 he)) ⟨dJ,(hm dJ).2 fe,fu⟩;exact ⟨_,aI,j,e.val,rfl,y3 e ((hm e).1 ag) av⟩
theorem agY {e:ec} {z:V} {ok:Bool} {h:ah} {x k v:V} (he:kA e z ok h x k=some v):
 nC e z ok h x k=some v\/∃b es r,x=.map b/\h.get b=.iy es/\kN e k es=some r/\v=(match r with
  | some u=>bif ok then .tuple [u,.bool true] else u
  | none=>bif ok then .tuple [z,.bool false] else z):=by
 unfold kA at he;cases x<;>simp only at he<;>try (exact .inl he)
 rename_i b;cases al:h.get b<;>rw [al] at he<;>simp only at he<;>try (exact .inl he)
 rename_i es;cases aA:kN e k es with
 | none=>rw [aA] at he;cases he
 | some r=>
   rw [aA] at he;refine .inr ⟨b,es,r,rfl,al,aA,?_⟩;cases r<;>simp only [amW] at he<;>exact he.symm
theorem agX {aB:Fr} {E:Env} {h:ah} {w:World} (s:ba aB E h w) {t:TypeId} {ok:Bool} {x k v:V} {X K:Value} (ar:Rel E x X) (ay:Rel E k K) (he:(EU P t ok).run h x k=some v):
 ∃Z,(Instr.lookup t X K ok).run P w=.ok Z w/\Rel E v Z:=by
 unfold EU at he;cases aE:bf P t with
 | none=>rw [aE] at he;cases he
 | some aO=>
   rw [aE] at he;simp only at he;have hu:=fY aE w;cases b3:aO.bl<;>rw [b3] at he<;>simp only at he<;>try (cases he;done)
   rename_i dz k';rw [b3] at hu;cases qj:bf P dz with
   | none=>rw [qj] at he;cases he
   | some g'=>
     rw [qj] at he;simp only at he;cases het:bf P k' with
     | none=>rw [het] at he;cases he
     | some bh=>
       rw [het] at he;simp only at he;cases bG:bh.zero with
       | none=>rw [bG] at he;cases he
       | some z=>
         rw [bG] at he;simp only at he;cases aA:lu g'.bl with
         | false=>
           rw [aA] at he;simp only [anf] at he;have tN:∃e,zN P w E dz e K/\nC e z ok h x k=some v:=by
            cases qq:jV P dz with
            | true=>
              rw [qq] at he;exact ⟨_,G0 s qq K,he⟩
            | false=>
              rw [qq] at he;simp only [anf] at he;cases c2:mS P dz with
              | false=>rw [c2] at he;cases he
              | true=>
                rw [c2] at he;simp only [am4] at he;obtain ⟨al,he⟩:=fc he;exact ⟨_,G1 c2 al ay,he⟩
           clear he;obtain ⟨e,ask,he⟩:=tN;obtain ⟨u1,oa,nx,_⟩:=zt (P:=P) het bG E w;simp only [nC] at he;cases hm:rP h x with
           | none=>rw [hm] at he;cases he
           | some es=>
             rw [hm] at he;simp only at he;cases ri:kO e k es with
             | none=>rw [ri] at he;cases he
             | some r=>
               rw [ri] at he;simp only at he;have main:∀(l:List MapEntry),e5 E es l->∃R,(Instr.findKey dz K l).run P w=.ok R w/\
                ((R=none/\Rel E v (if ok=true then .tuple #[u1,.bool false] else u1))\/∃j Y,R=some (j,Y)/\Rel E v (if ok=true then .tuple #[Y,.bool true] else Y)):=by
                intro l ax;obtain ⟨R,g1,g2⟩:=Pr ask.eq ay es l r 0 ri ax;refine ⟨R,ask.find g1,?_⟩;cases r with
                | none=>
                  simp only at g2 he;refine .inl ⟨g2,?_⟩;simp only [amW] at he;subst he;cases ok
                  . exact nx
                  . simp only [am4,anz,Rel,bm];exact ⟨_,rfl,_,_,rfl,nx,_,_,rfl,rfl,rfl⟩
                | some u=>
                  simp only at g2 he;obtain ⟨j,Y,cV,fV⟩:=g2;refine .inr ⟨j,Y,cV,?_⟩;simp only [amW] at he;subst he;cases ok
                  . exact fV
                  . simp only [am4,anz,Rel,bm];exact ⟨_,rfl,_,_,rfl,fV,_,_,rfl,rfl,rfl⟩
               rcases JT (P:=P) s hm ar with ⟨rfl,rfl⟩ | ⟨bb,a,clock,rfl,fp,Bd⟩
               . obtain ⟨R,g1,g2⟩:=main [] rfl;have kQ:=ask.check true;rcases g2 with ⟨rfl,g3⟩ | ⟨j,Y,rfl,g3⟩
                 all_goals
                  refine ⟨_,?_,g3⟩;simp only [Instr.lookup,Sem.run_bind,hu,Result.andThen_ok,Sem.run_pure];have an:(#[]:Array MapEntry).isEmpty=true:=rfl;rw [an,kQ,Result.andThen_ok,g1,Result.andThen_ok];simp only [Sem.run_bind,oa,Result.andThen_ok,Sem.run_pure]
               . obtain ⟨R,g1,g2⟩:=main a.toList Bd;have kQ:=ask.check a.isEmpty;rcases g2 with ⟨rfl,g3⟩ | ⟨j,Y,rfl,g3⟩
                 all_goals
                  refine ⟨_,?_,g3⟩;simp only [Instr.lookup,Sem.run_bind,hu,Result.andThen_ok,Sem.run_pure,fp];rw [kQ,Result.andThen_ok,g1,Result.andThen_ok];simp only [Sem.run_bind,oa,Result.andThen_ok,Sem.run_pure]
         | true=>
           rw [aA] at he;simp only [am4] at he;obtain ⟨u1,oa,nx,_⟩:=zt (P:=P) het bG E w;have n0:=fY qj w;rcases agY he with he | ⟨b,es,r,rfl,al,abT,rfl⟩
           case inr=>
            simp only [Rel] at ar;obtain ⟨p,ak,rfl⟩:=ar;have aj:=s.at ak;rw [al] at aj;obtain ⟨p',a,c,l,hN,_,bo,acW,acX⟩:=aj;rw [ak] at hN;cases hN;obtain ⟨R,g1,g2⟩:=aae ay abT acW acX;have fp:(getObj p.bj).run P w=.ok (.map a c) w:=by simp only [getObj,Sem.run,bo]
            have kQ:=run_checkKey (P:=P) aA n0 a.isEmpty K;have DW:=run_findKey n0 g1;cases r with
            | none=>
              simp only at g2;subst g2;refine ⟨if ok=true then .tuple #[u1,.bool false] else u1,?_,?_⟩
              . simp only [Instr.lookup,Sem.run_bind,hu,Result.andThen_ok,Sem.run_pure,fp];rw [kQ,Result.andThen_ok,DW,Result.andThen_ok];simp only [Sem.run_bind,oa,Result.andThen_ok,Sem.run_pure]
              . cases ok
                . exact nx
                . simp only [am4,anz,Rel,bm];exact ⟨_,rfl,_,_,rfl,nx,_,_,rfl,rfl,rfl⟩
            | some u=>
              simp only at g2;obtain ⟨j,Y,rfl,fV⟩:=g2;refine ⟨if ok=true then .tuple #[Y,.bool true] else Y,?_,?_⟩
              . simp only [Instr.lookup,Sem.run_bind,hu,Result.andThen_ok,Sem.run_pure,fp];rw [kQ,Result.andThen_ok,DW,Result.andThen_ok];simp only [Sem.run_bind,Sem.run_pure,Result.andThen_ok]
              . cases ok
                . exact fV
                . simp only [am4,anz,Rel,bm];exact ⟨_,rfl,_,_,rfl,fV,_,_,rfl,rfl,rfl⟩
           simp only [nC] at he;cases hm:rP h x with
           | none=>rw [hm] at he;cases he
           | some es=>
             rw [hm] at he;simp only at he;cases ri:kO (l8 g'.bl) k es with
             | none=>rw [ri] at he;cases he
             | some r=>
               rw [ri] at he;simp only at he;have main:∀(l:List MapEntry),e5 E es l->∃R,(Instr.findKey dz K l).run P w=.ok R w/\
                ((R=none/\Rel E v (if ok=true then .tuple #[u1,.bool false] else u1))\/∃j Y,R=some (j,Y)/\Rel E v (if ok=true then .tuple #[Y,.bool true] else Y)):=by
                intro l ax;obtain ⟨R,g1,g2⟩:=Pz ay es l r 0 ri ax;refine ⟨R,run_findKey n0 g1,?_⟩;cases r with
                | none=>
                  simp only at g2 he;refine .inl ⟨g2,?_⟩;simp only [amW] at he;subst he;cases ok
                  . exact nx
                  . simp only [am4,anz,Rel,bm];exact ⟨_,rfl,_,_,rfl,nx,_,_,rfl,rfl,rfl⟩
                | some u=>
                  simp only at g2 he;obtain ⟨j,Y,cV,fV⟩:=g2;refine .inr ⟨j,Y,cV,?_⟩;simp only [amW] at he;subst he;cases ok
                  . exact fV
                  . simp only [am4,anz,Rel,bm];exact ⟨_,rfl,_,_,rfl,fV,_,_,rfl,rfl,rfl⟩
               rcases JT (P:=P) s hm ar with ⟨rfl,rfl⟩ | ⟨bb,a,clock,rfl,fp,Bd⟩
               . obtain ⟨R,g1,g2⟩:=main [] rfl;have kQ:=run_checkKey (P:=P) aA n0 true K;rcases g2 with ⟨rfl,g3⟩ | ⟨j,Y,rfl,g3⟩
                 all_goals
                  refine ⟨_,?_,g3⟩;simp only [Instr.lookup,Sem.run_bind,hu,Result.andThen_ok,Sem.run_pure];have an:(#[]:Array MapEntry).isEmpty=true:=rfl;rw [an,kQ,Result.andThen_ok,g1,Result.andThen_ok];simp only [Sem.run_bind,oa,Result.andThen_ok,Sem.run_pure]
               . obtain ⟨R,g1,g2⟩:=main a.toList Bd;have kQ:=run_checkKey (P:=P) aA n0 a.isEmpty K;rcases g2 with ⟨rfl,g3⟩ | ⟨j,Y,rfl,g3⟩
                 all_goals
                  refine ⟨_,?_,g3⟩;simp only [Instr.lookup,Sem.run_bind,hu,Result.andThen_ok,Sem.run_pure,fp];rw [kQ,Result.andThen_ok,g1,Result.andThen_ok];simp only [Sem.run_bind,oa,Result.andThen_ok,Sem.run_pure]
theorem UH {aB:Fr} {E:Env} {h aa:ah} {w:World} (s:ba aB E h w) {t:TypeId} {x k v:V} {X K Y:Value} (ar:Rel E x X) (ay:Rel E k K) (bB:Rel E v Y) (he:(pR P t).run h x k v=some aa):
 ∃w',(Instr.mapUpdate t X K Y).run P w=.ok () w'/\ba aB E aa w':=by
 unfold pR at he;cases aE:bf P t with
 | none=>rw [aE] at he;cases he
 | some aO=>
   rw [aE] at he;simp only at he;have hu:=fY aE w;cases b3:aO.bl<;>rw [b3] at he<;>simp only at he<;>try (cases he;done)
   rename_i dz k';rw [b3] at hu;cases qj:bf P dz with
   | none=>rw [qj] at he;cases he
   | some g'=>
     rw [qj] at he;simp only at he;cases aA:lu g'.bl with
     | false=>
       rw [aA] at he;simp only [anf] at he;have tN:∃e,zN P w E dz e K/\pS e h x k v=some aa:=by
        cases qq:jV P dz with
        | true=>
          rw [qq] at he;exact ⟨_,G0 s qq K,he⟩
        | false=>
          rw [qq] at he;simp only [anf] at he;cases c2:mS P dz with
          | false=>rw [c2] at he;cases he
          | true=>
            rw [c2] at he;simp only [am4] at he;obtain ⟨al,he⟩:=fc he;exact ⟨_,G1 c2 al ay,he⟩
       clear he;obtain ⟨e,ask,he⟩:=tN;cases x<;>simp only [pS] at he<;>try (cases he;done)
       rename_i b;simp only [Rel] at ar;obtain ⟨p,ak,rfl⟩:=ar;have aj:=s.at ak;cases al:h.get b<;>rw [al] at he<;>simp only [cm.lD] at he<;>try (cases he;done)
       rename_i es clock;rw [al] at aj;obtain ⟨q,a,J,dr,aD,bn⟩:=aj;rw [ak] at J;cases J;cases wj:oy e k v clock es with
       | none=>rw [wj] at he;cases he
       | some r=>
         rw [wj] at he;simp only [amW] at he;subst he;have fp:(getObj p.bj).run P w=.ok (.map a clock) w:=by simp only [getObj,Sem.run,aD]
         have kQ:=ask.check false;have l3:=(am1.1 aD).1;have AG:∀(bt:Array MapEntry) (hU:Nat),e5 E r.1 bt.toList->hU=(bif r.2 then clock+1 else clock)->
          ∃w',(setObj p.bj (.map bt hU)).run P w=.ok () w'/\ba aB E (h.set b (.mp r.1 (bif r.2 then clock+1 else clock))) w':=by
          intro bt hU hm ao;refine ⟨{w with heap:=w.heap.setIfInBounds p.bj (.map bt hU)},by simp only [setObj,Sem.run,aD],s.set (p:=p) (by rw [al];rfl) ak dr (by simp) (fun j bJ=>?_) rfl rfl rfl (fun _ _ _ e=>by cases e) ?_⟩
          . simp only [ank];rw [am7 (fun e=>bJ e.symm)]
          . exact ⟨p,bt,ak,dr,by simp [l3,ao],hm⟩
         obtain ⟨g1,g2⟩:=To ask.eq ay bB clock es a.toList r 0 wj bn;cases mD:r.2 with
         | true=>
           obtain ⟨bR,a2⟩:=g1 mD;obtain ⟨w',d1,d2⟩:=AG (a.push ⟨K,Y,clock⟩) (clock+1) (by simpa using a2) (by rw [mD];rfl);rw [mD] at d2;refine ⟨w',?_,d2⟩;simp only [Instr.mapUpdate,Sem.run_bind,hu,Result.andThen_ok,fp,kQ,ask.find bR,d1]
         | false=>
           obtain ⟨j,eQ,VB,bR,a2,a3,a4⟩:=g2 mD;obtain ⟨w',d1,d2⟩:=AG (a.modify j fun eQ=>{eQ with key:=K,val:=Y}) clock (by simpa using a4) (by rw [mD];rfl);rw [mD] at d2;refine ⟨w',?_,d2⟩;rw [anB] at bR;have an:a[j]? =some eQ:=by simpa using a2
           simp only [Instr.mapUpdate,Sem.run_bind,hu,Result.andThen_ok,fp,kQ,ask.find bR,an,Option.map,Option.getD,Instr.keyThatStays,a3,anz,Sem.run_pure,d1]
     | true=>
       rw [aA] at he;simp only [am4] at he;have n0:=fY qj w;cases x<;>simp only [pS] at he<;>try (cases he;done)
       rename_i b;simp only [Rel] at ar;obtain ⟨p,ak,rfl⟩:=ar;have aj:=s.at ak;cases al:h.get b<;>rw [al] at he<;>simp only [cm.lD] at he<;>try (cases he;done)
       rename_i es clock;rw [al] at aj;obtain ⟨q,a,J,dr,aD,bn⟩:=aj;rw [ak] at J;cases J;cases wj:oy (l8 g'.bl) k v clock es with
       | none=>rw [wj] at he;cases he
       | some r=>
         rw [wj] at he;simp only [amW] at he;subst he;have fp:(getObj p.bj).run P w=.ok (.map a clock) w:=by simp only [getObj,Sem.run,aD]
         have kQ:=run_checkKey (P:=P) aA n0 false K;have l3:=(am1.1 aD).1;have done:∀(bt:Array MapEntry) (hU:Nat),e5 E r.1 bt.toList->hU=(bif r.2 then clock+1 else clock)->
          ∃w',(setObj p.bj (.map bt hU)).run P w=.ok () w'/\ba aB E (h.set b (.mp r.1 (bif r.2 then clock+1 else clock))) w':=by
          intro bt hU hm ao;refine ⟨{w with heap:=w.heap.setIfInBounds p.bj (.map bt hU)},by simp only [setObj,Sem.run,aD],s.set (p:=p) (by rw [al];rfl) ak dr (by simp) (fun j bJ=>?_) rfl rfl rfl (fun _ _ _ e=>by cases e) ?_⟩
          . simp only [ank];rw [am7 (fun e=>bJ e.symm)]
          . exact ⟨p,bt,ak,dr,by simp [l3,ao],hm⟩
         obtain ⟨g1,g2⟩:=Tr ay bB clock es a.toList r 0 wj bn;cases mD:r.2 with
         | true=>
           obtain ⟨bR,a2⟩:=g1 mD;obtain ⟨w',d1,d2⟩:=done (a.push ⟨K,Y,clock⟩) (clock+1) (by simpa using a2) (by rw [mD];rfl);rw [mD] at d2;refine ⟨w',?_,d2⟩;simp only [Instr.mapUpdate,Sem.run_bind,hu,Result.andThen_ok,fp,kQ,run_findKey n0 bR,d1]
         | false=>
           obtain ⟨j,e,VB,bR,a2,a3,a4⟩:=g2 mD;obtain ⟨w',d1,d2⟩:=done (a.modify j fun e=>{e with key:=K,val:=Y}) clock (by simpa using a4) (by rw [mD];rfl);rw [mD] at d2;refine ⟨w',?_,d2⟩;rw [anB] at bR;have an:a[j]? =some e:=by simpa using a2
           simp only [Instr.mapUpdate,Sem.run_bind,hu,Result.andThen_ok,fp,kQ,run_findKey n0 bR,an,Option.map,Option.getD,Instr.keyThatStays,a3,anz,Sem.run_pure,d1]
theorem Sv {aB:Fr} {E:Env} {h aa:ah} {w:World} (s:ba aB E h w) {v:V} (he:y9 h=.val v aa):dH aB P E w (do pure (.map (some (<-newObj (.map #[] 0))))) v aa:=by
 unfold y9 at he;simp only [a7.val.injEq] at he;obtain ⟨rfl,rfl⟩:=he;have d_:=s.fresh h.next (am6 _)
 have eL:E.put (aC h.next) ⟨w.heap.size,0,0⟩ (aC h.next)=some ⟨w.heap.size,0,0⟩:=by unfold Env.put;rw [anb rfl]
 refine ⟨.map (some w.heap.size),{w with heap:=w.heap.push (.map #[] 0)},_,?_,Env.nB (p:=⟨w.heap.size,0,0⟩) d_,?_,s.alloc 0 ?_⟩
 . simp only [Sem.run_bind,run_newObj,Result.andThen_ok,Sem.run_pure]
 . simp only [Rel];exact ⟨_,eL,rfl⟩
 . exact ⟨_,#[],eL,s.frame.size,by simp,rfl⟩
theorem ag2 {aB:Fr} {E:Env} {h aa:ah} {w:World} (s:ba aB E h w) {t:TypeId} {x:Option V} {X:Option Value} {v:V} (ar:iA E x X) (he:y2 P t x h=.val v aa):dH aB P E w (Instr.makeMap t X) v aa:=by
 unfold y2 at he;cases aE:bf P t with
 | none=>rw [aE] at he;cases he
 | some aO=>
   rw [aE] at he;simp only at he;have hu:=fY aE;cases aj:Nat.beq (fx aO.bl) 3 with
   | false=>rw [aj] at he;cases he
   | true=>
     rw [aj] at he;simp only [am4] at he;cases x with
     | none=>
       have:X=none:=by cases X with | none=>rfl | some _=>simp [iA] at ar
       subst this;simp only [wS] at he;have:=Sv (P:=P) s he;exact this
     | some u=>
       simp only [wS] at he;obtain ⟨dy,n,rfl,J⟩:=sZ he;obtain ⟨Y,rfl,fV⟩:∃Y,X=some Y/\Rel E (.int dy n) Y:=by
        cases X with
        | none=>simp [iA] at ar
        | some Y=>simp only [iA] at ar;obtain ⟨LF,J,ad⟩:=ar;cases J;exact ⟨_,rfl,ad⟩
       have:=fV.jA;subst this;obtain ⟨Z,w',aw,ag,av⟩:=Sv (P:=P) s J;refine ⟨Z,w',aw,?_,av⟩;cases b3:aO.bl<;>rw [b3] at aj<;>simp [fx] at aj;have hu:=hu w;rw [b3] at hu;simp only [Instr.makeMap,Sem.run_bind,hu,Result.andThen_ok,asInt,Sem.run_pure];exact ag
theorem agu {aB:Fr} {E:Env} {h aa:ah} {w:World} (s:ba aB E h w) {t:TypeId} {aO:oK} (aE:bf P t=some aO) (hm:ue aO.bl=true) {x v:V} {X:Value} (ar:Rel E x X) (ty:TypeId) (rest:List TypeId)
 (he:BQ [x] h=.val v aa):dH aB P E w (Builtin.len_ (t::rest).toArray ty #[X]) v aa:=by
 simp only [BQ] at he;cases aM:rP h x with
 | none=>rw [aM] at he;cases he
 | some es=>
   rw [aM] at he;simp only [a7.val.injEq] at he;obtain ⟨rfl,rfl⟩:=he;have hu:=fY aE w;cases b3:aO.bl<;>rw [b3] at hm<;>simp [ue] at hm;rw [b3] at hu;rcases JT (P:=P) s aM ar with ⟨rfl,rfl⟩ | ⟨bb,a,clock,rfl,fp,Bd⟩
   . refine dH.plain (Z:=goInt 0) s ?_ (by simp [Rel,goInt]);simp [Builtin.len_,hu]
   . have hlen:∀(ms:List cK) (l:List MapEntry),e5 E ms l->l.length=ms.length:=by
      intro ms
      induction ms with
      | nil=>intro l h;simp only [e5] at h;subst h;rfl
      | cons m ms bA=>intro l h;obtain ⟨e,es,rfl,_,_,_,bn⟩:=h;simp [bA _ bn]
     refine dH.plain (Z:=goInt a.size) s ?_ ?_
     . simp [Builtin.len_,hu,fp]
     . have:=hlen _ _ Bd;simp only [Array.length_toList] at this;simp [Rel,goInt,this]
end
section
variable {P:Program}
theorem Pq {E:Env} {v:V} {Y:Value} (bB:Rel E v Y) {n:Nat}:∀(es:List cK) (l:List MapEntry) (r:List cK),x6 n v es=some r->e5 E es l->
 ∃j,l.findIdx? (fun e=>(e.born:Int) == (n:Int))=some j/\e5 E r (l.modify j fun e=>{e with val:=Y})
 | [],l,r,h,aJ=>by cases h
 | m::ms,l,r,h,aJ=>by
   obtain ⟨e,es,rfl,J,ad,aD,bn⟩:=aJ;simp only [x6] at h;cases aj:Nat.beq m.born n with
   | true=>
     rw [aj] at h;simp only [am4,amW] at h;subst h;have aX:=anP aj;refine ⟨0,by simp [List.findIdx?_cons,aD,aX],?_⟩;exact ⟨_,es,rfl,J,bB,aD,bn⟩
   | false=>
     rw [aj] at h;simp only [anf] at h;cases aA:x6 n v ms with
     | none=>rw [aA] at h;cases h
     | some bI=>
       rw [aA] at h;simp only [amW] at h;subst h;obtain ⟨j,g1,g2⟩:=Pq bB ms es bI aA bn;have ez:¬((e.born:Int) == (n:Int))=true:=by
        rw [aD];intro aq;have wm:(m.born:Int)=(n:Int):=by simpa using aq
        have acB:m.born=n:=by omega
        rw [acB,ao9] at aj;cases aj
       refine ⟨j+1,by simp only [List.findIdx?_cons,ez];simp [g1],⟨e,_,by simp [List.modify],J,ad,aD,g2⟩⟩
theorem ZL {aB:Fr} {E:Env} {h aa:ah} {w:World} (s:ba aB E h w) {t:TypeId} {x st v:V} {X S Y:Value} (ar:Rel E x X) (c2:Rel E st S) (bB:Rel E v Y) (he:AH h x st v=some aa):
 ∃w',(Instr.entryStore t X S Y).run P w=.ok () w'/\ba aB E aa w':=by
 unfold AH at he
 split at he
 case h_2=>cases he
 rename_i b
 split at he
 case h_2=>cases he
 rename_i dy m
 split at he
 case h_2=>cases he
 rename_i n;simp only [Rel] at ar c2;obtain ⟨p,ak,rfl⟩:=ar;subst c2;have aj:=s.at ak;cases al:h.get b<;>rw [al] at he<;>simp only [cm.lD] at he<;>try (cases he;done)
 rename_i es clock;rw [al] at aj;obtain ⟨q,a,J,dr,aD,bn⟩:=aj;rw [ak] at J;cases J;cases aA:x6 n v es with
 | none=>rw [aA] at he;cases he
 | some r=>
   rw [aA] at he;simp only [amW] at he;subst he;obtain ⟨j,g1,g2⟩:=Pq bB es a.toList r aA bn;have fp:(getObj p.bj).run P w=.ok (.map a clock) w:=by simp only [getObj,Sem.run,aD]
   have l3:=(am1.1 aD).1;have DW:a.findIdx? (fun e=>(e.born:Int) == (n:Int))=some j:=by rw [<-g1];cases a with | mk amd=>simp
   have bF:(asInt (.int dy (Int.ofNat n))).run P w=.ok (n:Int) w:=by simp [asInt,asIntOf]
   refine ⟨{w with heap:=w.heap.setIfInBounds p.bj (.map (a.modify j fun e=>{e with val:=Y}) clock)},?_,s.set (p:=p) (by rw [al];rfl) ak dr (by simp) (fun j bJ=>?_) rfl rfl rfl (fun _ _ _ e=>by cases e) ?_⟩
   . simp only [Instr.entryStore,Sem.run_bind,fp,Result.andThen_ok,bF,DW,setObj,Sem.run,aD]
   . simp only [ank];rw [am7 (fun e=>bJ e.symm)]
   . exact ⟨p,a.modify j fun e=>{e with val:=Y},ak,dr,by simp [l3],by rw [Array.toList_modify];exact g2⟩
theorem Ps {w:World} {E:Env} {dz:TypeId} {e:ec} (j5:xC P w E dz e) {k:V} {K:Value} (ay:Rel E k K):∀(es:List cK) (l:List MapEntry) (r:Option cK) (i:Nat),x7 e k es=some r->e5 E es l->
 (r=none->(Instr.findAsking dz K l i).run P w=.ok none w)/\
 (∀m,r=some m->∃j eQ,(Instr.findAsking dz K l i).run P w=.ok (some (i+j,eQ.val)) w/\l[j]? =some eQ/\eQ.key=K/\Rel E m.v eQ.val/\eQ.born=m.born/\Instr.sameBits 10000 K K=true/\e5 E es (l.modify j fun eQ=>{eQ with key:=K}))
 | [],l,r,i,h,aJ=>by simp only [e5] at aJ;subst aJ;simp only [x7,amW] at h;subst h;exact ⟨fun _=>rfl,fun m hm=>by cases hm⟩
 | m::ms,l,r,i,h,aJ=>by
   obtain ⟨eQ,es,rfl,J,ad,aD,bn⟩:=aJ;simp only [x7] at h;cases aM:e.run k m.k with
   | none=>rw [aM] at h;cases h
   | some b=>
     rw [aM] at h;simp only at h;obtain ⟨ag,av⟩:=j5 _ _ _ _ _ aM ay J;cases b with
     | true=>
       simp only [am4,amW] at h;subst h;obtain ⟨aI,bU⟩:=av rfl;refine ⟨fun h=>(by cases h),fun dA hm=>?_⟩;cases hm;exact ⟨0,eQ,by simp [Instr.findAsking,ag],rfl,aI,ad,aD,bU,⟨_,es,rfl,by rw [<-aI];exact J,ad,aD,bn⟩⟩
     | false=>
       simp only [anf] at h;obtain ⟨g1,g2⟩:=Ps j5 ay ms es r (i+1) h bn;refine ⟨fun h=>by simp [Instr.findAsking,ag,g1 h],fun dA hm=>?_⟩;obtain ⟨j,ZK,bR,a2,a3,a4,a5,mv,GP⟩:=g2 dA hm;exact ⟨j+1,ZK,by simp [Instr.findAsking,ag,bR];omega,by simpa using a2,a3,a4,a5,mv,⟨eQ,_,rfl,J,ad,aD,GP⟩⟩
theorem Sf {aB:Fr} {E:Env} {h aa:ah} {w:World} (s:ba aB E h w) {t dz k':TypeId} (hu:(underlying t).run P w=.ok (.map dz k') w) {e:ec} {z:V} {Z:Value} (bG:(zeroValue k').run P w=.ok Z w) (nx:Rel E z Z)
 {x k v:V} {X K:Value} (ar:Rel E x X) (ay:Rel E k K) (ask:zN P w E dz e K) (he:y5 e z h x k=some (v,aa)):dH aB P E w (Instr.mapEntry t X K) v aa:=by
 unfold y5 at he
 split at he
 case h_2=>cases he
 rename_i b;simp only [Rel] at ar;obtain ⟨p,ak,rfl⟩:=ar;have aj:=s.at ak;cases al:h.get b<;>rw [al] at he<;>simp only [cm.lD] at he<;>try (cases he;done)
 rename_i es clock;rw [al] at aj;obtain ⟨q,a,J,dr,aD,bn⟩:=aj;rw [ak] at J;cases J;have fp:(getObj p.bj).run P w=.ok (.map a clock) w:=by simp only [getObj,Sem.run,aD]
 have kQ:=ask.check false;have l3:=(am1.1 aD).1;have AG:∀(q9:List cK) (bt:Array MapEntry) (hU:Nat),e5 E q9 bt.toList->
  ∃w',(setObj p.bj (.map bt hU)).run P w=.ok () w'/\ba aB E (h.set b (.mp q9 hU)) w':=by
  intro q9 bt hU hm;refine ⟨{w with heap:=w.heap.setIfInBounds p.bj (.map bt hU)},by simp only [setObj,Sem.run,aD],s.set (p:=p) (by rw [al];rfl) ak dr (by simp) (fun j bJ=>?_) rfl rfl rfl (fun _ _ _ e=>by cases e) ?_⟩
  . simp only [ank];rw [am7 (fun e=>bJ e.symm)]
  . exact ⟨p,bt,ak,dr,by simp [l3],hm⟩
 cases aA:x7 e k es with
 | none=>rw [aA] at he;cases he
 | some r=>
   rw [aA] at he;simp only at he;obtain ⟨g1,g2⟩:=Ps ask.eq ay es a.toList r 0 aA bn;cases r with
   | none=>
     simp only [amW,aoi] at he;obtain ⟨rfl,rfl⟩:=he;have bR:=ask.find (g1 rfl);obtain ⟨w',d1,d2⟩:=AG (es++[⟨k,z,clock⟩]) (a.push ⟨K,Z,clock⟩) (clock+1) (by
      have:∀(es:List cK) (l:List MapEntry),e5 E es l->e5 E (es++[⟨k,z,clock⟩]) (l++[⟨K,Z,clock⟩]):=by
       intro es
       induction es with
       | nil=>intro l ax;simp only [e5] at ax;subst ax;exact ⟨_,_,rfl,ay,nx,rfl,rfl⟩
       | cons m ms bA=>intro l ax;obtain ⟨eQ,q9,rfl,b8,cF,k6,nQ⟩:=ax;exact ⟨eQ,_,rfl,b8,cF,k6,bA _ nQ⟩
      simpa using this es a.toList bn)
     refine ⟨.tuple #[Z,goInt clock],w',E,?_,Env.le.refl E,?_,d2⟩
     . simp only [Instr.mapEntry,Sem.run_bind,hu,Result.andThen_ok,fp,kQ,bR,bG,d1,Sem.run_pure]
     . simp only [Rel,bm];exact ⟨_,rfl,_,_,rfl,nx,_,_,rfl,rfl,rfl⟩
   | some m=>
     simp only [amW,aoi] at he;obtain ⟨rfl,rfl⟩:=he;obtain ⟨j,eQ,bR,a2,a3,a4,a5,mv,GP⟩:=g2 m rfl;rw [anB] at bR;have b8:=ask.find bR;have an:a[j]? =some eQ:=by simpa using a2
     obtain ⟨w',d1,d2⟩:=AG es (a.modify j fun eQ=>{eQ with key:=K}) clock (by rw [Array.toList_modify];exact GP);refine ⟨.tuple #[eQ.val,goInt eQ.born],w',E,?_,Env.le.refl E,?_,d2⟩
     . simp only [Instr.mapEntry,Sem.run_bind,hu,Result.andThen_ok,fp,kQ,b8,an,Option.map,Option.getD,a3,Instr.keyThatStays,mv,anz,Sem.run_pure,d1]
     . simp only [Rel,bm];exact ⟨_,rfl,_,_,rfl,a4,_,_,rfl,by rw [a5];rfl,rfl⟩
theorem ag6 {aB:Fr} {E:Env} {h aa:ah} {w:World} (s:ba aB E h w) {t:TypeId} {x k v:V} {X K:Value} (ar:Rel E x X) (ay:Rel E k K) (he:(EX P t).run x k h=.val v aa):dH aB P E w (Instr.mapEntry t X K) v aa:=by
 unfold EX at he;cases aE:bf P t with
 | none=>rw [aE] at he;cases he
 | some aO=>
   rw [aE] at he;simp only at he;have hu:=fY aE w;cases b3:aO.bl<;>rw [b3] at he<;>simp only at he<;>try (cases he;done)
   rename_i dz k';rw [b3] at hu;cases het:bf P k' with
   | none=>rw [het] at he;cases he
   | some bh=>
     rw [het] at he;simp only at he;cases bG:bh.zero with
     | none=>rw [bG] at he;cases he
     | some z=>
       rw [bG] at he;simp only at he;obtain ⟨u1,oa,nx,_⟩:=zt (P:=P) het bG E w;cases qq:jV P dz with
       | true=>
         rw [qq] at he;simp only [am4,HC] at he;cases hm:y5 ⟨me h⟩ z h x k with
         | none=>rw [hm] at he;cases he
         | some r=>
           rw [hm] at he;simp only [a7.val.injEq] at he;obtain ⟨rfl,rfl⟩:=he;exact Sf s hu oa nx ar ay (G0 s qq K) hm
       | false=>
         rw [qq] at he;simp only [anf] at he;cases c2:mS P dz with
         | false=>rw [c2] at he;cases he
         | true=>
           rw [c2] at he;simp only [am4,HD] at he;cases al:rH P dz k with
           | false=>rw [al] at he;cases he
           | true=>
             rw [al] at he;simp only [am4] at he;cases hm:y5 (structEq P dz) z h x k with
             | none=>rw [hm] at he;cases he
             | some r=>
               rw [hm] at he;simp only [a7.val.injEq] at he;obtain ⟨rfl,rfl⟩:=he;exact Sf s hu oa nx ar ay (G1 c2 al ay) hm
end
section
variable {P:Program}
theorem P6 (n:Nat):∀(l:List Nat),tM l n=true↔n ∈ l
 | []=>by simp [tM]
 | x::xs=>by
   simp only [tM];cases aj:Nat.beq x n with
   | true=>have:=anP aj;subst this;simp
   | false=>
     have ez:x≠n:=fun e=>by subst e;rw [ao9] at aj;cases aj
     simp [P6 n xs,Ne.symm ez]
theorem abq {a:Array Nat} {seen:List Nat} (h:a.toList=seen.reverse) (n:Nat):a.contains n=tM seen n:=by rw [anT,P6,Array.contains_iff_mem,<-Array.mem_toList_iff,h,List.mem_reverse]
theorem RY {E:Env} {a:Array Nat} {seen:List Nat} (h:a.toList=seen.reverse):∀(ms:List cK) (l:List MapEntry),e5 E ms l->e5 E (leftOf seen ms) (l.filter fun e=>!a.contains e.born)
 | [],l,aJ=>by simp only [e5] at aJ;subst aJ;rfl
 | m::ms,l,aJ=>by
   obtain ⟨e,es,rfl,J,ad,aD,bn⟩:=aJ;have bA:=RY h ms es bn;have aq:a.contains e.born=tM seen m.born:=by rw [abq h,aD]
   cases aj:tM seen m.born with
   | true=>
     rw [aj] at aq;rw [List.filter_cons_of_neg (by rw [aq];decide)];simp only [leftOf,aj,am4];exact bA
   | false=>
     rw [aj] at aq;rw [List.filter_cons_of_pos (by rw [aq];decide)];simp only [leftOf,aj,anf];exact ⟨e,_,rfl,J,ad,aD,bA⟩
theorem LI {E:Env} {last:Nat}:∀(ms:List cK) (l:List MapEntry),e5 E ms l->l.all (fun e=>decide (e.born>=last))=xK last ms
 | [],l,aJ=>by simp only [e5] at aJ;subst aJ;rfl
 | m::ms,l,aJ=>by
   obtain ⟨e,es,rfl,J,ad,aD,bn⟩:=aJ;simp only [xK,anX,LI ms es bn,aD];cases aj:Nat.ble last m.born with
   | true=>rw [ann] at aj;simp [aj]
   | false=>
     have:¬last<=m.born:=by rw [<-Nat.ble_eq,aj];simp
     simp [this]
theorem L_ {E:Env} {n:Nat}:∀(ms:List cK) (l:List MapEntry) (m:cK),e5 E ms l->At n ms=some m->∃e,l.find? (fun e=>e.born == n)=some e/\Rel E m.k e.key/\Rel E m.v e.val
 | [],l,m,aJ,h=>by cases h
 | x::xs,l,m,aJ,h=>by
   obtain ⟨e,es,rfl,J,ad,aD,bn⟩:=aJ;simp only [At] at h;cases aj:Nat.beq x.born n with
   | true=>
     rw [aj] at h;simp only [am4,amW] at h;subst h;have:=anP aj;exact ⟨e,by simp [List.find?_cons,aD,this],J,ad⟩
   | false=>
     rw [aj] at h;simp only [anf] at h;obtain ⟨dI,g1,g2⟩:=L_ xs es m bn h;have ez:x.born≠n:=fun e=>by rw [e,ao9] at aj;cases aj
     exact ⟨dI,by simp [List.find?_cons,aD,ez,g1],g2⟩
theorem Kb {k:cm} {f:List cK->Nat->a7} {v:V} {aa:ah} (h:k.lD .fail f=.val v aa):∃es clock,k=.mp es clock/\f es clock=.val v aa:=by
 cases k<;>simp only [cm.lD] at h<;>first
  | (cases h;done)
  | exact ⟨_,_,rfl,h⟩
theorem SR {v:V} {f:aU->Nat->a7} {r:V} {aa:ah} (h:v.ke .fail f=.val r aa):∃b off,v=.ptr b off/\f b off=.val r aa:=by
 cases v<;>simp only [V.ke] at h<;>first
  | (cases h;done)
  | exact ⟨_,_,rfl,h⟩
theorem aiW {aB:Fr} {E:Env} {h aa:ah} {w:World} (s:ba aB E h w) {t dz k':TypeId} (hu:(underlying t).run P w=.ok (.map dz k') w) {x v:V} {X:Value} (ar:Rel E x X) (he:rangeMap x h=.val v aa):dH aB P E w (Instr.range t X) v aa:=by
 have d_:=s.fresh h.next (am6 _)
 have eL:E.put (aC h.next) ⟨w.heap.size,0,0⟩ (aC h.next)=some ⟨w.heap.size,0,0⟩:=by unfold Env.put;rw [anb rfl]
 unfold rangeMap at he
 split at he
 . simp only [a7.val.injEq] at he;obtain ⟨rfl,rfl⟩:=he;simp only [Rel] at ar;subst ar;refine ⟨.pointer (some ⟨w.heap.size,0,none⟩),{w with heap:=w.heap.push (.mapIter none 0 #[] 0)},_,?_,Env.nB (p:=⟨w.heap.size,0,0⟩) d_,?_,s.alloc 0 ?_⟩
   . simp only [Instr.range,Sem.run_bind,hu,Result.andThen_ok,Sem.run_pure,run_newObj]
   . simp only [Rel];exact ⟨_,eL,by simp⟩
   . exact ⟨_,none,#[],eL,s.frame.size,rfl,by simp,rfl,rfl⟩
 . rename_i c;obtain ⟨es,clock,al,he⟩:=Kb he;simp only [a7.val.injEq] at he;obtain ⟨rfl,rfl⟩:=he;simp only [Rel] at ar;obtain ⟨p,ak,rfl⟩:=ar;have aj:=s.at ak;rw [al] at aj;obtain ⟨q,a,J,dr,aD,bn⟩:=aj;rw [ak] at J;cases J;have fp:(getObj p.bj).run P w=.ok (.map a clock) w:=by simp only [getObj,Sem.run,aD]
   have hle:E.le (E.put (aC h.next) ⟨w.heap.size,0,0⟩):=Env.nB d_;refine ⟨.pointer (some ⟨w.heap.size,0,none⟩),{w with heap:=w.heap.push (.mapIter (some p.bj) clock #[] clock)},_,?_,hle,?_,s.alloc 0 ?_⟩
   . simp only [Instr.range,Sem.run_bind,hu,Result.andThen_ok,Sem.run_pure,fp,run_newObj]
   . simp only [Rel];exact ⟨_,eL,by simp⟩
   . exact ⟨_,some p.bj,#[],eL,s.frame.size,rfl,by simp,rfl,p,hle _ _ ak,rfl⟩
 . cases he
theorem ahn {aB:Fr} {E:Env} {h aa:ah} {w:World} (s:ba aB E h w) {x v:V} {X:Value} {ty:TypeId} (ar:Rel E x X) (he:hA x h=.val v aa):dH aB P E w (Instr.next X false ty) v aa:=by
 unfold hA at he;obtain ⟨b,off,rfl,J⟩:=SR he;clear he;have aj:=s.at (p:=_) (by simp only [Rel] at ar;exact ar.choose_spec.1);cases al:h.get b<;>rw [al] at J<;>simp only at J<;>try (cases J;done)
 rename_i src since seen last;rw [al] at aj;cases a1:Nat.beq off 0 with
 | false=>rw [a1] at J;cases J
 | true=>
 rw [a1] at J;simp only [am4] at J;have a1:=anP a1;subst a1;obtain ⟨p,m,a,ak,dr,re,bo,bF,jR⟩:=aj;simp only [Rel] at ar;obtain ⟨q,aq,rfl⟩:=ar;rw [ak] at aq;cases aq;have fp:(getObj p.bj).run P w=.ok (.mapIter m since a last) w:=by simp only [getObj,Sem.run,bo]
 have over:Rel E (.tuple [.bool false]) (.tuple #[.bool false]):=by simp only [Rel,bm];exact ⟨_,rfl,_,_,rfl,rfl,rfl⟩
 cases src with
 | none=>
   simp only [vl] at jR;subst jR;simp only [a7.val.injEq] at J;obtain ⟨rfl,rfl⟩:=J;refine dH.plain (Z:=.tuple #[.bool false]) s ?_ over;simp only [Instr.next,re,Sem.run_bind,fp,Result.andThen_ok,Sem.run_pure]
 | some c=>
   simp only [vl] at jR;obtain ⟨zh,n',rfl⟩:=jR;simp only at J;obtain ⟨es,clock,IB,J⟩:=Kb J;have tO:=s.at n';rw [IB] at tO;obtain ⟨q,oo,g1,_,g3,g4⟩:=tO;rw [n'] at g1;cases g1;have Ee:(getObj zh.bj).run P w=.ok (.map oo clock) w:=by simp only [getObj,Sem.run,g3]
   cases ao:(!seen.isEmpty&&(!es.isEmpty&&xK last es)) with
   | true=>rw [ao] at J;cases J
   | false=>
     rw [ao] at J;simp only [anf] at J;have an:a.isEmpty=seen.isEmpty:=by
      have:a.toList.isEmpty=seen.reverse.isEmpty:=by rw [bF]
      simpa using this
     have aN:oo.isEmpty=es.isEmpty:=by
      cases es with
      | nil=>simp only [e5] at g4;have:oo=#[]:=Array.toList_inj.1 g4
             simp [this]
      | cons y cS=>obtain ⟨e,l,ax,_⟩:=g4;have:oo.toList.isEmpty=false:=by rw [ax];rfl
                   simpa using this
     have cv:oo.all (fun e=>decide (e.born>=last))=xK last es:=by rw [<-LI es _ g4,Array.all_toList]
     have P':(!a.isEmpty&&!oo.isEmpty&&oo.all (fun e=>decide (e.born>=last)))=false:=by rw [an,aN,cv,Bool.and_assoc];exact ao
     have Ba:=RY (E:=E) bF es _ g4;have Qe:(oo.filter fun e=>!a.contains e.born).toList=oo.toList.filter fun e=>!a.contains e.born:=by simp
     cases ax:leftOf seen es with
     | nil=>
       rw [ax] at J Ba;simp only [J4,a7.val.injEq] at J;obtain ⟨rfl,rfl⟩:=J;simp only [e5] at Ba;have pq:(oo.filter fun e=>!a.contains e.born)=#[]:=by apply Array.toList_inj.1;rw [Qe,Ba]
       refine dH.plain (Z:=.tuple #[.bool false]) s ?_ over;simp only [Instr.next,re,Sem.run_bind,fp,Result.andThen_ok,Ee,P',anm,anw,pq,Sem.run_pure];simp [choose,Sem.run,Question.forced]
     | cons y cS=>
       rw [ax] at J Ba;cases cS with
       | cons _ _=>cases J
       | nil=>
         simp only [J4] at J;cases aL:Nat.blt y.born since with
         | false=>rw [aL] at J;cases J
         | true=>
           rw [aL] at J;simp only [am4,a7.val.injEq] at J;obtain ⟨rfl,rfl⟩:=J;rw [anF] at aL;obtain ⟨e,r,aJ,bY,b_,ej,e7⟩:=Ba;simp only [e5] at e7;subst e7;have pq:(oo.filter fun e=>!a.contains e.born)=#[e]:=by apply Array.toList_inj.1;rw [Qe,aJ]
           rw [<-ej] at aL ⊢
           let cn:Obj:=.mapIter (some zh.bj) since (a.push e.born) clock
           let w':World:={w with heap:=w.heap.setIfInBounds p.bj cn}
           have l3:=(am1.1 bo).1;have qv:(setObj p.bj cn).run P w=.ok () w':=by simp only [setObj,Sem.run,bo];rfl
           have tT:¬since<=e.born:=by omega
           refine ⟨.tuple #[.bool true,e.key,e.val],w',E,?_,Env.le.refl E,?_,s.set (p:=p) (by rw [al];rfl) ak dr (by simp [w']) (fun j bJ=>?_) rfl rfl rfl (fun _ _ _ e=>by cases e) ?_⟩
           . simp only [Instr.next,re,Sem.run_bind,fp,Result.andThen_ok,Ee,P',anm,anw,pq,Sem.run_pure];have J:(#[e]:Array MapEntry).filter (fun x=>decide (x.born<since))=#[e]:=by simp [aL]
             have ad:(#[e]:Array MapEntry).filter (fun x=>decide (x.born>=since))=#[]:=by simp [aL]
             have np:(choose (.mapNext 1)).run P w=.ok 0 w:=by simp [choose,Sem.run,Question.forced]
             simp only [J,ad];simp [np];change ((setObj p.bj cn).run P w).andThen _=_;rw [qv];rfl
           . simp only [Rel,bm];exact ⟨_,rfl,_,_,rfl,rfl,_,_,rfl,bY,_,_,rfl,b_,rfl⟩
           . simp only [w',ank];rw [am7 (fun e=>bJ e.symm)]
           . exact ⟨p,some zh.bj,a.push e.born,ak,dr,re,by simp [w',l3,cn],by simp [bF],zh,n',rfl⟩
theorem ZM {aB:Fr} {E:Env} {h aa:ah} {w:World} (s:ba aB E h w) {x v:V} {X:Value} (ar:Rel E x X) (he:DG x h=.val v aa):dH aB P E w (Instr.entry X) v aa:=by
 unfold DG at he;obtain ⟨b,off,rfl,J⟩:=SR he;clear he;have aj:=s.at (p:=_) (by simp only [Rel] at ar;exact ar.choose_spec.1);cases al:h.get b<;>rw [al] at J<;>simp only at J<;>try (cases J;done)
 rename_i src since seen last;rw [al] at aj;cases a1:Nat.beq off 0 with
 | false=>rw [a1] at J;cases J
 | true=>
 rw [a1] at J;simp only [am4] at J;have a1:=anP a1;subst a1;obtain ⟨p,m,a,ak,dr,re,bo,bF,jR⟩:=aj;simp only [Rel] at ar;obtain ⟨q,aq,rfl⟩:=ar;rw [ak] at aq;cases aq;have fp:(getObj p.bj).run P w=.ok (.mapIter m since a last) w:=by simp only [getObj,Sem.run,bo]
 cases src with
 | none=>cases J
 | some c=>
   simp only [vl] at jR;obtain ⟨zh,n',rfl⟩:=jR;simp only at J;cases seen with
   | nil=>cases J
   | cons n amo=>
   simp only at J;obtain ⟨es,clock,IB,J⟩:=Kb J;have tO:=s.at n';rw [IB] at tO;obtain ⟨q,oo,g1,_,g3,g4⟩:=tO;rw [n'] at g1;cases g1;have Ee:(getObj zh.bj).run P w=.ok (.map oo clock) w:=by simp only [getObj,Sem.run,g3]
   rename_i aa9 _;clear aa9;cases kr:Nat.beq clock last with
   | false=>rw [kr] at J;cases J
   | true=>
     rw [kr] at J;simp only [am4] at J;have:=anP kr;subst this;cases Ij:At n es with
     | none=>rw [Ij] at J;cases J
     | some y=>
       rw [Ij] at J;simp only [a7.val.injEq] at J;obtain ⟨rfl,rfl⟩:=J;obtain ⟨e,f1,f2,f3⟩:=L_ es _ y g4 Ij;have abw:a.back? =some n:=by
        have:a.toList.getLast? =some n:=by rw [bF];simp
        simpa using this
       have tP:oo.find? (fun e=>e.born == n)=some e:=by rw [<-f1];simp
       refine dH.plain (Z:=.tuple #[e.key,e.val]) s ?_ ?_
       . simp only [Instr.entry,re,Sem.run_bind,fp,Result.andThen_ok,abw,Ee,bne_self_eq_false,anm,anw,tP,Sem.run_pure]
       . simp only [Rel,bm];exact ⟨_,rfl,_,_,rfl,f2,_,_,rfl,f3,rfl⟩
end
section
variable {P:Program}
theorem V2 {aB:Fr} {E:Env} {h aa:ah} {w:World} (s:ba aB E h w) {t u e:TypeId} {size:Nat} (acx:1<=size) {x v:V} {X Y:Value} {ty:TypeId} {n:Nat} {new:List V} {l:List Value}
 (ax:bm E new l) (bK:new.length=n * size) (gz:n<=top)
 (fa:∀(w':World) (A:Option Addr) (dm fZ:Nat),dm+n<=fZ->(∀a,A=some a->(storeCells (a.add (dm * size)) l).run P w=.ok () w')->(A=none->w'=w)->
   (Builtin.append_ #[t,u] ty #[.slice A dm fZ,Y]).run P w=.ok (.slice A (dm+n) fZ) w')
 (kt:∀(A:Option Addr) (dm fZ:Nat) (cH:List Value),(∀w':World,w'.heap=w.heap->(Builtin.firstCells size dm (.slice A dm fZ)).run P w'=.ok cH.toArray w')->¬dm+n<=fZ->dm+n<=top->cH.length=dm * size->l.length=n * size->
   ∃cap rest w',dm+n<=cap/\cap * size<=((cH++l).toArray++rest).size/\
   (Builtin.append_ #[t,u] ty #[.slice A dm fZ,Y]).run P w=.ok (.slice (some ⟨w.heap.size,0,none⟩) (dm+n) cap) w'/\
   w'.heap=w.heap.push (.cells ((cH++l).toArray++rest) e)/\w'.os=w.os/\w'.tape=w.tape/\w'.output=w.output)
 (he:GX size n new x h=.val v aa) (ar:Rel E x X):dH aB P E w (Builtin.append_ #[t,u] ty #[X,Y]) v aa:=by
 have qk:l.length=n * size:=by rw [ax.length,bK]
 unfold GX at he;cases x<;>simp only at he<;>try (cases he;done)
 . -- a slice of known capacity
   rename_i b off len cap;simp only [Rel] at ar;obtain ⟨p,ak,sx,rfl⟩:=ar;simp only [tw] at he;cases gA:Nat.ble (len+n) cap with
   | true=>
     rw [gA] at he;simp only [am4] at he;rw [ann] at gA;cases l1:lay h b (off+len * size) new with
     | none=>rw [l1] at he;cases he
     | some J=>
     rw [l1] at he;simp only [a7.val.injEq] at he;obtain ⟨rfl,rfl⟩:=he;obtain ⟨w',c2,j'⟩:=yZ (P:=P) s ax l1 ak;refine ⟨_,w',E,fa w' _ _ _ gA (fun a bF=>?_) (fun bF=>by cases bF),Env.le.refl E,?_,j'⟩
     . cases bF;rw [add_eq,aod];exact c2
     . simp only [Rel];exact ⟨p,ak,gA,rfl⟩
   | false=>
     rw [gA] at he;simp only [anf] at he;have I9:¬len+n<=cap:=by rw [<-Nat.ble_eq,gA];simp
     obtain ⟨aj,he⟩:=jN he;simp only [amX,ann] at aj;cases hold:pN h size b off len with
     | none=>rw [hold] at he;cases he
     | some cH=>
     rw [hold] at he;simp only at he;cases gL:l_ h (cH++new) size false with
     | none=>rw [gL] at he;cases he
     | some J=>
     rw [gL] at he;simp only [a7.val.injEq] at he;obtain ⟨rfl,rfl⟩:=he;obtain ⟨q,bO,aq,eE,qo,iu⟩:=zz (P:=P) s ⟨p,ak⟩ hold;rw [ak] at aq;cases aq;obtain ⟨c,rest,w',bY,b_,ej,e7,fI,ic,hQ⟩:=kt (some ⟨p.bj,p.base+off,none⟩) (len) (cap) _
      (fun w' hw=>by simp only [Builtin.firstCells];exact iu w' hw) I9 aj.1 (by rw [eE.length,qo]) qk
     obtain ⟨aw,g1,g2,g3⟩:=wW (w':=w') (b5:=(0,0)) s (eE.append ax) gL b_ (.inr (am6 _)) (fun _=>rfl) e7 fI ic hQ;refine ⟨_,w',aw,ej,g1,?_,g3⟩;simp only [Rel];exact ⟨_,g2,by simp only;omega,by simp⟩
 . -- one that was appended to
   rename_i b off len idx;have qx:=ar;simp only [Rel] at ar;obtain ⟨p,ak,Qj,rfl⟩:=ar;simp only [tv] at he;cases iJ:Nat.beq n 0 with
   | true=>
     rw [iJ] at he;simp only [am4] at he;cases he;rw [anA] at iJ;subst iJ;have l0:l=[]:=by cases l with | nil=>rfl | cons _ _=>simp at qk
     subst l0;refine ⟨_,w,E,fa w _ _ _ (by omega) (fun a _=>rfl) (fun bF=>by cases bF),Env.le.refl E,?_,s⟩;simpa using qx
   | false=>
     rw [iJ] at he;simp only [anf] at he;have rf:=s.at ak;cases al:h.get b with
     | dead=>rw [al] at he;cases he
     | view _ _=>rw [al] at he;cases he
     | iter _ _=>rw [al] at he;cases he
     | mp _ _=>rw [al] at he;cases he
     | gq _=>rw [al] at he;cases he
     | gj=>rw [al] at he;cases he
     | iy _=>rw [al] at he;cases he
     | kb _ _ _ _=>rw [al] at he;cases he
     | cells N cs cT st=>
       rw [al] at he rf;simp only [cm.on] at he;obtain ⟨aj,he⟩:=jN he;simp only [amX,ann,anA] at aj;obtain ⟨⟨Iu,IY,IZ⟩,Bg⟩:=aj;cases hold:pN h size b off len with
       | none=>rw [hold] at he;cases he
       | some cH=>
       rw [hold] at he;simp only at he;cases gL:l_ (h.set b .dead) (cH++new) size st with
       | none=>rw [gL] at he;cases he
       | some J=>
       rw [gL] at he;simp only [a7.val.injEq] at he;obtain ⟨rfl,rfl⟩:=he;obtain ⟨q,bO,aq,eE,qo,iu⟩:=zz (P:=P) s ⟨p,ak⟩ hold;rw [ak] at aq;cases aq;obtain ⟨aK,q,c,el,b5,an,dr,bo,rj,c2,lf,bC⟩:=rf;rw [ak] at an;cases an;have Bh:=acx;have lf:=lf (by omega);rw [Iu] at lf;have Cu:=s.kill ak;by_cases gA:len+n<=p.cap-idx
       . -- in place
         have aL:=(am1.1 bo).1;have ab1:(idx+len+n) * size<=p.cap * size:=anO _ (by omega);have hbound:p.base+off+len * size+0+l.length<=c.size:=by
          rw [qk,Bg];have:(idx+len+n) * size=idx * size+len * size+n * size:=by rw [an0,an0]
          omega
         have Bo:=FV (P:=P) aL el b5 (p.base+off+len * size) l c 0 (Fc IZ ax) hbound rj;rw [K5 bo,aoA] at Bo;have I_:=fa (mi w p.bj (qA c (p.base+off+len * size) l) el b5) (some ⟨p.bj,p.base+off,none⟩) _ _ gA
          (fun a bF=>by cases bF;rw [add_eq];exact Bo) (fun bF=>by cases bF)
         unfold l_ at gL;obtain ⟨ao,gL⟩:=fc gL;simp only [amX,ann] at ao;simp only [amW] at gL;subst gL;have d_:=s.fresh h.next (am6 _)
         have hle:E.le (E.put (aC h.next) ⟨p.bj,p.base+off,p.cap-idx⟩):=Env.nB d_;have eL:E.put (aC h.next) ⟨p.bj,p.base+off,p.cap-idx⟩ (aC h.next)=some ⟨p.bj,p.base+off,p.cap-idx⟩:=by unfold Env.put;rw [anb rfl]
         refine ⟨_,_,_,I_,hle,?_,ba.add (p:=⟨p.bj,p.base+off,p.cap-idx⟩) Cu (by rw [K6];exact am6 _) (fun j _ bJ=>K4 _ _ _ bJ) dr (fun bV fy jy sC heq=>?_) rfl rfl rfl (fun _ _ _ e=>by injection e with _ _ cv;omega) ?_⟩
         . simp only [Rel];exact ⟨_,eL,by simp only;omega,by simp⟩
         . rw [ah.fm] at jy;by_cases j7:b=bV
           . rw [anb j7] at jy;cases jy
           . rw [am7 j7] at jy;exact j7 (s.inj b bV p fy (by rw [al];rfl) jy ak sC heq.symm)
         . have eZ:(cH++new).length=(len+n) * size:=by rw [amZ,qo,bK,an0]
           have abR:(len+n) * size=len * size+n * size:=an0 _ _ _;refine ⟨ao.1,_,_,el,b5,eL,dr,CC aL _ _ _,by rw [rI];exact rj,c2,fun _=>?_,?_⟩
           . rw [rI];simp only;have:idx * size + (p.cap-idx) * size=p.cap * size:=by rw [<-Nat.add_mul];congr 1;omega
             omega
           . refine ⟨by rw [rI,eZ,an0];simp only;omega,fun i y au bc=>?_⟩;rw [Cm _ _ _ _ (by omega) (by omega),anb (by omega),ao2];rw [EI _ _ _ _ (by omega)] at bc;simp only at bc;by_cases cP:i<len * size
             . rw [am7 (by omega)] at bc;rw [anp (by omega)];have fp:=iu w rfl;have I6:=run_loadCells (P:=P) (w:=w) (off:=p.base+off) (n:=len * size) bo (by omega);rw [I6] at fp;simp only [Result.ok.injEq,ao7] at fp;have Bb:bO=(c.toList.drop (p.base+off)).take (len * size):=by
                have:=congrArg Array.toList fp;simpa using this.symm
               obtain ⟨qR,hX,aJ⟩:=eE.get i cH[i] (amY (by omega));rw [amY (by omega)];rw [Bb] at hX;rw [an8 (by omega),aom] at hX;simp only [aoT] at hX;rw [bc] at hX;cases hX;exact Rel.mono hle _ _ aJ
             . rw [anb (by omega)] at bc;rw [ano (by omega)];have cv:p.base+off+i - (p.base+off+len * size)=i-cH.length:=by omega
               rw [cv] at bc;have rp:i-cH.length<new.length:=by omega
               obtain ⟨qR,hX,aJ⟩:=ax.get (i-cH.length) new[i-cH.length] (amY rp);rw [bc] at hX;cases hX;rw [amY rp];exact Rel.mono hle _ _ aJ
       . -- elsewhere
         obtain ⟨cw,rest,w',bY,b_,ej,e7,fI,ic,hQ⟩:=kt (some ⟨p.bj,p.base+off,none⟩) (len) (p.cap-idx) _
          (fun w' hw=>by simp only [Builtin.firstCells];exact iu w' hw) gA IY (by rw [eE.length,qo]) qk
         obtain ⟨aw,g1,g2,g3⟩:=wW (w':=w') (b5:=(0,0)) Cu (eE.append ax) gL b_ (.inr (am6 _)) (fun _=>rfl) e7 fI ic hQ;refine ⟨_,w',aw,ej,g1,?_,g3⟩;simp only [Rel];exact ⟨_,g2,by simp only;omega,by simp⟩
 . -- nil
   simp only [Rel] at ar;subst ar;simp only [tx] at he;cases iJ:Nat.beq n 0 with
   | true=>
     rw [iJ] at he;simp only [am4] at he;cases he;rw [anA] at iJ;subst iJ;exact dH.plain s (fa w _ _ _ (by omega) (fun a bF=>by cases bF) (fun _=>rfl)) (by simp [Rel])
   | false=>
     rw [iJ] at he;simp only [anf] at he;have yw:¬n=0:=by intro e;subst e;simp at iJ
     cases gL:l_ h new size false with
     | none=>rw [gL] at he;cases he
     | some J=>
     rw [gL] at he;simp only [a7.val.injEq] at he;obtain ⟨rfl,rfl⟩:=he;obtain ⟨c,rest,w',bY,b_,ej,e7,fI,ic,hQ⟩:=kt (none) (0) (0) []
      (fun w' _=>by simp [Builtin.firstCells]) (by omega) (by omega) (by simp) qk
     obtain ⟨aw,g1,g2,g3⟩:=wW (w':=w') (b5:=(0,0)) s ax gL b_ (.inr (am6 _)) (fun _=>rfl) e7 fI ic hQ;refine ⟨_,w',aw,ej,g1,?_,g3⟩;simp only [Rel];exact ⟨_,g2,by simp only;omega,by simp⟩
structure GN (P:Program) (t u e:TypeId) (size bytes:Nat) (k:IntKind) (z:Value):Prop where
 ut:∀w,(underlying t).run P w=.ok (.slice e) w
 te:∀w,(underlying u).run P w=.ok (.int k) w
 rZ:∀w,(sizeOf e).run P w=.ok size w
 Dr:∀w,∃i,(typeInfo e).run P w=.ok i w/\i.bytes=bytes
 zL:∀w,(zeroValue e).run P w=.ok z w
 pU:z.cells.size=size
 pos:1<=size
 small:bytes<=4096
theorem U4 (c:Array Value):Builtin.zeroCells c 0=#[]:=by simp [Builtin.zeroCells]
theorem ajz {t u e:TypeId} {size bytes:Nat} {k:IntKind} {z:Value} (H:GN P t u e size bytes k z) {n:Nat} (aX:n<=100000) {ty:TypeId} {w w':World} {A:Option Addr} {dm fZ:Nat} (gA:dm+n<=fZ)
 (c2:∀a,A=some a->(storeCells (a.add (dm * size)) (Builtin.zeroCells z.cells n).toList).run P w=.ok () w') (d_:A=none->w'=w):
 (Builtin.append_ #[t,u] ty #[.slice A dm fZ,.int .i64 n]).run P w=.ok (.slice A (dm+n) fZ) w':=by
 have hw:IntKind.i64.wrap (n:Int)=n:=by unfold IntKind.wrap;simp [IntKind.bits,IntKind.signed];omega
 obtain ⟨i,au,rk⟩:=H.Dr w;have tJ:¬(281474976710656 < (n:Int) * (i.bytes:Int)):=by rw [rk];have J:n * bytes<=100000 * 4096:=Nat.mul_le_mul aX H.small;have ad:((n * bytes:Nat):Int)=(n:Int) * (bytes:Int):=Int.natCast_mul _ _;omega
 have sB:¬((n:Int)<0):=by omega
 have cy:size≠0:=by have:=H.pos;omega
 have bF:∀w,(asInt (.int .i64 (n:Int))).run P w=.ok (n:Int) w:=fun w=>by simp [asInt,asIntOf]
 have D9:∀w,(asInt (.int .i64 0)).run P w=.ok 0 w:=fun w=>by simp [asInt,asIntOf]
 have yL:IntKind.i64.wrap 0=0:=by decide
 cases A with
 | none=>
   have:=d_ rfl;subst this;by_cases a1:n=0
   . subst a1;simp [Builtin.append_,H.ut,H.te,H.rZ,D9,au,yL,(show dm<=fZ from by omega)]
   . simp [Builtin.append_,H.ut,H.te,H.rZ,H.zL,bF,au,tJ,hw,gA,sB,cy,a1]
 | some a=>
   have:=c2 a rfl;by_cases a1:n=0
   . subst a1;rw [U4] at this;simp [Builtin.append_,H.ut,H.te,H.rZ,D9,au,yL,(show dm<=fZ from by omega),this]
   . simp [Builtin.append_,H.ut,H.te,H.rZ,H.zL,bF,au,tJ,hw,gA,sB,Nat.mul_ne_zero a1 cy,this]
theorem ajA {t u e:TypeId} {size bytes:Nat} {k:IntKind} {z:Value} (H:GN P t u e size bytes k z) {n:Nat} (aX:n<=100000) {ty:TypeId} {w:World} (A:Option Addr) (dm fZ:Nat) (cH:List Value)
 (hold:∀w':World,w'.heap=w.heap->(Builtin.firstCells size dm (.slice A dm fZ)).run P w'=.ok cH.toArray w') (gA:¬dm+n<=fZ) (Bn:dm+n<=top) (a8:cH.length=dm * size) (ax:(Builtin.zeroCells z.cells n).toList.length=n * size):
 ∃cap rest w',dm+n<=cap/\cap * size<=((cH++(Builtin.zeroCells z.cells n).toList).toArray++rest).size/\
  (Builtin.append_ #[t,u] ty #[.slice A dm fZ,.int .i64 n]).run P w=.ok (.slice (some ⟨w.heap.size,0,none⟩) (dm+n) cap) w'/\
  w'.heap=w.heap.push (.cells ((cH++(Builtin.zeroCells z.cells n).toList).toArray++rest) e)/\w'.os=w.os/\w'.tape=w.tape/\w'.output=w.output:=by
 have hw:IntKind.i64.wrap (n:Int)=n:=by simp only [IntKind.wrap,IntKind.bits,IntKind.signed];simp;omega
 obtain ⟨i,au,rk⟩:=H.Dr w;have l4:P.info? e=some i:=by
  simp only [typeInfo,Sem.run_bind,run_program,Result.andThen_ok] at au;cases aq:P.info? e with
  | none=>rw [aq] at au;simp at au
  | some j=>rw [aq] at au;simp at au;rw [au]
 have j9:∀w',(typeInfo e).run P w'=.ok i w':=fun w'=>zs l4 w';have ade:¬(281474976710656 < (n:Int) * (i.bytes:Int)):=by rw [rk];have J:n * bytes<=100000 * 4096:=Nat.mul_le_mul aX H.small;have ad:((n * bytes:Nat):Int)=(n:Int) * (bytes:Int):=Int.natCast_mul _ _;omega
 have tJ:¬(281474976710656<Builtin.nextslicecap (dm+n) fZ * i.bytes):=by
  have J:fZ<dm+n:=by omega
  have:=growslice_fits (bytes:=i.bytes) J (by rw [rk];have ad:(dm+n) * bytes<=top * 4096:=Nat.mul_le_mul Bn H.small;unfold top at ad;omega);omega
 have jv:¬(9223372036854775807 < ((dm:Int) + (n:Int))):=by unfold top at Bn;omega
 have sB:¬((n:Int)<0):=by omega
 have cy:size≠0:=by have:=H.pos;omega
 have bF:∀w,(asInt (.int .i64 (n:Int))).run P w=.ok (n:Int) w:=fun w=>by simp [asInt,asIntOf]
 have D9:∀w,(asInt (.int .i64 0)).run P w=.ok 0 w:=fun w=>by simp [asInt,asIntOf]
 have yL:IntKind.i64.wrap 0=0:=by decide
 let q:Question:=.appendCap (dm+n) fZ e
 let cap:=q.cut (w.tape w.drawn q)
 have lf:dm+n<=cap:=by show dm+n<=(dm+n)+_;omega
 refine ⟨cap,Builtin.zeroCells z.cells (cap - (dm+n)),w.drew.alloc (.cells ((cH++(Builtin.zeroCells z.cells n).toList).toArray++Builtin.zeroCells z.cells (cap - (dm+n))) e),lf,?_,?_,rfl,rfl,rfl,rfl⟩
 . simp only [Array.size_append,List.size_toArray,amZ,a8,ax];have:(Builtin.zeroCells z.cells (cap - (dm+n))).size=(cap - (dm+n)) * size:=by simp [Builtin.zeroCells,H.pU]
   rw [this,<-Nat.add_mul,<-Nat.add_mul];exact anO _ (by omega)
 . have f2:=hold w.drew rfl;by_cases a1:n=0
   . subst a1;have acJ:¬dm<=fZ:=by omega
     have abv:¬(9223372036854775807 < (dm:Int)):=by omega
     rw [aoA] at tJ;simp [Builtin.append_,H.ut,H.te,H.rZ,H.zL,D9,yL,j9,acJ,tJ,abv,Question.forced,f2,newRow];refine ⟨rfl,?_⟩;have an:(cH++(Builtin.zeroCells z.cells 0).toList).toArray=cH.toArray:=by rw [U4];simp
     rw [an];rfl
   . simp [Builtin.append_,H.ut,H.te,H.rZ,H.zL,bF,hw,ade,sB,Nat.mul_ne_zero a1 cy,gA,j9,tJ,jv,Question.forced,f2,newRow];refine ⟨rfl,?_⟩;have an:(cH++(Builtin.zeroCells z.cells n).toList).toArray=cH.toArray++Builtin.zeroCells z.cells n:=by simp
     rw [an,Array.append_assoc]
end
section
variable {P:Program}
abbrev cb (rd:Option Nat):Fence:={fn:=fun _=>True,depth:=none,alive:=false,round:=rd}
theorem si {rd:Option Nat} {n:Nat} {f:FuncId} {args:Array Value} {w:World} {R:Ending->World->Prop}:CallsIn (cb rd) n P f args w R↔Calls P f args w R:=callsIn_wide
theorem KJ {rd:Option Nat} (n:Nat):(cb rd).room n:=fun _ h=>by simp [cb] at h
abbrev qE (x:Value):List PanicEntry:=[{v:=x,recovered:=false}]
structure ht (P:Program) (call:et):Prop where
 fn:∀(aB:Fr) f args h v aa,f≠dv->call f args h=.val v aa->∀E w xs,bm E args xs->ba aB E h w->
  ((∃fn,P.funcs[f]? =some fn/\fn.body.isSome=true)/\Calls P f xs.toArray w fun e w'=>∃aw x,e=.returned x/\E.le aw/\Rel aw v x/\ba aB aw aa w')\/
  ∃aw x w',(callFunc f xs.toArray).run P w=.ok (.value x) w'/\E.le aw/\Rel aw v x/\ba aB aw aa w'
 cY:∀(aB:Fr) f args h v aa,f≠dv->call f args h=.cY v aa->∀E w xs,bm E args xs->ba aB E h w->
  (∃fn,P.funcs[f]? =some fn/\fn.body.isSome=true)/\Calls P f xs.toArray w fun e w'=>∃aw x,e=.panicked (qE x)/\E.le aw/\Rel aw v x/\ba aB aw aa w'
 U1:∀(aB:Fr) args b h v aa,call dv (args++[.ptr b 0]) h=.val v aa->∀E w xs p,bm E args xs->ba aB E h w->E b=some p->
  ∃f tmps assign body,(Instr.yield p.bj xs.toArray).run P w=.ok (.round p.bj f tmps assign body) w/\
   RoundIn (cb none) 0 P p.bj f tmps assign body w fun e w'=>∃aw x,e=.returned x/\E.le aw/\Rel aw v x/\ba aB aw aa w'
 U2:∀args h v aa,call dv args h≠.cY v aa
theorem qL {rd:Option Nat} {o:Oper} (ps:∀c,o.op≠.defer c) (ρ:Operand->Value):o.semAt (cb rd).round ρ=execOp ρ o:=Oper.semAt_eq _ ρ o ps
theorem gR {rd:Option Nat} {o:Oper} {a:Act} {w:World} {aB:Fr} {E:Env} {aa:ah} {v:V} {m:Sem Value} {K:Act->World->Prop} {Q:Exit->Act->World->Prop}
 (ar:execOp a.eval o=(do pure (.value (<-m)))) (g:dH aB P E w m v aa) (dU:∀aw x w',E.le aw->Rel aw v x->ba aB aw aa w'->K (a.put o.dst x) w') (ps:∀c,o.op≠.defer c:=by intro c h;cases h):
 o.wpIn (cb rd) 0 P a w K Q:=by
 obtain ⟨Z,w',aw,J,ad,aD,bn⟩:=g;refine ⟨fun _ _=>trivial,?_⟩;rw [qL ps,ar,Sem.run_bind,J];exact dU aw Z w' ad aD bn
theorem Fj {E:Env} {az:Nat} {r:bN} {a:Act} (k:RegRel0 E az r a):∀l:List (Nat × Operand),r9 E ((uI l).run r) (l.map fun (i,x)=>(i,a.eval x))
 | []=>rfl
 | (i,x)::l=>by simp only [uI,List.map,r9];exact ⟨_,_,rfl,d' k x,Fj k l⟩
theorem Fh {E:Env} {az:Nat} {r:bN} {a:Act} (k:RegRel0 E az r a) (x:Option Operand):iA E ((rR x).run r) (x.map a.eval):=by
 cases x with
 | none=>rfl
 | some x=>simp only [rR,iA,Option.map];exact ⟨_,rfl,d' k x⟩
theorem ahR {v:V} {f:aU->Nat->a7} {r:V} {h:ah} (he:v.ke .fail f=.val r h):∃b off,v=.ptr b off/\f b off=.val r h:=by
 cases v<;>simp only [V.ke] at he<;>first
  | (cases he;done)
  | exact ⟨_,_,rfl,he⟩
theorem ahp {aB:Fr} {E:Env} {h aa:ah} {w:World} (s:ba aB E h w) {x v:V} {X:Value} {ty:TypeId} (ar:Rel E x X) (he:wX x h=.val v aa):dH aB P E w (Instr.next X true ty) v aa:=by
 unfold wX at he;obtain ⟨b,off,rfl,J⟩:=ahR he;have aj:=s.at (p:=_) (by simp only [Rel] at ar;exact ar.choose_spec.1);cases al:h.get b with
 | dead=>rw [al] at J;cases J
 | view _ _=>rw [al] at J;cases J
 | cells _ _ _ _=>rw [al] at J;cases J
 | mp _ _=>rw [al] at J;cases J
 | gq _=>rw [al] at J;cases J
 | gj=>rw [al] at J;cases J
 | iy _=>rw [al] at J;cases J
 | kb _ _ _ _=>rw [al] at J;cases J
 | iter st pos=>
   rw [al] at J aj;simp only at J;obtain ⟨a1,ad⟩:=jN J;rw [anA] at a1;subst a1;obtain ⟨p,ak,dr,re,bo⟩:=aj;simp only [Rel] at ar;obtain ⟨q,aq,rfl⟩:=ar;rw [ak] at aq;cases aq;have fp:(getObj p.bj).run P w=.ok (.stringIter ⟨⟨st⟩⟩ pos) w:=by simp only [getObj,Sem.run,bo]
   have cy:(⟨⟨st⟩⟩:ByteArray).size=st.length:=rfl;cases aL:Nat.blt pos st.length with
   | true=>
     rw [aL] at ad;simp only [am4,a7.val.injEq] at ad;obtain ⟨rfl,rfl⟩:=ad;rw [anF] at aL
     let cn:Obj:=.stringIter ⟨⟨st⟩⟩ (pos + (decodeL st pos).2)
     let w':World:={w with heap:=w.heap.setIfInBounds p.bj cn}
     have l3:=(am1.1 bo).1;have qv:(setObj p.bj cn).run P w=.ok () w':=by simp only [setObj,Sem.run,bo];rfl
     refine ⟨.tuple #[.bool true,goInt pos,.int .i32 (decodeL st pos).1],w',E,?_,Env.le.refl E,?_,s.set (p:=p) (by rw [al];rfl) ak dr (by simp [w']) (fun j bJ=>?_) rfl rfl rfl (fun _ _ _ e=>by cases e) ?_⟩
     . simp only [Instr.next,re,Sem.run_bind,fp,Result.andThen_ok,cy,anb aL];have:(Utf8.decode (⟨⟨st⟩⟩:ByteArray) pos)=decodeL st pos:=rfl;simp only [this];rw [qv];rfl
     . simp only [Rel,bm];exact ⟨_,rfl,_,_,rfl,rfl,_,_,rfl,rfl,_,_,rfl,rfl,rfl⟩
     . simp only [w',ank];rw [am7 (fun e=>bJ e.symm)]
     . exact ⟨p,ak,dr,re,by simp [w',l3,cn]⟩
   | false=>
     rw [aL] at ad;simp only [anf,a7.val.injEq] at ad;obtain ⟨rfl,rfl⟩:=ad;have qn:¬pos<st.length:=by rw [<-Nat.blt_eq,aL];simp
     refine dH.plain (Z:=.tuple #[.bool false]) s ?_ ?_
     . simp only [Instr.next,re,Sem.run_bind,fp,Result.andThen_ok,cy,am7 qn,Sem.run_pure]
     . simp only [Rel,bm];exact ⟨_,rfl,_,_,rfl,rfl,rfl⟩
theorem aiV {aB:Fr} {E:Env} {h aa:ah} {w:World} (s:ba aB E h w) {t:TypeId} {x v:V} {X:Value} (ar:Rel E x X) (he:(FG P t).run x h=.val v aa):dH aB P E w (Instr.range t X) v aa:=by
 unfold FG at he;cases aE:bf P t with
 | none=>rw [aE] at he;cases he
 | some aO=>
   rw [aE] at he;simp only at he;have hu:=fY aE;cases b3:aO.bl with
   | string=>
     rw [b3] at he hu;simp only at he;cases x<;>simp only at he<;>try (cases he;done)
     rename_i st;simp only [a7.val.injEq] at he;obtain ⟨rfl,rfl⟩:=he;have:=ar.tc;subst this;have d_:=s.fresh h.next (am6 _)
     have eL:E.put (aC h.next) ⟨w.heap.size,0,0⟩ (aC h.next)=some ⟨w.heap.size,0,0⟩:=by unfold Env.put;rw [anb rfl]
     refine ⟨.pointer (some ⟨w.heap.size,0,none⟩),{w with heap:=w.heap.push (.stringIter ⟨⟨st⟩⟩ 0)},_,?_,Env.nB (p:=⟨w.heap.size,0,0⟩) d_,?_,s.alloc 0 ?_⟩
     . simp only [Instr.range,Sem.run_bind,hu,Result.andThen_ok,Sem.run_pure,run_newObj]
     . simp only [Rel];exact ⟨_,eL,by simp⟩
     . exact ⟨_,eL,s.frame.size,rfl,by simp⟩
   | map dz k'=>
     rw [b3] at he hu;exact aiW s (hu w) ar he
   | _=>rw [b3] at he;cases he
theorem VZ {aB:Fr} {E:Env} {h aa:ah} {w:World} (s:ba aB E h w) {t u:TypeId} {x y v:V} {X Y:Value} {ty:TypeId}
 (he:(Dg P t u).run x y h=.val v aa) (ar:Rel E x X) (bc:Rel E y Y):dH aB P E w (Builtin.append_ #[t,u] ty #[X,Y]) v aa:=by
 unfold Dg at he;cases aE:bf P t with
 | none=>rw [aE] at he;cases he
 | some aO=>
   cases hu:bf P u with
   | none=>rw [aE,hu] at he;cases he
   | some mh=>
     rw [aE,hu] at he;simp only at he
     have main:(∀k,mh.bl≠.int k)->(match aO.bl with
      | .slice e=>match bf P e with
        | none=>(⟨fun _ _ _=>.fail⟩:zM)
        | some bh=>match bh.zero with
          | none=>⟨fun _ _ _=>.fail⟩
          | some z=>bif Nat.ble 1 bh.size&&Nat.ble bh.bytes 4096&&Nat.beq z.cells.length bh.size then ⟨iY bh.size⟩ else ⟨fun _ _ _=>.fail⟩
      | _=>⟨fun _ _ _=>.fail⟩).run x y h=.val v aa->dH aB P E w (Builtin.append_ #[t,u] ty #[X,Y]) v aa:=by
      intro rr he;cases b3:aO.bl with
      | slice e=>
        rw [b3] at he;simp only at he;cases cE:bf P e with
        | none=>rw [cE] at he;cases he
        | some bh=>
          rw [cE] at he;simp only at he;cases bG:bh.zero with
          | none=>rw [bG] at he;cases he
          | some z=>
            rw [bG] at he;simp only at he;cases ao:(Nat.ble 1 bh.size&&Nat.ble bh.bytes 4096&&Nat.beq z.cells.length bh.size) with
            | false=>rw [ao] at he;cases he
            | true=>
              rw [ao] at he;simp only [am4] at he;simp only [amX,ann,anA] at ao;obtain ⟨ml,wB,_,pv⟩:=ti (P:=P) (E:=E) cE bG w;refine V1 s ⟨fun w=>?_,⟨mh.bl,fun w=>fY hu w,rr⟩,fun w=>kE cE w,fun w=>FT cE w,⟨ml,wB,by rw [pv];exact ao.2⟩,ao.1.1,ao.1.2⟩ he ar bc;have:=fY aE w;rw [b3] at this;exact this
      | _=>rw [b3] at he;cases he
     cases yJ:mh.bl with
     | int k=>
       rw [yJ] at he;simp only at he;cases b3:aO.bl with
       | slice e=>
         rw [b3] at he;simp only at he;cases cE:bf P e with
         | none=>rw [cE] at he;cases he
         | some bh=>
           rw [cE] at he;simp only at he;cases bG:bh.zero with
           | none=>rw [bG] at he;cases he
           | some z=>
             rw [bG] at he;simp only at he;cases ao:(Nat.ble 1 bh.size&&Nat.ble bh.bytes 4096&&Nat.beq z.cells.length bh.size) with
             | false=>rw [ao] at he;cases he
             | true=>
               rw [ao] at he;simp only [am4] at he;simp only [amX,ann,anA] at ao;obtain ⟨ml,wB,Jk,pv⟩:=ti (P:=P) (E:=E) cE bG w;have yK:∀w,(underlying t).run P w=.ok (.slice e) w:=fun w=>by have:=fY aE w;rw [b3] at this;exact this
               have Je:∀w,(underlying u).run P w=.ok (.int k) w:=fun w=>by have:=fY hu w;rw [yJ] at this;exact this
               have H:GN P t u e bh.size bh.bytes k ml:=⟨yK,Je,fun w=>kE cE w,fun w=>FT cE w,wB,by rw [pv];exact ao.2,ao.1.1,ao.1.2⟩;unfold GY at he
               split at he
               case h_2=>cases he
               rename_i dy m
               split at he
               case h_2=>cases he
               rename_i n;obtain ⟨qe,bB⟩:=jN he;simp only [amX,ann] at qe;have ay:=sj qe.1;subst ay;simp only [Rel] at bc;subst bc;have I8:=zm Jk n;have hlen:(jh z.cells n).length=n * bh.size:=by rw [<-I8.length];simp [Builtin.zeroCells,pv,ao.2]
               exact V2 s ao.1.1 I8 hlen (by have:=qe.2;unfold top;omega) (fun w' A dm fZ a b c=>ajz H qe.2 a b c) (fun A dm fZ cH a b c d f=>ajA H qe.2 A dm fZ cH a b c d f) bB ar
       | _=>rw [b3] at he;cases he
     | _=>rw [yJ] at he;exact main (by rw [yJ];simp) he
theorem Y8 {aB:Fr} {E:Env} {h aa:ah} {w:World} (s:ba aB E h w) {t:TypeId} {rest:List TypeId} {x y v:V} {X Y:Value} {ty:TypeId}
 (he:(Dx P t).run x y h=.val v aa) (ar:Rel E x X) (bc:Rel E y Y):dH aB P E w (Builtin.copy_ (t::rest).toArray ty #[X,Y]) v aa:=by
 unfold Dx at he;cases aE:bf P t with
 | none=>rw [aE] at he;cases he
 | some aO=>
   rw [aE] at he;simp only at he;cases b3:aO.bl with
   | slice e=>
     rw [b3] at he;simp only at he;cases cE:bf P e with
     | none=>rw [cE] at he;cases he
     | some bh=>
       rw [cE] at he;simp only at he;exact Y9 s (fun w=>by have:=fY aE w;rw [b3] at this;exact this) (fun w=>kE cE w) he ar bc
   | _=>rw [b3] at he;cases he
theorem YP {aB:Fr} {E:Env} {h aa:ah} {w:World} (s:ba aB E h w) {t:TypeId} {x v:V} {X:Value} {ty:TypeId} {z:List V} (ao:Az P t=some z)
 (he:Dv z x h=.val v aa) (ar:Rel E x X):dH aB P E w (Builtin.clear_ #[t] ty #[X]) v aa:=by
 unfold Az at ao;cases aE:bf P t with
 | none=>rw [aE] at ao;cases ao
 | some aO=>
   rw [aE] at ao;simp only at ao;cases b3:aO.bl with
   | slice e=>
     rw [b3] at ao;simp only at ao;cases cE:bf P e with
     | none=>rw [cE] at ao;cases ao
     | some bh=>
       rw [cE] at ao;simp only at ao;cases bG:bh.zero with
       | none=>rw [bG] at ao;cases ao
       | some z0=>
         rw [bG] at ao;simp only [amW] at ao;subst ao;have hu:∀w,(underlying t).run P w=.ok (.slice e) w:=fun w=>by have:=fY aE w;rw [b3] at this;exact this
         obtain ⟨z,nx,Jk,Q4⟩:=ti (P:=P) (E:=E) cE bG w;have nothing:∀a c,X=.slice a 0 c->v=.tuple []->aa=h->dH aB P E w (Builtin.clear_ #[t] ty #[X]) v aa:=by
          intro a c dL bB bo;subst dL bB bo;refine ⟨.tuple #[],w,E,?_,Env.le.refl E,?_,s⟩
          . cases a<;>simp [Builtin.clear_,Sem.run_bind,hu,Result.andThen_ok,Sem.run_pure]
          . simp only [Rel];exact ⟨_,rfl,rfl⟩
         have Ud:∀(b:aU) (off n c:Nat) (p:iW),E b=some p->X=.slice (some ⟨p.bj,p.base+off,none⟩) n c->(bif Nat.beq n 0 then (a7.val (.tuple []) h) else (match lay h b off (jh z0.cells n) with
          | some aa=>a7.val (.tuple []) aa
          | none=>.fail))=.val v aa->dH aB P E w (Builtin.clear_ #[t] ty #[X]) v aa:=by
          intro b off n c p ak dL he;cases n with
          | zero=>
            simp only [ao9,am4,a7.val.injEq] at he;exact nothing _ _ dL he.1.symm he.2.symm
          | succ n=>
            simp only [show Nat.beq (n+1) 0=false from rfl,anf] at he;cases ax:lay h b off (jh z0.cells (n+1)) with
            | none=>rw [ax] at he;cases he
            | some J=>
              rw [ax] at he;simp only [a7.val.injEq] at he;obtain ⟨rfl,rfl⟩:=he;obtain ⟨w',g1,g2⟩:=yZ (P:=P) s (zm Jk (n+1)) ax ak;subst dL;refine ⟨.tuple #[],w',E,?_,Env.le.refl E,?_,g2⟩
              . simp only [Builtin.clear_,Sem.run_bind,List.getElem?_toArray,anj,hu,nx,Result.andThen_ok];have:(storeCells ⟨p.bj,p.base+off,none⟩ (Builtin.zeroCells z.cells (n+1)).toList).run P w=.ok () w':=g1;simp [this,Sem.run_pure,Result.andThen_ok]
              . simp only [Rel];exact ⟨_,rfl,rfl⟩
         unfold Dv at he;cases x<;>simp only at he<;>try (cases he;done)
         . simp only [Rel] at ar;obtain ⟨p,g1,g2,g3⟩:=ar;exact Ud _ _ _ _ p g1 g3 he
         . simp only [Rel] at ar;obtain ⟨p,g1,g2,g3⟩:=ar;exact Ud _ _ _ _ p g1 g3 he
         . simp only [Rel] at ar;obtain ⟨a,c,rfl⟩:=ar;simp only [a7.val.injEq] at he;exact nothing _ _ rfl he.1.symm he.2.symm
         . simp only [Rel] at ar;simp only [a7.val.injEq] at he;exact nothing _ _ ar he.1.symm he.2.symm
   | _=>rw [b3] at ao;cases ao
theorem Yu {E:Env} {t:TypeId} {aO:oK} {x v:V} {X:Value} {ty:TypeId} (aE:bf P t=some aO) (aM:By aO.bl=true) (he:Ay x=some v) (ar:Rel E x X) (w:World):
 ∃Z,(Builtin.cap_ #[t] ty #[X]).run P w=.ok Z w/\Rel E v Z:=by
 cases b3:aO.bl with
 | slice e=>
   have hu:∀w,(underlying t).run P w=.ok (.slice e) w:=fun w=>by have:=fY aE w;rw [b3] at this;exact this
   cases x<;>simp only [Ay] at he<;>try (cases he;done)
   . simp only [Rel] at ar;obtain ⟨p,_,_,rfl⟩:=ar;cases he;refine ⟨_,?_,rfl⟩;simp [Builtin.cap_,Sem.run_bind,hu,Result.andThen_ok,Sem.run_pure];rfl
   . simp only [Rel] at ar;subst ar;cases he;refine ⟨_,?_,rfl⟩;simp [Builtin.cap_,Sem.run_bind,hu,Result.andThen_ok,Sem.run_pure];rfl
 | _=>rw [b3] at aM;cases aM
theorem Cz {α:Type} (a:Array α):a.toList.toArray=a:=by simp
theorem WJ {aB:Fr} {E:Env} {h aa:ah} {w:World} (s:ba aB E h w) {b:Builtin} {cZ:Array TypeId} {args:List V} {xs:List Value} {v:V} {ty:TypeId} {cs:Array Bool} (ax:bm E args xs)
 (he:(q5 P b cZ.toList).run args h=.val v aa):∃m:Sem Value,Go.builtin b cZ ty cs xs.toArray=(do pure (.value (<-m)))/\dH aB P E w m v aa:=by
 have one:∀{x:V},bm E [x] xs->∃X,xs=[X]/\Rel E x X:=by intro x h;simp only [bm] at h;obtain ⟨y,cS,rfl,bc,rfl⟩:=h;exact ⟨y,rfl,bc⟩
 have two:∀{x y:V},bm E [x,y] xs->∃X Y,xs=[X,Y]/\Rel E x X/\Rel E y Y:=by intro x y h;simp only [bm] at h;obtain ⟨X,_,rfl,dL,Y,_,rfl,fV,rfl⟩:=h;exact ⟨X,Y,rfl,dL,fV⟩
 cases b<;>simp only [q5] at he<;>try (simp [gH.none] at he;done)
 . -- append
   cases fW:cZ.toList with
   | nil=>rw [fW] at he;simp [gH.none] at he
   | cons t td=>
     rw [fW] at he;cases td with
     | nil=>simp [gH.none] at he
     | cons u akI=>
       cases akI with
       | cons _ _=>simp [gH.none] at he
       | nil=>
         simp only at he
         match args,he,ax with
         | [x,y],he,ax=>
           obtain ⟨X,Y,rfl,dL,fV⟩:=two ax;have e:cZ=#[t,u]:=by rw [<-Cz cZ,fW]
           exact ⟨_,rfl,by rw [e];exact VZ s he dL fV⟩
         | [],he,_=>cases he
         | [_],he,_=>cases he
         | _::_::_::_,he,_=>cases he
 . -- cap
   cases fW:cZ.toList with
   | nil=>rw [fW] at he;simp [gH.none] at he
   | cons t td=>
     rw [fW] at he;cases td with
     | cons _ _=>simp [gH.none] at he
     | nil=>
       simp only at he;cases aE:bf P t with
       | none=>rw [aE] at he;simp [gH.none] at he
       | some aO=>
         rw [aE] at he;simp only at he;cases aM:By aO.bl with
         | false=>rw [aM] at he;simp [gH.none] at he
         | true=>
           rw [aM] at he;simp only [am4] at he
           match args,he,ax with
           | [x],he,ax=>
             obtain ⟨X,rfl,dL⟩:=one ax;have e:cZ=#[t]:=by rw [<-Cz cZ,fW]
             obtain ⟨eY,rfl⟩:=a7.je he;obtain ⟨Z,cQ,cV⟩:=Yu (P:=P) (ty:=ty) aE aM eY dL w;exact ⟨_,rfl,by rw [e];exact dH.plain s cQ cV⟩
           | [],he,_=>cases he
           | _::_::_,he,_=>cases he
 . -- clear
   cases fW:cZ.toList with
   | nil=>rw [fW] at he;simp [gH.none] at he
   | cons t td=>
     rw [fW] at he;cases td with
     | cons _ _=>simp [gH.none] at he
     | nil=>
       simp only at he;cases ao:Az P t with
       | none=>rw [ao] at he;simp [gH.none] at he
       | some z=>
         rw [ao] at he;simp only at he
         match args,he,ax with
         | [x],he,ax=>
           obtain ⟨X,rfl,dL⟩:=one ax;have e:cZ=#[t]:=by rw [<-Cz cZ,fW]
           exact ⟨_,rfl,by rw [e];exact YP s ao he dL⟩
         | [],he,_=>cases he
         | _::_::_,he,_=>cases he
 . -- copy
   cases fW:cZ.toList with
   | nil=>rw [fW] at he;simp [gH.none] at he
   | cons t td=>
     rw [fW] at he;simp only at he
     match args,he,ax with
     | [x,y],he,ax=>
       obtain ⟨X,Y,rfl,dL,fV⟩:=two ax;have e:cZ=(t::td).toArray:=by rw [<-Cz cZ,fW]
       exact ⟨_,rfl,by rw [e];exact Y8 s he dL fV⟩
     | [],he,_=>cases he
     | [_],he,_=>cases he
     | _::_::_::_,he,_=>cases he
 . -- len
   cases fW:cZ.toList with
   | nil=>rw [fW] at he;simp [gH.none] at he
   | cons t td=>
     rw [fW] at he;cases td with
     | cons _ _=>simp [gH.none] at he
     | nil=>
       simp only at he;cases aE:bf P t with
       | none=>rw [aE] at he;simp [gH.none] at he
       | some aO=>
         rw [aE] at he;simp only at he
         match args,he,ax with
         | [x],he,ax=>
           obtain ⟨X,rfl,dL⟩:=one ax;have e:cZ=[t].toArray:=by rw [<-Cz cZ,fW]
           cases hm:ue aO.bl with
           | true=>
             rw [hm] at he;exact ⟨_,rfl,by rw [e];exact agu s aE hm dL ty [] he⟩
           | false=>
             rw [hm] at he;simp only [anf] at he;obtain ⟨eY,rfl⟩:=a7.je he;obtain ⟨Z,cQ,cV⟩:=agv (P:=P) aE eY dL ty [] w;exact ⟨_,rfl,by rw [e];exact dH.plain s cQ cV⟩
         | [],he,_=>cases hm:ue aO.bl<;>rw [hm] at he<;>cases he
         | _::_::_,he,_=>cases hm:ue aO.bl<;>rw [hm] at he<;>cases he
 . -- max
   obtain ⟨eY,rfl⟩:=a7.je he;clear he;cases args with
   | nil=>cases eY
   | cons x args=>
     simp only [lG] at eY;obtain ⟨k,a,rfl,J⟩:=kB eY;simp only [bm] at ax;obtain ⟨X,cS,rfl,dL,ax⟩:=ax;have:=dL.jA;subst this;obtain ⟨Z,cQ,cV⟩:=Kn (P:=P) false args cS k a v ax J w;exact ⟨_,rfl,dH.plain (Z:=Z) s (by simpa [Builtin.max_] using cQ) cV⟩
 . -- min
   obtain ⟨eY,rfl⟩:=a7.je he;clear he;cases args with
   | nil=>cases eY
   | cons x args=>
     simp only [lG] at eY;obtain ⟨k,a,rfl,J⟩:=kB eY;simp only [bm] at ax;obtain ⟨X,cS,rfl,dL,ax⟩:=ax;have:=dL.jA;subst this;obtain ⟨Z,cQ,cV⟩:=Kn (P:=P) true args cS k a v ax J w;exact ⟨_,rfl,dH.plain (Z:=Z) s (by simpa [Builtin.min_] using cQ) cV⟩
end
section
variable {P:Program}
def e6 (P:Program):Prop:=∀(f:FuncId) (fn:Func),P.funcs[f]? =some fn->(fn.name == "runtime.NumGoroutine")=false
theorem s7 (aK:e6 P) {f:FuncId} {fn:Func} (aA:P.funcs[f]? =some fn) (aj:fn.body.isSome=true) (args:Array Value) (w:World):(callFunc f args).run P w=.ok (.enter f args) w:=by
 have gl:fn.body.isNone=false:=by cases h:fn.body with | none=>rw [h] at aj;cases aj | some c=>rfl
 simp only [callFunc,Sem.run_bind,run_program,Result.andThen_ok,aA];rw [am7 (by rw [aK f fn aA];simp)];simp [gl]
theorem JU {α β:Type} (f:α->β) (a:Array α):a.map f=(a.toList.map f).toArray:=by apply aoH;simp
theorem Kl (ρ:Operand->Value) (bD:Array (Nat × Operand)):(bD.map fun (i,x)=>(i,ρ x))=(bD.toList.map fun (i,x)=>(i,ρ x)).toArray:=by apply aoH;simp
theorem We {E:Env} {t uZ:TypeId} {aO:oK} {ok:Bool} {x v:V} {X:Value} (aE:bf P t=some aO) (aj:Nat.beq (fx aO.bl) 5=false) (ar:Rel E x X)
 (he:Am t aO.zero ok x=some v) (w:World):∃Z,(Instr.typeAssert X uZ t ok).run P w=.ok Z w/\Rel E v Z:=by
 have hu:=fY aE w;have rr:∀ms,aO.bl≠.interface ms:=fun ms e=>by rw [e] at aj;simp [fx] at aj
 have zero:∀z,aO.zero=some z->∃x,(zeroValue t).run P w=.ok x w/\Rel E z x:=fun z bG=>by obtain ⟨x,J,ad,_⟩:=zt (P:=P) aE bG E w;exact ⟨x,J,ad⟩
 unfold Am at he;cases x<;>simp only at he<;>try (cases he;done)
 case iface u y=>
  simp only [Rel] at ar;obtain ⟨Y,rfl,fV⟩:=ar;rw [h7] at he;by_cases yK:u=t
  . rw [anb yK] at he;simp only [amW] at he;subst yK;cases ok with
    | true=>
      simp only [am4] at he;subst he;refine ⟨.tuple #[Y,.bool true],?_,by simp only [Rel,bm];exact ⟨_,rfl,_,_,rfl,fV,_,_,rfl,rfl,rfl⟩⟩;simp only [Instr.typeAssert,Sem.run_bind,hu,Result.andThen_ok];cases b3:aO.bl<;>first
       | exact absurd b3 (rr _)
       | (simp only [anz];rfl)
    | false=>
      simp only [anf] at he;subst he;refine ⟨Y,?_,fV⟩;simp only [Instr.typeAssert,Sem.run_bind,hu,Result.andThen_ok];cases b3:aO.bl<;>first
       | exact absurd b3 (rr _)
       | (simp only [anz];rfl)
  . rw [am7 yK] at he;cases ok with
    | false=>cases he
    | true=>
      simp only [am4] at he;cases bG:aO.zero with
      | none=>rw [bG] at he;cases he
      | some z=>
        rw [bG] at he;simp only [amW] at he;subst he;obtain ⟨aR,c9,z2⟩:=zero z bG;refine ⟨.tuple #[aR,.bool false],?_,by simp only [Rel,bm];exact ⟨_,rfl,_,_,rfl,z2,_,_,rfl,rfl,rfl⟩⟩;simp only [Instr.typeAssert,Sem.run_bind,hu,Result.andThen_ok];cases b3:aO.bl<;>first
         | exact absurd b3 (rr _)
         | (simp only [am7 yK,anz,Sem.run_bind,c9,Result.andThen_ok];rfl)
 case nilIface=>
  simp only [Rel] at ar;subst ar;cases ok with
  | false=>cases he
  | true=>
    simp only [am4] at he;cases bG:aO.zero with
    | none=>rw [bG] at he;cases he
    | some z=>
      rw [bG] at he;simp only [amW] at he;subst he;obtain ⟨aR,c9,z2⟩:=zero z bG;refine ⟨.tuple #[aR,.bool false],?_,by simp only [Rel,bm];exact ⟨_,rfl,_,_,rfl,z2,_,_,rfl,rfl,rfl⟩⟩;simp only [Instr.typeAssert,Sem.run_bind,hu,Result.andThen_ok];cases b3:aO.bl<;>first
       | exact absurd b3 (rr _)
       | (simp only [anz,Sem.run_bind,c9,Result.andThen_ok];rfl)
def hG (P:Program) (call:et):Prop:=∀f args h v aa,call f args h=.val v aa->True
theorem OF {rd:Option Nat} {aB:Fr} {E:Env} {h aa:ah} {w:World} {call:et} (aK:e6 P) (c':ht P call) (ee:hG P call) {o:Oper} {az:Nat} {r:bN} {a:Act} {v:V}
 (he:(fP P o).run call r h=.val v aa) (k:RegRel0 E az r a) (s:ba aB E h w) {K:Act->World->Prop} {Q:Exit->Act->World->Prop}
 (dU:∀aw x w',E.le aw->Rel aw v x->ba aB aw aa w'->K (a.put o.dst x) w'):o.wpIn (cb rd) 0 P a w K Q:=by
 obtain ⟨dst,op,type,pos,after,guard⟩:=o;cases op<;>simp only [fP] at he<;>try (simp [dP.none] at he;done)
 case move x=>
  simp only [a7.val.injEq] at he;obtain ⟨rfl,rfl⟩:=he;exact gR (m:=pure (a.eval x)) rfl (dH.plain s rfl (d' k x)) dU
 case assign x=>
  simp only [a7.val.injEq] at he;obtain ⟨rfl,rfl⟩:=he;exact gR (m:=pure (a.eval x)) rfl (dH.plain s rfl (d' k x)) dU
 case pick c x y=>
  have ao:=d' k c;generalize (bZ c).run r=K2 at he ao;cases K2<;>simp only at he<;>try (cases he;done)
  rename_i t;simp only [a7.val.injEq] at he;obtain ⟨rfl,rfl⟩:=he;simp only [Rel] at ao;refine gR (m:=do pure (if <-asBool (a.eval c) then a.eval x else a.eval y)) (by simp only [execOp,bind_assoc,pure_bind]) (dH.plain (Z:=if t then a.eval x else a.eval y) s ?_ ?_) dU
  . rw [ao];rfl
  . cases t
    . exact d' k y
    . exact d' k x
 case alloc t=>
  cases aE:bf P t with
  | none=>rw [aE] at he;simp [dP.none] at he
  | some aO=>
    rw [aE] at he;simp only at he;cases bG:aO.zero with
    | none=>rw [bG] at he;simp [dP.none] at he
    | some z=>
      rw [bG] at he;simp only at he;cases aX:gP h z.cells with
      | none=>rw [aX] at he;cases he
      | some J=>
        rw [aX] at he;simp only [hC,a7.val.injEq] at he;obtain ⟨rfl,rfl⟩:=he;obtain ⟨x,ar,pt,_⟩:=ti (P:=P) (E:=E) aE bG w;obtain ⟨aw,g1,g2,g3,g4⟩:=E2 (P:=P) s pt aX t;have HQ:(newRow t x.cells).run P w=.ok ⟨w.heap.size,0,none⟩ {w with heap:=w.heap.push (.cells x.cells t)}:=by simpa using g3
        have HR:ba aB aw J {w with heap:=w.heap.push (.cells x.cells t)}:=by simpa using g4
        exact gR (m:=Instr.alloc t true (.tuple #[])) rfl ⟨.pointer (some ⟨w.heap.size,0,none⟩),_,aw,by simp only [Instr.alloc,Sem.run_bind,ar,Result.andThen_ok,newVar,HQ,Sem.run_pure],g1,by simp only [Rel];exact ⟨_,g2,by simp⟩,HR⟩ dU
 case box t x=>
  obtain ⟨al,he⟩:=jN he;cases aX:gP h ((bZ x).run r).cells with
  | none=>rw [aX] at he;cases he
  | some J=>
    rw [aX] at he;simp only [hC,a7.val.injEq] at he;obtain ⟨rfl,rfl⟩:=he;have ax:=(d' k x).cells (fun e=>by rw [e] at al;cases al);obtain ⟨aw,g1,g2,g3,g4⟩:=E2 (P:=P) s ax aX t;have HQ:(newRow t (a.eval x).cells).run P w=.ok ⟨w.heap.size,0,none⟩ {w with heap:=w.heap.push (.cells (a.eval x).cells t)}:=by simpa using g3
    have HR:ba aB aw J {w with heap:=w.heap.push (.cells (a.eval x).cells t)}:=by simpa using g4
    exact gR (m:=Instr.box t (a.eval x)) rfl ⟨.pointer (some ⟨w.heap.size,0,none⟩),_,aw,by simp only [Instr.box,Sem.run_bind,newVar,HQ,Result.andThen_ok,Sem.run_pure],g1,by simp only [Rel];exact ⟨_,g2,by simp⟩,HR⟩ dU
 case build t bD=>
  obtain ⟨eY,rfl⟩:=a7.je he;clear he;obtain ⟨Z,cQ,cV⟩:=WE (P:=P) (Fj k bD.toList) eY w;refine gR (m:=Instr.build t (bD.map fun (i,x)=>(i,a.eval x))) rfl (dH.plain (Z:=Z) s ?_ cV) dU;rw [Kl];exact cQ
 case buildSlice t n bD=>
  refine gR (m:=Instr.buildSlice t n (bD.map fun (i,x)=>(i,a.eval x))) rfl ?_ dU;rw [Kl];exact WH s (Fj k bD.toList) he
 case load t x=>
  obtain ⟨eY,rfl⟩:=a7.je he;clear he;obtain ⟨Y,fV,cV,_⟩:=R' (P:=P) s (d' k x) eY;exact gR (m:=Instr.loadAt t (a.eval x)) rfl (dH.plain s fV cV) dU
 case store t x y=>
  cases c2:(s' P t).run h ((bZ x).run r) ((bZ y).run r) with
  | none=>rw [c2] at he;cases he
  | some J=>
    rw [c2] at he;simp only [hC,a7.val.injEq] at he;obtain ⟨rfl,rfl⟩:=he;obtain ⟨w',df,j'⟩:=aj_ (P:=P) s (d' k x) (d' k y) c2;refine ⟨fun _ _=>trivial,?_⟩;rw [qL (by intro c h;cases h)];have:execOp a.eval ⟨dst,.store t x y,type,pos,after,guard⟩=(do Instr.storeAt t (a.eval x) (a.eval y);pure .skip):=rfl;rw [this,Sem.run_bind,df];exact dU E undef w' (Env.le.refl E) (by simp [Rel]) j'
 case nilCheck x=>
  obtain ⟨eY,rfl⟩:=a7.je he;clear he;have ar:=d' k x;generalize (bZ x).run r=xk at eY ar
  have fp:∀X,Rel E xk X->(match X with
   | .pointer none | .nilIface | .nilFunc=>(runtimePanic .nilDeref:Sem Next)
   | .func (.method name) first captured=>
     match (first[0]? :Option Value) with
     | some .nilIface=>runtimePanic .nilDeref
     | some (.iface t w)=>do
       if (<-nilAhead ((<-program).types.size+Made.depth) t w name) != some false then
        unsupported (.noEntry "op/nilCheck.the method's receiver behind this interface value is a nil pointer, or cannot be seen to be none, and the arguments act or may panic (ledger 612)")
       pure (.value (.func (.method name) first captured))
     | _=>pure (.value (.func (.method name) first captured))
   | x=>pure (.value x))=pure (.value X)/\v=xk:=by
   intro X dL;cases xk<;>simp only [uC] at eY<;>try (cases eY;done)
   all_goals simp only [amW] at eY
   all_goals simp only [Rel] at dL
   . obtain ⟨p,_,rfl⟩:=dL;exact ⟨rfl,eY.symm⟩
   . rcases dL with ⟨_,_,rfl,_⟩ | ⟨_,_,_,_,_,rfl⟩<;>exact ⟨rfl,eY.symm⟩
   . obtain ⟨p,rfl,_⟩:=dL;exact ⟨rfl,eY.symm⟩
   . obtain ⟨_,p,rfl,_⟩:=dL;exact ⟨rfl,eY.symm⟩
  obtain ⟨J,rfl⟩:=fp _ ar;exact gR (m:=pure (a.eval x)) (by simp only [execOp];rw [pure_bind];exact J) (dH.plain s rfl ar) dU
 case binOp op t x y u=>
  obtain ⟨eY,rfl⟩:=a7.je he;clear he;obtain ⟨Z,cQ,cV⟩:=Wx (P:=P) (jS:=x) (jT:=y) eY (d' k x) (d' k y) w;exact gR rfl (dH.plain s cQ cV) dU
 case unOp op t x=>
  obtain ⟨eY,rfl⟩:=a7.je he;clear he;obtain ⟨Z,cQ,cV⟩:=akU (P:=P) eY (d' k x) w;exact gR (m:=Op.unary op (a.eval x)) rfl (dH.plain s cQ cV) dU
 case convert t u x=>exact gR (m:=convert t u (a.eval x)) rfl (Y5 s he (d' k x)) dU
 case makeInterface t x=>
  cases aE:bf P t with
  | none=>rw [aE] at he;simp [dP.none] at he
  | some aO=>
    rw [aE] at he;simp only at he;cases aj:Nat.beq (fx aO.bl) 5 with
    | true=>rw [aj] at he;simp [dP.none] at he
    | false=>
      rw [aj] at he;simp only [anf,a7.val.injEq] at he;obtain ⟨rfl,rfl⟩:=he;refine gR (m:=Instr.makeInterface t (a.eval x)) rfl (dH.plain (Z:=.iface t (a.eval x)) s ?_ ?_) dU
      . have hu:=fY aE w;simp only [Instr.makeInterface,Sem.run_bind,hu,Result.andThen_ok];cases b3:aO.bl<;>first
         | rfl
         | (rw [b3] at aj;simp [fx] at aj)
      . simp only [Rel];exact ⟨_,rfl,d' k x⟩
 case makeFunc fn first e'=>
  cases fn<;>simp only at he<;>try (simp [dP.none] at he;done)
  rename_i f;cases aA:(first.isEmpty&&!Nat.beq f dv) with
  | false=>
    rw [aA] at he;simp only [anf] at he;cases j8:(e'.isEmpty&&!Nat.beq f dv) with
    | false=>rw [j8] at he;simp [dP.none] at he
    | true=>
      rw [j8] at he;simp only [am4,a7.val.injEq] at he;obtain ⟨rfl,rfl⟩:=he;simp only [amX,an1] at j8;have Iz:f≠dv:=fun e=>by rw [e] at j8;exact absurd j8.2 (by decide)
      have Ix:e'=#[]:=by simpa using j8.1
      subst Ix;refine gR (m:=Instr.makeFunc (.func f) (first.map a.eval) #[]) (by simp [execOp]) (dH.plain s rfl ?_) dU;simp only [Rel];exact ⟨Iz,_,rfl,by rw [JU];simpa using qa k first.toList⟩
  | true=>
    rw [aA] at he;simp only [am4,a7.val.injEq] at he;obtain ⟨rfl,rfl⟩:=he;simp only [amX,an1] at aA;have Iz:f≠dv:=fun e=>by rw [e] at aA;exact absurd aA.2 (by decide)
    have Ix:first=#[]:=by simpa using aA.1
    subst Ix;refine gR (m:=Instr.makeFunc (.func f) #[] (e'.map a.eval)) (by simp [execOp]) (dH.plain s rfl ?_) dU;simp only [Rel];exact .inl ⟨Iz,_,rfl,by rw [JU];simpa using qa k e'.toList⟩
 case makeSlice t l c=>exact gR (m:=Instr.makeSlice t (a.eval l) (a.eval c)) rfl (ag3 s (d' k l) (d' k c) he) dU
 case slice t x bO au eT=>
  obtain ⟨eY,rfl⟩:=a7.je he;clear he;obtain ⟨Z,cQ,cV⟩:=aj0 (P:=P) eY (d' k x) (Fh k bO) (Fh k au) (Fh k eT) w;exact gR (m:=Instr.sliceAt t (a.eval x) (bO.map a.eval) (au.map a.eval) (eT.map a.eval)) rfl (dH.plain s cQ cV) dU
 case fieldAddr t x i=>
  obtain ⟨eY,rfl⟩:=a7.je he;clear he;obtain ⟨Z,cQ,cV⟩:=Z9 (P:=P) eY (d' k x) w;exact gR (m:=Instr.fieldAt t (a.eval x) i) rfl (dH.plain s cQ cV) dU
 case field t x i=>
  obtain ⟨eY,rfl⟩:=a7.je he;clear he;obtain ⟨Z,cQ,cV⟩:=Z' (P:=P) eY (d' k x) w;exact gR (m:=Instr.field t (a.eval x) i) rfl (dH.plain s cQ cV) dU
 case indexAddr t x i=>
  obtain ⟨eY,rfl⟩:=a7.je he;clear he;obtain ⟨Z,cQ,cV⟩:=adr (P:=P) eY (d' k x) (d' k i) w;exact gR (m:=Instr.indexAt t (a.eval x) (a.eval i)) rfl (dH.plain s cQ cV) dU
 case index t x i=>
  obtain ⟨eY,rfl⟩:=a7.je he;clear he;obtain ⟨Z,cQ,cV⟩:=adt (P:=P) eY (d' k x) (d' k i) w;exact gR (m:=Instr.index t (a.eval x) (a.eval i)) rfl (dH.plain s cQ cV) dU
 case range t x=>exact gR (m:=Instr.range t (a.eval x)) rfl (aiV s (d' k x) he) dU
 case next it yP=>
  cases yP with
  | true=>exact gR (m:=Instr.next (a.eval it) true type) rfl (ahp s (d' k it) he) dU
  | false=>exact gR (m:=Instr.next (a.eval it) false type) rfl (ahn s (d' k it) he) dU
 case entry it=>exact gR (m:=Instr.entry (a.eval it)) rfl (ZM s (d' k it) he) dU
 case lookup t x y ok=>
  obtain ⟨eY,rfl⟩:=a7.je he;clear he;obtain ⟨Z,cQ,cV⟩:=agX (P:=P) s (d' k x) (d' k y) eY;exact gR (m:=Instr.lookup t (a.eval x) (a.eval y) ok) rfl (dH.plain s cQ cV) dU
 case mapEntry t m y=>exact gR (m:=Instr.mapEntry t (a.eval m) (a.eval y)) rfl (ag6 s (d' k m) (d' k y) he) dU
 case entryStore t m st x=>
  cases c2:AH h ((bZ m).run r) ((bZ st).run r) ((bZ x).run r) with
  | none=>rw [c2] at he;cases he
  | some J=>
    rw [c2] at he;simp only [hC,a7.val.injEq] at he;obtain ⟨rfl,rfl⟩:=he;obtain ⟨w',df,j'⟩:=ZL (P:=P) (t:=t) s (d' k m) (d' k st) (d' k x) c2;refine ⟨fun _ _=>trivial,?_⟩;rw [qL (by intro c h;cases h)];have:execOp a.eval ⟨dst,.entryStore t m st x,type,pos,after,guard⟩=(do Instr.entryStore t (a.eval m) (a.eval st) (a.eval x);pure .skip):=rfl;rw [this,Sem.run_bind,df];exact dU E undef w' (Env.le.refl E) (by simp [Rel]) j'
 case mapUpdate t m y x=>
  cases c2:(pR P t).run h ((bZ m).run r) ((bZ y).run r) ((bZ x).run r) with
  | none=>rw [c2] at he;cases he
  | some J=>
    rw [c2] at he;simp only [hC,a7.val.injEq] at he;obtain ⟨rfl,rfl⟩:=he;obtain ⟨w',df,j'⟩:=UH (P:=P) s (d' k m) (d' k y) (d' k x) c2;refine ⟨fun _ _=>trivial,?_⟩;rw [qL (by intro c h;cases h)];have:execOp a.eval ⟨dst,.mapUpdate t m y x,type,pos,after,guard⟩=(do Instr.mapUpdate t (a.eval m) (a.eval y) (a.eval x);pure .skip):=rfl;rw [this,Sem.run_bind,df];exact dU E undef w' (Env.le.refl E) (by simp [Rel]) j'
 case insert t m y x=>
  cases c2:(pR P t).run h ((bZ m).run r) ((bZ y).run r) ((bZ x).run r) with
  | none=>rw [c2] at he;cases he
  | some J=>
    rw [c2] at he;simp only [hC,a7.val.injEq] at he;obtain ⟨rfl,rfl⟩:=he;obtain ⟨w',df,j'⟩:=UH (P:=P) s (d' k m) (d' k y) (d' k x) c2;refine ⟨fun _ _=>trivial,?_⟩;rw [qL (by intro c h;cases h)];have:execOp a.eval ⟨dst,.insert t m y x,type,pos,after,guard⟩=(do Instr.mapUpdate t (a.eval m) (a.eval y) (a.eval x);pure .skip):=rfl;rw [this,Sem.run_bind,df];exact dU E undef w' (Env.le.refl E) (by simp [Rel]) j'
 case makeMap t x=>exact gR (m:=Instr.makeMap t (x.map a.eval)) rfl (ag2 s (Fh k x) he) dU
 case panic x=>
  exfalso;unfold Kk at he
  split at he<;>cases he
 case typeAssert x uZ t ok=>
  cases aE:bf P t with
  | none=>rw [aE] at he;simp [dP.none] at he
  | some aO=>
    rw [aE] at he;simp only at he;cases aj:Nat.beq (fx aO.bl) 5 with
    | true=>rw [aj] at he;simp [dP.none] at he
    | false=>
      rw [aj] at he;simp only [anf] at he;obtain ⟨eY,rfl⟩:=a7.je he;clear he;obtain ⟨Z,cQ,cV⟩:=We aE aj (uZ:=uZ) (d' k x) eY w;exact gR (m:=Instr.typeAssert (a.eval x) uZ t ok) rfl (dH.plain s cQ cV) dU
 case extract x i=>
  have ar:=d' k x;generalize (bZ x).run r=xk at he ar;cases xk<;>simp only at he<;>try (cases he;done)
  obtain ⟨eY,rfl⟩:=a7.je he;clear he;simp only [Rel] at ar;obtain ⟨arr,dL,ax⟩:=ar;obtain ⟨y,bc,cV⟩:=ax.get i v eY;refine gR (m:=Instr.extract (a.eval x) i) rfl (dH.plain (Z:=y) s ?_ cV) dU;rw [dL];have:arr[i]? =some y:=by simpa using bc
  simp only [Instr.extract,this,Sem.run_pure]
 case call c=>
  obtain ⟨callee,args,types⟩:=c;cases callee with
  | invoke _ _=>simp [sf,dP.none] at he
  | builtin b=>
    simp only [sf] at he;obtain ⟨cs,gZ⟩:∃cs,execOp a.eval ⟨dst,.call ⟨.builtin b,args,types⟩,type,pos,after,guard⟩=Go.builtin b types type cs (args.map a.eval):=by simp only [execOp,resolve,pure_bind,invoke];exact ⟨_,rfl⟩
    obtain ⟨m,hm,al⟩:=WJ (P:=P) (ty:=type) (cs:=cs) s (qa k args.toList) he;refine gR (m:=m) ?_ al dU;rw [gZ,<-hm,JU]
  | value f=>
    simp only [sf] at he;have aA:=d' k f;generalize ac4:(bZ f).run r=xi at he aA;cases xi<;>simp only [V.ze] at he<;>try (cases he;done)
    rotate_left
    . rename_i g cs;simp only [Rel] at aA;refine ⟨fun _ _=>trivial,?_⟩;rw [qL (by intro c h;cases h)];obtain ⟨al,first,dL,ax⟩:=aA;have qd:=bm.append ax (qa k args.toList);have qe:=c'.fn _ _ _ _ _ _ al he E w _ qd s;have hex:execOp a.eval ⟨dst,.call ⟨.value f,args,types⟩,type,pos,after,guard⟩=callFunc g (first++args.map a.eval):=by
       simp only [execOp,resolve,dL,Deferred.ofValue,pure_bind,invoke];simp
      have e:first++args.map a.eval=(first.toList++args.toList.map a.eval).toArray:=by apply aoH;simp
      rw [hex,e];rcases qe with ⟨⟨fn,hM,aj⟩,ao⟩ | ⟨aw,x,w',aJ,ag,av,aI⟩
      case inr=>
       rw [aJ];exact dU aw x w' ag av aI
      rw [s7 aK hM aj];refine ⟨fun h=>by simp at h,si.2 (ao.mono fun e w' aq=>?_)⟩;obtain ⟨aw,x,rfl,ag,av,aI⟩:=aq;exact dU aw x w' ag av aI
    rename_i g cs;simp only [Rel] at aA;refine ⟨fun _ _=>trivial,?_⟩;rw [qL (by intro c h;cases h)];rcases aA with ⟨al,e',dL,ax⟩ | ⟨al,b,p,gZ,ak,dL⟩
    . have qd:=(qa k args.toList).append ax;have qe:=c'.fn _ _ _ _ _ _ al he E w _ qd s;have hex:execOp a.eval ⟨dst,.call ⟨.value f,args,types⟩,type,pos,after,guard⟩=callFunc g (args.map a.eval++e'):=by
       simp only [execOp,resolve,dL,Deferred.ofValue,pure_bind,invoke];simp
      have e:args.map a.eval++e'=(args.toList.map a.eval++e'.toList).toArray:=by apply aoH;simp
      rw [hex,e];rcases qe with ⟨⟨fn,hM,aj⟩,ao⟩ | ⟨aw,x,w',aJ,ag,av,aI⟩
      case inr=>
       rw [aJ];exact dU aw x w' ag av aI
      rw [s7 aK hM aj];refine ⟨fun h=>by simp at h,si.2 (ao.mono fun e w' aq=>?_)⟩;obtain ⟨aw,x,rfl,ag,av,aI⟩:=aq;exact dU aw x w' ag av aI
    . subst al gZ;obtain ⟨HJ,tmps,assign,body,ag,av⟩:=c'.U1 _ _ _ _ _ _ he E w _ p (qa k args.toList) s ak;have hex:execOp a.eval ⟨dst,.call ⟨.value f,args,types⟩,type,pos,after,guard⟩=Instr.yield p.bj (args.map a.eval):=by
       simp only [execOp,resolve,dL,Deferred.ofValue,pure_bind,invoke];simp
      have e:args.map a.eval=(args.toList.map a.eval).toArray:=by apply aoH;simp
      rw [hex,e,ag];refine ⟨fun h=>by simp at h,RoundIn.mono av fun e w' aq=>?_⟩;obtain ⟨aw,x,rfl,bT,di,bX⟩:=aq;exact dU aw x w' bT di bX
end
section
variable {P:Program}
theorem HY {E:Env} {az:Nat} {r:bN} {a:Act} (k:RegRel0 E az r a) {all:Array Oper} {j:Nat} {g:Oper} {d:Nat} (bJ:all[j]? =some g) (aZ:g.dst=some d) (abF:d<az) (vW:d<=top):
 (∀b,T.get .bad (aC d) r=.bool b->yielded all a.tmps j=some b)/\(∀ai,T.get .bad (aC d) r=.tuple ai->yielded all a.tmps j=none):=by
 have aJ:=k.af d vW;have aL:d<a.tmps.size:=by rw [k.size];exact abF
 have he:a.tmps[d]? =some (a.tmps.getD d undef):=by simp [anq,aL]
 refine ⟨fun b aj=>?_,fun ai aj=>?_⟩
 . rw [aj] at aJ;simp only [Rel] at aJ;simp only [yielded,bJ,Option.bind,aZ,he,aJ]
 . rw [aj] at aJ;simp only [Rel] at aJ;obtain ⟨arr,aJ,_⟩:=aJ;simp only [yielded,bJ,Option.bind,aZ,he,aJ]
theorem OC {rd:Option Nat} {aB:Fr} {E:Env} {h aa:ah} {w:World} {call:et} (aK:e6 P) (c':ht P call) {o:Oper} {az:Nat} {r:bN} {a:Act} {v:V} (hm:mL o.op=true)
 (he:(fP P o).run call r h=.cY v aa) (k:RegRel0 E az r a) (s:ba aB E h w) {K:Act->World->Prop} {Q:Exit->Act->World->Prop}
 (dV:∀aw x w',E.le aw->Rel aw v x->ba aB aw aa w'->Q (.panic (qE x)) a w'):o.wpIn (cb rd) 0 P a w K Q:=by
 obtain ⟨dst,op,type,pos,after,guard⟩:=o;cases op<;>simp only [mL] at hm<;>try (cases hm;done)
 all_goals simp only [fP] at he
 case panic x=>
  have ar:=d' k x;generalize (bZ x).run r=xk at he ar;unfold Kk at he;cases xk<;>simp only at he<;>try (cases he;done)
  simp only [a7.cY.injEq] at he;obtain ⟨rfl,rfl⟩:=he;have qx:=ar;simp only [Rel] at ar;obtain ⟨Y,dL,fV⟩:=ar;refine ⟨fun _ _=>trivial,?_⟩;rw [qL (by intro c h;cases h)];have hex:(execOp a.eval ⟨dst,.panic x,type,pos,after,guard⟩).run P w=.halt (.panic (a.eval x)) w:=by simp only [execOp,dL,Instr.panic,Sem.run_bind];rfl
  rw [hex];exact dV E _ w (Env.le.refl E) qx s
 case call c=>
  obtain ⟨callee,args,types⟩:=c;cases callee<;>simp only at hm<;>try (cases hm;done)
  rename_i f;simp only [sf] at he;have aA:=d' k f;generalize ac4:(bZ f).run r=xi at he aA;cases xi<;>simp only [V.ze] at he<;>try (cases he;done)
  rotate_left
  . rename_i g cs;simp only [Rel] at aA;refine ⟨fun _ _=>trivial,?_⟩;rw [qL (by intro c h;cases h)];obtain ⟨al,first,dL,ax⟩:=aA;have qd:=bm.append ax (qa k args.toList);obtain ⟨⟨fn,hM,aj⟩,ao⟩:=c'.cY _ _ _ _ _ _ al he E w _ qd s;have hex:execOp a.eval ⟨dst,.call ⟨.value f,args,types⟩,type,pos,after,guard⟩=callFunc g (first++args.map a.eval):=by
     simp only [execOp,resolve,dL,Deferred.ofValue,pure_bind,invoke];simp
    have e:first++args.map a.eval=(first.toList++args.toList.map a.eval).toArray:=by apply aoH;simp
    rw [hex,e,s7 aK hM aj];refine ⟨fun h=>by simp at h,si.2 (ao.mono fun e w' aq=>?_)⟩;obtain ⟨aw,x,rfl,ag,av,aI⟩:=aq;exact dV aw x w' ag av aI
  rename_i g cs;simp only [Rel] at aA;refine ⟨fun _ _=>trivial,?_⟩;rw [qL (by intro c h;cases h)];rcases aA with ⟨al,e',dL,ax⟩ | ⟨al,b,p,gZ,ak,dL⟩
  . have qd:=(qa k args.toList).append ax;obtain ⟨⟨fn,hM,aj⟩,ao⟩:=c'.cY _ _ _ _ _ _ al he E w _ qd s;have hex:execOp a.eval ⟨dst,.call ⟨.value f,args,types⟩,type,pos,after,guard⟩=callFunc g (args.map a.eval++e'):=by
     simp only [execOp,resolve,dL,Deferred.ofValue,pure_bind,invoke];simp
    have e:args.map a.eval++e'=(args.toList.map a.eval++e'.toList).toArray:=by apply aoH;simp
    rw [hex,e,s7 aK hM aj];refine ⟨fun h=>by simp at h,si.2 (ao.mono fun e w' aq=>?_)⟩;obtain ⟨aw,x,rfl,ag,av,aI⟩:=aq;exact dV aw x w' ag av aI
  . subst al;exact absurd he (c'.U2 _ _ _ _)
def oI (aB:Fr) (E:Env) (az:Nat) (K:Act->World->Prop) (Q:Exit->Act->World->Prop):o_->Prop
 | .ok r h=>∀aw bt w',E.le aw->fU aw az r bt->ba aB aw h w'->K bt w'
 | .cY v r h=>∀aw bt w' x,E.le aw->fU aw az r bt->Rel aw v x->ba aB aw h w'->Q (.panic (qE x)) bt w'
 | .fail=>False
theorem oI.up {aB:Fr} {E aw:Env} (h:E.le aw) {az:Nat} {K:Act->World->Prop} {Q:Exit->Act->World->Prop} {x:o_} (k:oI aB E az K Q x):oI aB aw az K Q x:=by
 cases x with
 | ok r bo=>exact fun aH a w ad=>k aH a w (h.trans ad)
 | cY v r bo=>exact fun aH a w x ad=>k aH a w x (h.trans ad)
 | fail=>exact k
theorem SV {rd:Option Nat} {aB:Fr} {E:Env} {h:ah} {w:World} {call:et} (aK:e6 P) (c':ht P call) (ee:hG P call) {all:Array Oper} {i:Nat} {o:Oper} (au:all[i]? =some o) {az:Nat} {r:bN} {a:Act}
 (aZ:fG az o.dst=true) (k:fU E az r a) (s:ba aB E h w) {K:Act->World->Prop} {Q:Exit->Act->World->Prop} (hw:Region.wanted o (yielded all a.tmps)=true)
 (ak:oI aB E az K Q (Fg (mL o.op) (fP P o) (gh o.dst) call r h)):wpOpIn (cb rd) 0 P all Q i K a w:=by
 simp only [wpOpIn,au,hw,anz];unfold Fg at ak;cases a8:(fP P o).run call r h with
 | fail=>rw [a8] at ak;exact ak.elim
 | val v J=>
   rw [a8] at ak;exact OF aK c' ee a8 k.toRegRel0 s fun aw x w' ag av aI=>ak aw _ w' ag ((k.mono ag).put aZ av) aI
 | cY v J=>
   rw [a8] at ak;simp only at ak;cases hm:mL o.op with
   | false=>rw [hm] at ak;exact ak.elim
   | true=>
     rw [hm] at ak;exact OC aK c' hm a8 k.toRegRel0 s fun aw x w' ag av aI=>ak aw a w' x ag (k.mono ag) av aI
theorem UG {rd:Option Nat} {aB:Fr} {E:Env} {h:ah} {w:World} {all:Array Oper} {i:Nat} {o:Oper} (au:all[i]? =some o) {az:Nat} {r:bN} {a:Act}
 (aZ:fG az o.dst=true) (k:fU E az r a) (s:ba aB E h w) {K:Act->World->Prop} {Q:Exit->Act->World->Prop} (hw:Region.wanted o (yielded all a.tmps)=false)
 (ak:oI aB E az K Q (.ok ((gh o.dst).run r (.tuple [])) h)):wpOpIn (cb rd) 0 P all Q i K a w:=by
 simp only [wpOpIn,au,hw,anm,anw];exact ⟨fun _ _=>trivial,ak E _ w (Env.le.refl E) (k.put aZ (by simp only [Rel];exact ⟨#[],rfl,rfl⟩)) s⟩
theorem Ff {rd:Option Nat} {aB:Fr} {E:Env} {h:ah} {w:World} {call:et} (aK:e6 P) (c':ht P call) (ee:hG P call) {all:Array Oper} {i:Nat} {o:Oper} (au:all[i]? =some o) {az:Nat} {r:bN} {a:Act}
 (aZ:fG az o.dst=true) (k:fU E az r a) (s:ba aB E h w) {K:Act->World->Prop} {Q:Exit->Act->World->Prop}
 (ak:oI aB E az K Q ((zg P az all o).run call r h)):wpOpIn (cb rd) 0 P all Q i K a w:=by
 unfold zg at ak;cases al:o.guard with
 | none=>
   rw [al] at ak;exact SV aK c' ee au aZ k s (by simp [Region.wanted,al]) ak
 | some qy=>
   obtain ⟨j,want⟩:=qy;rw [al] at ak;simp only at ak;cases bJ:all[j]? with
   | none=>rw [bJ] at ak;exact ak.elim
   | some g=>
     rw [bJ] at ak;simp only at ak;cases lj:g.dst with
     | none=>rw [lj] at ak;exact ak.elim
     | some d=>
       rw [lj] at ak;simp only at ak;cases ao:(Nat.blt d az&&Nat.ble d top) with
       | false=>rw [ao] at ak;exact ak.elim
       | true=>
         rw [ao] at ak;simp only [am4,PW,pk] at ak;simp only [amX,anF,ann] at ao;obtain ⟨g1,g2⟩:=HY k.toRegRel0 bJ lj ao.1 ao.2;cases bB:T.get .bad (aC d) r<;>rw [bB] at ak<;>simp only at ak<;>try (exact ak.elim)
         . rename_i b;have bc:=g1 b bB;cases aj:(bif want then b else !b) with
           | true=>
             rw [aj] at ak;simp only [am4] at ak;refine SV aK c' ee au aZ k s ?_ ak;simp only [Region.wanted,al,bc];cases want<;>cases b<;>simp_all
           | false=>
             rw [aj] at ak;simp only [anf] at ak;refine UG au aZ k s ?_ ak;simp only [Region.wanted,al,bc];cases want<;>cases b<;>simp_all
         . rename_i ai;have bc:=g2 ai bB;refine UG au aZ k s ?_ ak;simp only [Region.wanted,al,bc];rfl
theorem lO.list {E:Env} {v:V} {ds:List Deferred} (k:lO E v ds):mm E v.list ds:=by
 cases v<;>first
  | exact k
theorem aib {rd:Option Nat} {aB:Fr} {E:Env} {h:ah} {w:World} {call:et} (aK:e6 P) (c':ht P call) (ee:hG P call) {all:Array Oper} {i:Nat} {o:Oper} (au:all[i]? =some o) {az:Nat} {r:bN} {a:Act}
 (aJ:rd=none\/B4 o=true) (k:fU E az r a) (s:ba aB E h w) {K:Act->World->Prop} {Q:Exit->Act->World->Prop}
 (ak:oI aB E az K Q ((Fe P az all o).run call r h)):wpOpIn (cb rd) 0 P all Q i K a w:=by
 unfold Fe at ak;cases aZ:fG az o.dst with
 | false=>rw [aZ] at ak;exact ak.elim
 | true=>
   rw [aZ] at ak;simp only [am4] at ak;obtain ⟨dst,op,type,pos,after,guard⟩:=o;cases op with
   | defer c=>
     rcases aJ with rfl | aJ
     case inr=>cases aJ
     simp only at ak;cases guard with
     | some _=>exact ak.elim
     | none=>
       simp only at ak;obtain ⟨callee,args,types⟩:=c;simp only [OU] at ak;cases callee<;>simp only at ak<;>try (exact ak.elim)
       rename_i f;unfold OV at ak;have aA:=d' k.toRegRel0 f;generalize (bZ f).run r=xi at ak aA;cases xi<;>simp only at ak<;>try (exact ak.elim)
       rename_i g cs;cases bc:Nat.beq g dv with
       | true=>rw [bc] at ak;exact ak.elim
       | false=>
         rw [bc] at ak;simp only [anf] at ak;have sv:g≠dv:=fun e=>by rw [e] at bc;exact absurd bc (by decide)
         simp only [Rel] at aA;rcases aA with ⟨_,e',dL,ax⟩ | ⟨al,_⟩
         case inr=>exact absurd al sv
         simp only [wpOpIn,au,Region.wanted,anz];refine ⟨fun _ _=>trivial,?_⟩;have hex:((Oper.mk dst (.defer ⟨.value f,args,types⟩) type pos after none).semAt (cb none).round a.eval).run P w=.ok (.defer {target:=.fn (.func g) e',args:=#[]++args.map a.eval}) w:=by simp only [Oper.semAt_none,execOp,resolve,dL,Deferred.ofValue,pure_bind];rfl
         rw [hex];refine ak E _ w (Env.le.refl E) (fU.put ?_ aZ (by simp only [Rel];exact ⟨#[],rfl,rfl⟩)) s;refine ⟨⟨k.size,fun t aE=>?_⟩,?_⟩
         rotate_left
         . rw [T.iH,anb rfl];simp only [lO,mm];refine ⟨_,_,rfl,⟨sv,e',rfl,?_⟩,k.defers.list⟩;have:=(qa k.toRegRel0 args.toList).append ax;simpa using this
         . rw [T.iH,am7 (fun e=>w0 aE e.symm)];exact k.af t aE
   | binOp op t x y u=>
     simp only at ak;cases guard with
     | some g=>exact Ff aK c' ee au aZ k s ak
     | none=>
       simp only at ak;cases mC:w4 P op t with
       | none=>rw [mC] at ak;exact Ff aK c' ee au aZ k s ak
       | some neg=>
         rw [mC] at ak;simp only [Tm] at ak;cases aq:me h ((bZ x).run r) ((bZ y).run r) with
         | none=>rw [aq] at ak;exact Ff aK c' ee au aZ k s ak
         | some b=>
           rw [aq] at ak;simp only [wpOpIn,au,Region.wanted,anz];obtain ⟨Z,cQ,cV⟩:=Tk (P:=P) (jS:=x) (jT:=y) s mC aq (d' k.toRegRel0 x) (d' k.toRegRel0 y);exact gR rfl (dH.plain s cQ cV) fun aw v w' ag av aI=>ak aw _ w' ag ((k.mono ag).put aZ av) aI
   | _=>exact Ff aK c' ee au aZ k s ak
theorem SW {rd:Option Nat} {aB:Fr} {call:et} (aK:e6 P) (c':ht P call) (ee:hG P call) {all:Array Oper} {az:Nat} {Q:Exit->Act->World->Prop}:∀(l:List Oper) (i:Nat),(∀j,l[j]? =all[i+j]?)->(rd=none\/∀o ∈ l,B4 o=true)->
 ∀(E:Env) (r:bN) (h:ah) (a:Act) (w:World),oI aB E az (Q .normal) Q ((Cc P az all l).run call r h)->fU E az r a->ba aB E h w->
 wpOpsIn (cb rd) 0 P all Q (List.range' i l.length) a w
 | [],i,_,_,E,r,h,a,w,ak,k,s=>by simp only [Cc] at ak;simp only [am8,List.range'_zero,wpOpsIn];exact ak E a w (Env.le.refl E) k s
 | o::os,i,ax,aJ,E,r,h,a,w,ak,k,s=>by
   simp only [Cc,T8] at ak;have au:all[i]? =some o:=by have:=ax 0;simpa using this.symm
   rw [am0,List.range'_succ,wpOpsIn_cons];refine aib aK c' ee au (aJ.imp id fun h=>h o (by simp)) k s ?_;cases J:(Fe P az all o).run call r h with
   | fail=>rw [J] at ak;exact ak
   | cY v bT v7=>rw [J] at ak;exact ak
   | ok bT v7=>
     rw [J] at ak;simp only at ak;intro aw bt w' ag av aI;refine SW aK c' ee os (i+1) (fun j=>?_) (aJ.imp id fun h cn ia=>h cn (by simp [ia])) aw bT v7 bt w' (ak.up ag) av aI;have:=ax (j+1);simp only [anS] at this;rw [this];congr 1;omega
end
theorem Pj {a b:V} (h:DI a b=true):a=b:=by
 cases a<;>cases b<;>simp only [DI] at h<;>first
  | rfl
  | (cases h;done)
  | (rename_i x y;cases x<;>cases y<;>simp_all;done)
  | (rename_i k x l y
     simp only [amX] at h;have J:=sj h.1;have ad:=h.2;rw [ni,aow] at ad;rw [J,ad];done)
  | (rw [vp,aow] at h;rw [h];done)
  | (simp only [amX,anA] at h
     obtain ⟨J,ad,aD,bn⟩:=h;rw [aU.ni J,ad,aD,bn];done)
  | (simp only [amX,anA] at h
     rw [aU.ni h.1,h.2];done)
  | (rw [aU.ni h];done)
  | (simp only [amX,anA,List.isEmpty_iff] at h
     obtain ⟨J,ad,aD⟩:=h;rw [J,ad,aD];done)
  | (simp only [amX,List.isEmpty_iff] at h
     rw [h.1,h.2];done)
theorem HF {f:V->V->Bool} (aA:∀a b,f a b=true->a=b):∀{a b:List V},xZ f a b=true->a=b
 | [],[],_=>rfl
 | [],_::_,h=>by cases h
 | _::_,[],h=>by cases h
 | a::x,b::y,h=>by
   simp only [xZ] at h;cases J:f a b with
   | false=>rw [J] at h;cases h
   | true=>
     rw [J] at h;rw [aA a b J,HF aA h]
theorem Wv {c x:Bool} (h:(bif c then x else false)=true):c=true/\x=true:=by
 cases c with
 | false=>cases h
 | true=>exact ⟨rfl,h⟩
theorem Pk:∀(d:Nat) (a b:V),vE d a b=true->a=b
 | 0,a,b,h=>Pj h
 | d+1,a,b,h=>by
   have bA:=Pk d;cases a<;>simp only [vE] at h<;>first
    | exact Pj h
    | (cases b<;>simp only at h<;>first
        | (cases h;done)
        | rfl
        | (rw [HF bA h];done)
        | (obtain ⟨J,ad⟩:=Wv h
           rw [anA] at J;rw [J]
           first
            | rw [HF bA ad]
            | rw [bA _ _ ad]))
theorem HG {a b:V} (h:AL a b=true):a=b:=Pk 5 a b h
theorem Ap (m i:Nat):gx m i=m.testBit i:=by
 rw [Nat.testBit_eq_decide_div_mod_eq];unfold gx;have e:Nat.mod (Nat.shiftRight m i) 2=m / 2 ^ i % 2:=by show (m >>> i) % 2=_;rw [Nat.shiftRight_eq_div_pow]
 rw [e,anT,anA,ane]
theorem JV {eG:List Nat} {i:Nat}:∀{es:List Edge},gx (uy eG es) i=true->∃e ∈ es,vq e=true/\(e.on=i\/gx ((eG[e.on]?).getD 0) i=true)
 | [],h=>by simp [uy,Ap] at h
 | e::es,h=>by
   simp only [uy] at h;cases aj:vq e with
   | false=>
     rw [aj] at h;obtain ⟨dI,J,ad⟩:=JV (es:=es) h;exact ⟨dI,by simp [J],ad⟩
   | true=>
     rw [aj] at h;simp only [am4,Ap] at h;have aa:((1 <<< e.on||| (eG[e.on]?).getD 0)||| uy eG es).testBit i=true:=h;rw [Nat.testBit_or,Nat.testBit_or,aog,aog] at aa;rcases aa with (J | J) | J
     . refine ⟨e,by simp,aj,.inl ?_⟩;rw [Nat.testBit_shiftLeft] at J;simp only [amX,ane] at J;have:=J.2;rw [Nat.testBit_one_eq_true_iff_self_eq_zero] at this;omega
     . exact ⟨e,by simp,aj,.inr (by rw [Ap];exact J)⟩
     . rw [<-Ap] at J;obtain ⟨dI,ag,av⟩:=JV (es:=es) J;exact ⟨dI,by simp [ag],av⟩
def qX (ops:Array Oper) (L:Nat->Prop):Prop:=∀k o e,L k->ops[k]? =some o->e ∈ o.after.toList->vq e=true->L e.on
theorem BZ {ops:Array Oper} {L:Nat->Prop} (AV:qX ops L):∀(os:List Oper) (eG:List Nat),(∀j,os[j]? =ops[eG.length+j]?)->
 (∀k m i,eG[k]? =some m->gx m i=true->L k->L i)->∀k m i,(fi eG os)[k]? =some m->gx m i=true->L k->L i
 | [],eG,_,h,k,m,i,ay,aj,cG=>h k m i ay aj cG
 | o::os,eG,ru,h,k,m,i,ay,aj,cG=>by
   simp only [fi] at ay;refine BZ AV os (eG++[uy eG o.after.toList]) (fun j=>?_) (fun k m i ay aj cG=>?_) k m i ay aj cG
   . have:=ru (j+1);simp only [anS] at this;rw [this];congr 1;simp;omega
   . by_cases aL:k<eG.length
     . rw [anp aL] at ay;exact h k m i ay aj cG
     . rw [ano (by omega)] at ay;have v_:k-eG.length=0:=by
        cases bG:k-eG.length with
        | zero=>rfl
        | succ n=>rw [bG] at ay;simp at ay
       rw [v_] at ay;simp only [anj,amW] at ay;subst ay;have Eh:k=eG.length:=by omega
       have a8:ops[k]? =some o:=by have:=ru 0;simp only [anj,aoA] at this;rw [Eh];exact this.symm
       obtain ⟨e,he,Ih,iu⟩:=JV aj;have P1:=AV k o e cG a8 he Ih;rcases iu with rfl | iu
       . exact P1
       . cases hm:eG[e.on]? with
         | none=>rw [hm] at iu;simp [Ap] at iu
         | some dA=>rw [hm] at iu;exact h e.on dA i hm iu P1
theorem qU {f:Nat->Nat->Oper->Bool}:∀{k:Nat} {ms:List Nat} {os:List Oper},oD f k ms os=true->∀j o,os[j]? =some o->∃m,ms[j]? =some m/\f (k+j) m o=true
 | _,_,[],_,j,o,h=>by simp at h
 | _,[],_::_,h,_,_,_=>by cases h
 | k,m::ms,cn::os,h,j,o,a8=>by
   simp only [oD,amX] at h;cases j with
   | zero=>simp only [anj,amW] at a8;subst a8;exact ⟨m,rfl,h.1⟩
   | succ j=>
     obtain ⟨dA,J,ad⟩:=qU h.2 j o (by simpa using a8);exact ⟨dA,by simpa using J,by rw [show k + (j+1)=k+1+j from by omega];exact ad⟩
theorem Le {f:Nat->Nat->Oper->Bool}:∀{k:Nat} {ms:List Nat} {os:List Oper},ms.length=os.length->(∀j m o,ms[j]? =some m->os[j]? =some o->f (k+j) m o=true)->oD f k ms os=true
 | _,[],[],_,_=>rfl
 | _,[],_::_,h,_=>by simp at h
 | _,_::_,[],h,_=>by simp at h
 | k,m::ms,o::os,h,aA=>by simp only [oD,amX];refine ⟨aA 0 m o rfl rfl,Le (by simpa using h) fun j dA cn J ad=>?_⟩;have:=aA (j+1) dA cn (by simpa using J) (by simpa using ad);rw [show k+1+j=k + (j+1) from by omega];exact this
theorem JW:∀(os:List Oper) (eG:List Nat),(fi eG os).length=eG.length+os.length
 | [],eG=>rfl
 | o::os,eG=>by simp [fi,JW os];omega
section
variable {P:Program}
theorem OE {o:Oper} {call:et} {r:bN} {h aa:ah} {v:V} (aq:ft P o.op=false) (he:(fP P o).run call r h=.val v aa):aa=h:=by
 obtain ⟨dst,op,type,pos,after,guard⟩:=o;cases op<;>simp only [ft] at aq<;>try (cases aq;done)
 all_goals simp only [fP] at he
 case convert s d x=>
  unfold q6 at he;cases aM:bf P s with
  | none=>rw [aM] at he;cases he
  | some uS=>
    cases aZ:bf P d with
    | none=>rw [aZ] at aq;cases aq
    | some pf=>
      rw [aM,aZ] at he;rw [aZ] at aq;simp only at he aq;cases hu:pf.bl with
      | int k=>
        rw [hu] at he;obtain ⟨bx,n,_,J⟩:=sZ he;simp only [a7.val.injEq] at J;exact J.2.symm
      | slice e=>rw [hu] at aq;cases aq
      | string=>
        rw [hu] at he;simp only at he
        have other:∀x:V,(match x with
         | .str s=>a7.val (.str s) h
         | .int _ n=>.val (.str (Utf8.encode n).data.toList) h
         | _=>.fail)=.val v aa->aa=h:=by
         intro x he;cases x<;>simp only at he<;>first
          | (cases he;done)
          | (simp only [a7.val.injEq] at he;exact he.2.symm)
        cases QV:uS.bl with
        | slice e=>
          rw [QV] at he;simp only at he;cases cE:bf P e with
          | none=>rw [cE] at he;cases he
          | some bh=>
            rw [cE] at he;simp only at he;have akc:∀b off len,uU b off len h=.val v aa->aa=h:=by
             intro b off len he;unfold uU at he;cases al:h.get b<;>rw [al] at he<;>simp only [cm.pL] at he<;>try (cases he;done)
             all_goals
              obtain ⟨_,ad⟩:=jN he;cases acY:o8 (h' _ off len)<;>rw [acY] at ad<;>first
               | (cases ad;done)
               | (simp only [a7.val.injEq] at ad;exact ad.2.symm)
            cases fh:bh.bl with
            | int BG=>
              rw [fh] at he;cases BG<;>simp only at he<;>try (cases he;done)
              simp only [tE] at he;cases ar:(bZ x).run r<;>rw [ar] at he<;>simp only at he<;>first
               | (cases he;done)
               | exact akc _ _ _ he
               | (simp only [a7.val.injEq] at he;exact he.2.symm)
            | _=>rw [fh] at he;cases he
        | _=>rw [QV] at he;exact other _ he
      | _=>rw [hu] at he;cases he
 case call c=>
  obtain ⟨callee,args,types⟩:=c;cases callee<;>simp only at aq<;>try (cases aq;done)
  rename_i b;simp only [sf] at he;cases b<;>simp only at aq<;>try (cases aq;done)
  . simp only [q5] at he;cases fW:types.toList with
    | nil=>rw [fW] at he;simp [gH.none] at he
    | cons t cZ=>
      cases cZ with
      | cons _ _=>rw [fW] at he;simp [gH.none] at he
      | nil=>
        rw [fW] at he;simp only at he;cases aE:bf P t with
        | none=>rw [aE] at he;simp [gH.none] at he
        | some aO=>
          rw [aE] at he;rw [fW] at aq;simp only [Jt,aE] at aq;simp only [aq,anf] at he
          split at he
          . exact (a7.je he).2
          . cases he
  . exact (a7.je he).2
  . exact (a7.je he).2
 case move=>simp only [a7.val.injEq] at he;exact he.2.symm
 case assign=>simp only [a7.val.injEq] at he;exact he.2.symm
 case pick c a b=>
  split at he
  . simp only [a7.val.injEq] at he;exact he.2.symm
  . cases he
 case makeFunc fn first e'=>
  cases fn<;>simp only at he<;>try (simp [dP.none] at he;done)
  rename_i f;cases aA:(first.isEmpty&&!Nat.beq f dv)<;>rw [aA] at he
  . simp only [anf] at he;cases j8:(e'.isEmpty&&!Nat.beq f dv)<;>rw [j8] at he
    . simp [dP.none] at he
    . simp only [am4,a7.val.injEq] at he;exact he.2.symm
  . simp only [am4,a7.val.injEq] at he;exact he.2.symm
 case typeAssert x uZ t ok=>
  cases aE:bf P t with
  | none=>rw [aE] at he;simp [dP.none] at he
  | some aO=>
    rw [aE] at he;simp only at he;cases aj:Nat.beq (fx aO.bl) 5<;>rw [aj] at he
    . exact (a7.je he).2
    . simp [dP.none] at he
 case makeInterface t x=>
  cases aE:bf P t with
  | none=>rw [aE] at he;simp [dP.none] at he
  | some aO=>
    rw [aE] at he;simp only at he;cases aj:Nat.beq (fx aO.bl) 5<;>rw [aj] at he
    . simp only [anf,a7.val.injEq] at he;exact he.2.symm
    . simp [dP.none] at he
 case extract x i=>
  split at he
  . exact (a7.je he).2
  . cases he
 all_goals exact (a7.je he).2
theorem a7.wY {h aa:ah} {x:Option V} {v:V} (he:a7.of h x=.val v aa) (H:ah):a7.of H x=.val v H:=by rw [(a7.je he).1];rfl
theorem OD {o:Oper} {call:et} {r:bN} {h aa:ah} {v:V} (aq:ft P o.op=false) (ax:looks o.op=false) (he:(fP P o).run call r h=.val v aa) (H:ah):(fP P o).run call r H=.val v H:=by
 obtain ⟨dst,op,type,pos,after,guard⟩:=o;cases op<;>simp only [ft] at aq<;>try (cases aq;done)
 all_goals simp only [looks] at ax<;>try (cases ax;done)
 all_goals simp only [fP] at he ⊢
 case call c=>
  obtain ⟨callee,args,types⟩:=c;cases callee<;>simp only at aq<;>try (cases aq;done)
  rename_i b;simp only [sf] at he ⊢;cases b<;>simp only at aq<;>try (cases aq;done)
  . simp only [q5] at he ⊢;cases fW:types.toList with
    | nil=>rw [fW] at he;simp [gH.none] at he
    | cons t cZ=>
      cases cZ with
      | cons _ _=>rw [fW] at he;simp [gH.none] at he
      | nil=>
        rw [fW] at he;simp only at he ⊢;cases aE:bf P t with
        | none=>rw [aE] at he;simp [gH.none] at he
        | some aO=>
          rw [aE] at he;rw [fW] at aq;simp only [Jt,aE] at aq;simp only [aq,anf] at he ⊢
          split at he
          . exact a7.wY he H
          . cases he
  . exact a7.wY he H
  . exact a7.wY he H
 case move=>simp only [a7.val.injEq] at he;rw [he.1]
 case assign=>simp only [a7.val.injEq] at he;rw [he.1]
 case pick c a b=>
  split at he
  . simp only [a7.val.injEq] at he;rw [he.1]
  . cases he
 case makeFunc fn first e'=>
  cases fn<;>simp only at he ⊢<;>try (simp [dP.none] at he;done)
  rename_i f;cases aA:(first.isEmpty&&!Nat.beq f dv)<;>rw [aA] at he
  . simp only [anf] at he ⊢;cases j8:(e'.isEmpty&&!Nat.beq f dv)<;>rw [j8] at he
    . simp [dP.none] at he
    . simp only [am4,a7.val.injEq] at he ⊢;exact ⟨he.1,trivial⟩
  . simp only [am4,a7.val.injEq] at he ⊢;exact ⟨he.1,trivial⟩
 case typeAssert x uZ t ok=>
  cases aE:bf P t with
  | none=>rw [aE] at he;simp [dP.none] at he
  | some aO=>
    rw [aE] at he;simp only at he ⊢;cases aj:Nat.beq (fx aO.bl) 5<;>rw [aj] at he
    . exact a7.wY he H
    . simp [dP.none] at he
 case makeInterface t x=>
  cases aE:bf P t with
  | none=>rw [aE] at he;simp [dP.none] at he
  | some aO=>
    rw [aE] at he;simp only at he ⊢;cases aj:Nat.beq (fx aO.bl) 5<;>rw [aj] at he
    . simp only [anf,a7.val.injEq] at he ⊢;exact ⟨he.1,trivial⟩
    . simp [dP.none] at he
 case extract x i=>
  split at he
  . exact a7.wY he H
  . cases he
 all_goals exact a7.wY he H
end
section
variable {P:Program}
def GH (P:Program) (E:Env) (m:Sem Value) (v:V) (h aa:ah):Prop:=
 ∃k,aa=h.new k/\True/\∀w,∃X E9,m.run P w=.ok X {w with heap:=w.heap.push E9}/\
  ∀aw,E.le aw->aw (aC h.next)=some ⟨w.heap.size,0,0⟩->Rel aw v X/\∀B,B<=w.heap.size->hf B aw {w with heap:=w.heap.push E9} (aC h.next) k
theorem E1 {E:Env} {h aa:ah} {ai:List V} {l:List Value} (ax:bm E ai l) (he:gP h ai=some aa) (t:TypeId):
 ∃k,aa=h.new k/\True/\∀w,(newRow t l.toArray).run P w=.ok ⟨w.heap.size,0,none⟩ {w with heap:=w.heap.push (.cells l.toArray t)}/\
  ∀aw,E.le aw->aw (aC h.next)=some ⟨w.heap.size,0,0⟩->∀B,B<=w.heap.size->hf B aw {w with heap:=w.heap.push (.cells l.toArray t)} (aC h.next) k:=by
 unfold gP at he;obtain ⟨ao,he⟩:=fc he;rw [ann] at ao;cases he;refine ⟨_,rfl,trivial,fun w=>⟨by simp [newRow],fun aw hle eL B dr=>?_⟩⟩;have:=HO (bm.mono hle _ _ ax) ao #[]
 rw [Array.append_empty] at this;exact ⟨ao,_,_,t,(0,0),eL,dr,by simp,.inr (am6 _),fun _=>rfl,fun h=>absurd rfl h,this⟩
theorem WI {E:Env} {h aa:ah} {t:TypeId} {n:Nat} {bD:List (Nat × V)} {kD:List (Nat × Value)} {v:V} (ak:r9 E bD kD) (he:(vs P t n).run bD h=.val v aa):
 GH P E (Instr.buildSlice t n kD.toArray) v h aa:=by
 unfold vs at he;cases aE:bf P t with
 | none=>rw [aE] at he;cases he
 | some aO=>
   rw [aE] at he;simp only at he;have hu:=fY aE;cases b3:aO.bl with
   | slice e=>
     rw [b3] at he hu;simp only at he;cases cE:bf P e with
     | none=>rw [cE] at he;cases he
     | some bh=>
       rw [cE] at he;simp only at he;cases bG:bh.zero with
       | none=>rw [bG] at he;cases he
       | some z=>
         rw [bG] at he;simp only at he;cases ao:(Nat.ble (n * bh.size) 1000000&&Nat.beq z.cells.length bh.size) with
         | false=>rw [ao] at he;cases he
         | true=>
           rw [ao] at he;simp only [am4] at he;simp only [amX,ann,anA] at ao;cases aA:nW (fun i=>some (i * bh.size,bh.size)) (jh z.cells n) bD with
           | none=>rw [aA] at he;cases he
           | some cs=>
             rw [aA] at he;simp only at he;cases aX:gP h cs with
             | none=>rw [aX] at he;cases he
             | some J=>
               rw [aX] at he;simp only [a7.val.injEq] at he;obtain ⟨rfl,rfl⟩:=he;obtain ⟨x,ar,pt,pv⟩:=ti (P:=P) (E:=E) cE bG ⟨#[],fun _ _=>0,0,default,#[]⟩;have sJ:x.cells.size=bh.size:=by rw [pv,ao.2]
               have sF:=zm pt n;rw [sJ] at sF;obtain ⟨b,lb,nn⟩:=AM (a:=(Array.range (n * bh.size)).map (x.cells[· % x.cells.size]!)) ak (by rw [sJ];exact sF) aA;obtain ⟨k,g1,g2,g3⟩:=E1 (P:=P) nn aX e;refine ⟨k,g1,g2,fun w=>⟨.slice (some ⟨w.heap.size,0,none⟩) n n,.cells b e,?_,fun aw hle eL=>⟨?_,?_⟩⟩⟩
               . have we:¬16777216<n * bh.size:=by omega
                 have lh:(newRow e b).run P w=.ok ⟨w.heap.size,0,none⟩ {w with heap:=w.heap.push (.cells b e)}:=by simpa using (g3 w).1
                 by_cases a1:n * bh.size=0
                 . have Ic:Instr.fill (fun i=>some (i * bh.size,bh.size)) ((Array.range (n * bh.size)).map ((#[]:Array Value)[· % 0]!)) kD=some b:=by
                    have an:(Array.range (n * bh.size)).map ((#[]:Array Value)[· % 0]!)=(Array.range (n * bh.size)).map (x.cells[· % x.cells.size]!):=by rw [a1];simp
                    rw [an];exact lb
                   have Ie:Instr.fill (fun i=>some (i * bh.size,bh.size)) ((Array.range (n * bh.size)).map (fun x=>(#[]:Array Value)[x % (#[]:Array Value).size]!)) kD=some b:=Ic;simp only [Instr.buildSlice,Sem.run_bind,hu,Result.andThen_ok,kE cE,Sem.run_ite];rw [am7 we];simp only [Sem.run_pure,Result.andThen_ok,anb a1];rw [Ie];simp only [Sem.run_bind,lh,Result.andThen_ok,Sem.run_pure]
                 . simp only [Instr.buildSlice,Sem.run_bind,hu,Result.andThen_ok,kE cE,Sem.run_ite];rw [am7 we];simp only [Sem.run_pure,Result.andThen_ok,am7 a1,ar];rw [lb];simp only [Sem.run_bind,lh,Result.andThen_ok,Sem.run_pure]
               . simp only [Rel];exact ⟨_,eL,am6 _,by simp⟩
               . simpa using (g3 w).2 aw hle eL
   | _=>rw [b3] at he;cases he
theorem ag4 {E:Env} {h aa:ah} {t:TypeId} {x y v:V} {X Y:Value} (ar:Rel E x X) (bc:Rel E y Y) (he:(wT P t).run x y h=.val v aa):
 GH P E (Instr.makeSlice t X Y) v h aa:=by
 unfold wT at he;cases aE:bf P t with
 | none=>rw [aE] at he;cases he
 | some aO=>
   rw [aE] at he;simp only at he;have hu:=fY aE;cases b3:aO.bl with
   | slice e=>
     rw [b3] at he hu;simp only at he;cases cE:bf P e with
     | none=>rw [cE] at he;cases he
     | some bh=>
       rw [cE] at he;simp only at he;cases bG:bh.zero with
       | none=>rw [bG] at he;cases he
       | some z=>
         rw [bG] at he;simp only at he;cases vR:Nat.ble bh.bytes 4096 with
         | false=>rw [vR] at he;cases he
         | true=>
           rw [vR] at he;simp only [am4,ux] at he;obtain ⟨bY,l,rfl,yk⟩:=sZ he;obtain ⟨b_,c,rfl,eY⟩:=sZ yk;have:=ar.jA;subst this;have:=bc.jA;subst this;obtain ⟨ao,qg⟩:=jN eY;simp only [amX,pB,ane,anA] at ao;obtain ⟨⟨a1,J,ad⟩,aD⟩:=ao;rw [ann] at vR;cases aX:gP h (jh z.cells c.toNat) with
           | none=>rw [aX] at qg;cases qg
           | some bo=>
             rw [aX] at qg;simp only [a7.val.injEq] at qg;obtain ⟨rfl,rfl⟩:=qg;obtain ⟨ml,wB,pt,pv⟩:=ti (P:=P) (E:=E) cE bG ⟨#[],fun _ _=>0,0,default,#[]⟩;have sJ:ml.cells.size=bh.size:=by rw [pv,aD]
             have sF:=zm pt c.toNat;obtain ⟨k,g1,g2,g3⟩:=E1 (P:=P) sF aX e;have wA:IntKind.i64.wrap l=l:=by simp only [IntKind.wrap,IntKind.bits,IntKind.signed];simp;omega
             have Jh:IntKind.i64.wrap c=c:=by simp only [IntKind.wrap,IntKind.bits,IntKind.signed];simp;omega
             have hmul:(bh.bytes:Int) * c<=4096 * 1000000:=by
              have aj:(bh.bytes:Int)<=4096:=by omega
              have:=Int.mul_le_mul_of_nonneg_right (c:=c) aj (by omega);omega
             refine ⟨k,g1,g2,fun w=>?_⟩;obtain ⟨i,au,rk⟩:=FT (P:=P) cE w;refine ⟨.slice (some ⟨w.heap.size,0,none⟩) l.toNat c.toNat,_,?_,fun aw hle eL=>⟨?_,(g3 w).2 aw hle eL⟩⟩
             . have lh:=(g3 w).1;simp only [aoc] at lh;have bW:¬c<0:=by omega
               have cw:¬((bh.bytes:Int) * c>281474976710656):=by omega
               have c3:¬l<0:=by omega
               have gV:¬l>c:=by omega
               have same:(if c.toNat * bh.size=0 then (Array.range (c.toNat * bh.size)).map (fun x=>(#[]:Array Value)[x % (#[]:Array Value).size]!) else (Array.range (c.toNat * bh.size)).map (fun x=>ml.cells[x % ml.cells.size]!))=
                (Array.range (c.toNat * ml.cells.size)).map (ml.cells[· % ml.cells.size]!):=by
                rw [sJ];by_cases aq:c.toNat * bh.size=0
                . rw [aq];simp
                . rw [am7 aq]
               simp only [Instr.makeSlice,Sem.run_bind,hu,Result.andThen_ok,asInt,asIntOf,Sem.run_pure,au,wA,Jh,rk];rw [am7 (by simp only [aog,ane,not_or];exact ⟨⟨⟨bW,cw⟩,c3⟩,gV⟩)];simp only [Result.andThen_ok,Sem.run_bind,run_askRoom,kE cE];by_cases aq:c.toNat * bh.size=0
               . rw [anb aq] at same;rw [anb aq];simp only [Sem.run_pure,Result.andThen_ok,Sem.run_bind,same,lh,aoc]
               . rw [am7 aq] at same;rw [am7 aq];simp only [Sem.run_pure,Result.andThen_ok,Sem.run_bind,wB,same,lh,aoc]
             . simp only [Rel];exact ⟨_,eL,by omega,by simp⟩
   | _=>rw [b3] at he;cases he
theorem Y6 {E:Env} {h aa:ah} {call:et} {o:Oper} {az:Nat} {r:bN} {a:Act} {v:V} (bF:hl o=true) (he:(fP P o).run call r h=.val v aa) (k:RegRel0 E az r a):
 ∃m:Sem Value,execOp a.eval o=(do pure (.value (<-m)))/\GH P E m v h aa:=by
 obtain ⟨dst,op,type,pos,after,guard⟩:=o;cases op<;>simp only [hl] at bF<;>try (cases bF;done)
 all_goals simp only [fP] at he
 case alloc t=>
  refine ⟨Instr.alloc t true (.tuple #[]),rfl,?_⟩;cases aE:bf P t with
  | none=>rw [aE] at he;simp [dP.none] at he
  | some aO=>
    rw [aE] at he;simp only at he;cases bG:aO.zero with
    | none=>rw [bG] at he;simp [dP.none] at he
    | some z=>
      rw [bG] at he;simp only at he;cases aX:gP h z.cells with
      | none=>rw [aX] at he;cases he
      | some J=>
        rw [aX] at he;simp only [hC,a7.val.injEq] at he;obtain ⟨rfl,rfl⟩:=he;obtain ⟨x,ar,pt,_⟩:=ti (P:=P) (E:=E) aE bG ⟨#[],fun _ _=>0,0,default,#[]⟩;obtain ⟨dy,g1,g2,g3⟩:=E1 (P:=P) pt aX t;refine ⟨dy,g1,g2,fun w=>⟨.pointer (some ⟨w.heap.size,0,none⟩),.cells x.cells t,?_,fun aw hle eL=>⟨?_,?_⟩⟩⟩
        . have:=(g3 w).1;simp only [aoc] at this;simp only [Instr.alloc,Sem.run_bind,ar,Result.andThen_ok,newVar,this,Sem.run_pure]
        . simp only [Rel];exact ⟨_,eL,by simp⟩
        . simpa using (g3 w).2 aw hle eL
 case box t x=>
  refine ⟨Instr.box t (a.eval x),rfl,?_⟩;obtain ⟨al,he⟩:=jN he;cases aX:gP h ((bZ x).run r).cells with
  | none=>rw [aX] at he;cases he
  | some J=>
    rw [aX] at he;simp only [hC,a7.val.injEq] at he;obtain ⟨rfl,rfl⟩:=he;have ax:=(d' k x).cells (fun e=>by rw [e] at al;cases al);obtain ⟨dy,g1,g2,g3⟩:=E1 (P:=P) ax aX t;refine ⟨dy,g1,g2,fun w=>⟨.pointer (some ⟨w.heap.size,0,none⟩),.cells (a.eval x).cells t,?_,fun aw hle eL=>⟨?_,?_⟩⟩⟩
    . have:=(g3 w).1;simp only [aoc] at this;simp only [Instr.box,Sem.run_bind,newVar,this,Result.andThen_ok,Sem.run_pure]
    . simp only [Rel];exact ⟨_,eL,by simp⟩
    . simpa using (g3 w).2 aw hle eL
 case buildSlice t n bD=>
  refine ⟨Instr.buildSlice t n (bD.map fun (i,x)=>(i,a.eval x)),rfl,?_⟩;rw [Kl];exact WI (Fj k bD.toList) he
 case makeSlice t l c=>exact ⟨Instr.makeSlice t (a.eval l) (a.eval c),rfl,ag4 (d' k l) (d' k c) he⟩
 case makeMap t x=>
  cases x with
  | some _=>cases bF
  | none=>
    refine ⟨Instr.makeMap t none,rfl,?_⟩;simp only [rR,y2] at he;cases aE:bf P t with
    | none=>rw [aE] at he;cases he
    | some aO=>
      rw [aE] at he;simp only at he;cases aj:Nat.beq (fx aO.bl) 3 with
      | false=>rw [aj] at he;cases he
      | true=>
        rw [aj] at he;simp only [am4,wS,y9] at he;simp only [a7.val.injEq] at he;obtain ⟨rfl,rfl⟩:=he;refine ⟨_,rfl,trivial,fun w=>⟨.map (some w.heap.size),.map #[] 0,?_,fun aw hle eL=>⟨?_,fun B dr=>?_⟩⟩⟩
        . simp only [Instr.makeMap,Sem.run_bind,run_newObj,Result.andThen_ok,Sem.run_pure]
        . simp only [Rel];exact ⟨_,eL,rfl⟩
        . exact ⟨_,#[],eL,dr,by simp,rfl⟩
def Fr.hold (F:Fr) (b:aU) (k:cm):Fr:=⟨F.w,fun bV=>if bV=b then some k else F.h0 bV⟩
def Fr.free (F:Fr) (b:aU):Fr:=⟨F.w,fun bV=>if bV=b then none else F.h0 bV⟩
theorem ba.hold {F:Fr} {E:Env} {h:ah} {w:World} (s:ba F E h w) (k:cm):ba (F.hold (aC h.next) k) E (h.new k) w:=by
 have d_:=s.fresh h.next (am6 _)
 refine ⟨fun b aj=>?_,fun b bx ay=>?_,fun b bV p p' J ad an aN j7=>?_,fun i au=>s.fresh i (Nat.le_of_succ_le au),s.frame,s.laid,fun b p n cs st J an=>s.base b p n cs st (by
  have db:aC h.next≠b:=fun e=>by rw [<-e,d_] at an;cases an
  rwa [ah.jt,am7 db] at J) an⟩
 . simp only [Fr.hold] at aj;by_cases aq:b=aC h.next
   . rw [anb aq] at aj;cases aj
   . rw [am7 aq] at aj;rw [ah.jt,am7 (fun e=>aq e.symm)];exact s.bj b aj
 . simp only [Fr.hold] at ay;by_cases aq:b=aC h.next
   . rw [anb aq] at ay;cases ay;exact ⟨by rw [ah.jt,anb aq.symm],by rw [aq];exact d_,h.next,Nat.lt_succ_self _,aq⟩
   . rw [am7 aq] at ay;obtain ⟨ag,av,i,aI,bU⟩:=s.pJ b bx ay;exact ⟨by rw [ah.jt,am7 (fun e=>aq e.symm)];exact ag,av,i,Nat.lt_succ_of_lt aI,bU⟩
 . have db:aC h.next≠b:=fun e=>by rw [<-e,d_] at an;cases an
   have mM:aC h.next≠bV:=fun e=>by rw [<-e,d_] at aN;cases aN
   rw [ah.jt,am7 db] at J;rw [ah.jt,am7 mM] at ad;exact s.inj b bV p p' J ad an aN j7
theorem ba.link {F:Fr} {E:Env} {h:ah} {w:World} (s:ba F E h w) {b:aU} {k:cm} (ak:F.h0 b=some k) {o:Obj}
 (nw:hf F.w.heap.size (E.put b ⟨w.heap.size,0,0⟩) {w with heap:=w.heap.push o} b k):
 E.le (E.put b ⟨w.heap.size,0,0⟩)/\ba (F.free b) (E.put b ⟨w.heap.size,0,0⟩) h {w with heap:=w.heap.push o}:=by
 obtain ⟨ay,d_,i0,bS,vQ⟩:=s.pJ b k ak;have hle:E.le (E.put b ⟨w.heap.size,0,0⟩):=Env.nB d_;have eL:E.put b ⟨w.heap.size,0,0⟩ b=some ⟨w.heap.size,0,0⟩:=by unfold Env.put;rw [anb rfl]
 have hold:∀bV,bV≠b->E.put b ⟨w.heap.size,0,0⟩ bV=E bV:=by intro bV aj;unfold Env.put;rw [am7 aj]
 have nZ:∀bV q,E bV=some q->(h.get bV)≠.dead->q.bj<w.heap.size:=by
  intro bV q aq aZ;have aj:=s.at aq;cases al:h.get bV with
  | dead=>exact absurd al aZ
  | view n cs=>rw [al] at aj;obtain ⟨_,fy,c,el,b5,e,_,bo,_⟩:=aj;rw [e] at aq;cases aq;exact (am1.1 bo).1
  | cells n cs cT st=>rw [al] at aj;obtain ⟨_,fy,c,el,b5,e,_,bo,_⟩:=aj;rw [e] at aq;cases aq;exact (am1.1 bo).1
  | iter st pos=>rw [al] at aj;obtain ⟨fy,e,_,_,bo⟩:=aj;rw [e] at aq;cases aq;exact (am1.1 bo).1
  | mp es clock=>rw [al] at aj;obtain ⟨fy,a,e,_,bo,_⟩:=aj;rw [e] at aq;cases aq;exact (am1.1 bo).1
  | gq l=>rw [al] at aj;obtain ⟨fy,a,e,_,bo,_⟩:=aj;rw [e] at aq;cases aq;exact (am1.1 bo).1
  | gj=>rw [al] at aj;obtain ⟨fy,e,_,bo⟩:=aj;rw [e] at aq;cases aq;exact (am1.1 bo).1
  | iy es=>rw [al] at aj;obtain ⟨fy,a,c,l,e,_,bo,_⟩:=aj;rw [e] at aq;cases aq;exact (am1.1 bo).1
  | kb src since seen last=>rw [al] at aj;obtain ⟨fy,m,a,e,_,_,bo,_⟩:=aj;rw [e] at aq;cases aq;exact (am1.1 bo).1
 refine ⟨hle,fun bV gl=>?_,fun bV bx ir=>?_,fun b8 cF cf cd J ad an aN j7=>?_,fun i au=>?_,⟨s.frame.os,s.frame.tape,s.frame.output,?_,fun j bJ=>?_⟩,s.laid,fun b8 cf n cs st J an=>by
  by_cases bW:b8=b
  . subst bW;rw [eL] at an;cases an;rfl
  . rw [hold b8 bW] at an;exact s.base _ _ _ _ _ J an⟩
 . by_cases aq:bV=b
   . subst aq;rw [ay];exact nw
   . simp only [Fr.free,am7 aq] at gl;have a1:=(s.bj bV gl).mono hle;by_cases aZ:h.get bV=.dead
     . rw [aZ];trivial
     . refine hf.gp a1 fun q sC=>?_;rw [hold bV aq] at sC;have:=nZ bV q sC aZ;simp only [aoO];rw [am7 (by omega)]
 . simp only [Fr.free] at ir;by_cases aq:bV=b
   . rw [anb aq] at ir;cases ir
   . rw [am7 aq] at ir;obtain ⟨ag,av,aI⟩:=s.pJ bV bx ir;exact ⟨ag,by rw [hold bV aq];exact av,aI⟩
 . by_cases bW:b8=b<;>by_cases cw:cF=b
   . exact bW.trans cw.symm
   . subst bW;rw [eL] at an;cases an;rw [hold cF cw] at aN;have:=nZ cF cd aN (fun e=>by rw [e] at ad;cases ad);simp only at j7;omega
   . subst cw;rw [eL] at aN;cases aN;rw [hold b8 bW] at an;have:=nZ b8 cf an (fun e=>by rw [e] at J;cases J);simp only at j7;omega
   . rw [hold b8 bW] at an;rw [hold cF cw] at aN;exact s.inj b8 cF cf cd J ad an aN j7
 . rw [hold _ (fun e=>?_)]
   . exact s.fresh i au
   . rw [vQ] at e;have:=lF e;omega
 . have:=s.frame.size;simp only [Array.size_push,Fr.free];omega
 . have J:=s.frame.size;simp only [Fr.free,aoO];rw [am7 (by simp only [Fr.free] at bJ;omega)];exact s.frame.block j bJ
end
section
variable {P:Program}
def e2 (es:List fr) (dk:bN) (i:Nat):bN:=
 match es[i]? with
 | some e=>e.r
 | none=>dk
theorem ym (e:fr) (es:List fr) (aA:ah) (i:Nat):cr (e::es) aA (i+1)=cr es aA i:=by simp [cr]
theorem zl (e:fr) (es:List fr) (dk:bN) (i:Nat):e2 (e::es) dk (i+1)=e2 es dk i:=by simp [e2]
theorem uT {az:Nat} {all:Array Oper} {call:et}:∀{l:List Oper} {r dk:bN} {h aA:ah} {es:List fr},(f' P az all l).run call r h=.ok es dk aA->
 es.length=l.length/\cr es aA 0=h/\e2 es dk 0=r/\∀j o,l[j]? =some o->∃e,es[j]? =some e/\(cU P az all o).run call e.r e.h=.val e.v (cr es aA (j+1))/\e2 es dk (j+1)=(gh o.dst).run e.r e.v
 | [],r,dk,h,aA,es,he=>by simp only [f',qW.ok.injEq] at he;obtain ⟨rfl,rfl,rfl⟩:=he;exact ⟨rfl,rfl,rfl,fun j o a8=>by simp at a8⟩
 | o::os,r,dk,h,aA,es,he=>by
   simp only [f',Cx] at he;cases J:(cU P az all o).run call r h with
   | fail=>rw [J] at he;cases he
   | cY _ _=>rw [J] at he;simp only at he;cases hm:mL o.op<;>rw [hm] at he<;>cases he
   | val v bo=>
     rw [J] at he;simp only at he;cases ad:(f' P az all os).run call ((gh o.dst).run r v) bo with
     | fail=>rw [ad] at he;cases he
     | cY _ _ _ _ _=>rw [ad] at he;cases he
     | ok h9 bT aD=>
       rw [ad] at he;simp only [qW.ok.injEq] at he;obtain ⟨rfl,rfl,rfl⟩:=he;obtain ⟨ag,av,aI,bU⟩:=uT ad;refine ⟨by simp [ag],by simp [cr],by simp [e2],fun j cn a8=>?_⟩;cases j with
       | zero=>
         simp only [anj,amW] at a8;subst a8;exact ⟨⟨r,h,v⟩,rfl,by rw [ym,av];exact J,by rw [zl,aI]⟩
       | succ j=>
         obtain ⟨e,cf,cd,eU⟩:=bU j cn (by simpa using a8);exact ⟨e,by simpa using cf,by rw [ym];exact cd,by rw [zl];exact eU⟩
theorem Ui {az:Nat} {all:Array Oper} {call:et}:∀{l:List Oper} {r dk:bN} {h aA aa:ah} {es:List fr} {v:V},(f' P az all l).run call r h=.cY es dk aA v aa->
 cr es aA 0=h/\e2 es dk 0=r/\(∀j o,j<es.length->l[j]? =some o->∃e,es[j]? =some e/\(cU P az all o).run call e.r e.h=.val e.v (cr es aA (j+1))/\e2 es dk (j+1)=(gh o.dst).run e.r e.v)/\
  ∃o,l[es.length]? =some o/\mL o.op=true/\(cU P az all o).run call dk aA=.cY v aa
 | [],r,dk,h,aA,aa,es,v,he=>by simp [f'] at he
 | o::os,r,dk,h,aA,aa,es,v,he=>by
   simp only [f',Cx] at he;cases J:(cU P az all o).run call r h with
   | fail=>rw [J] at he;cases he
   | cY x ar=>
     rw [J] at he;simp only at he;cases hm:mL o.op with
     | false=>rw [hm] at he;cases he
     | true=>
       rw [hm] at he;simp only [am4,qW.cY.injEq] at he;obtain ⟨rfl,rfl,rfl,rfl,rfl⟩:=he;exact ⟨rfl,rfl,fun j cn bJ=>by simp at bJ,o,rfl,hm,J⟩
   | val x bo=>
     rw [J] at he;simp only at he;cases ad:(f' P az all os).run call ((gh o.dst).run r x) bo with
     | fail=>rw [ad] at he;cases he
     | ok _ _ _=>rw [ad] at he;cases he
     | cY h9 bT aD v1 bn=>
       rw [ad] at he;simp only [qW.cY.injEq] at he;obtain ⟨rfl,rfl,rfl,rfl,rfl⟩:=he;obtain ⟨av,aI,bU,dc,c8,eH,iR⟩:=Ui ad;refine ⟨by simp [cr],by simp [e2],fun j cn bJ a8=>?_,dc,by simpa using c8,eH,iR⟩;cases j with
       | zero=>
         simp only [anj,amW] at a8;subst a8;exact ⟨⟨r,h,x⟩,rfl,by rw [ym,av];exact J,by rw [zl,aI]⟩
       | succ j=>
         obtain ⟨e,cf,cd,eU⟩:=bU j cn (by simpa using bJ) (by simpa using a8);exact ⟨e,by simpa using cf,by rw [ym];exact cd,by rw [zl];exact eU⟩
theorem PQ {az:Nat} {d:Option Nat} (aZ:fG az d=true) {r:bN} {v:V} {t:Nat} (aE:t<=top):T.get .bad (aC t) ((gh d).run r v)=if d=some t then v else T.get .bad (aC t) r:=by
 cases d with
 | none=>simp [gh]
 | some d=>
   simp only [fG,amX,anF,ann] at aZ;simp only [gh,T.iH,amW];by_cases h:d=t
   . subst h;simp
   . rw [am7 (fun e=>h (lF e)),am7 h]
theorem k9 {az:Nat} {all:Array Oper} {o:Oper} {call:et} {r:bN} {h aa:ah} {v:V} (he:(cU P az all o).run call r h=.val v aa):fG az o.dst=true/\ji (b2 all o)=true:=by
 unfold cU at he;cases ao:(fG az o.dst&&ji (b2 all o)) with
 | false=>rw [ao] at he;simp [dP.none] at he
 | true=>simpa using ao
theorem F7 {r:bN} {rs:List Nat} (aM:ji rs=true) {t:Nat} (aE:t<=top):T.get .bad (aC t) (dM r rs)=if t ∈ rs then T.get .bad (aC t) r else .bad:=by
 induction rs with
 | nil=>simp [dM]
 | cons u rs bA=>
   simp only [ji,anX,amX,ann] at aM;simp only [dM,T.iH,ans];by_cases h:u=t
   . subst h;simp
   . rw [am7 (fun e=>h (lF e)),bA aM.2];have aa:¬t=u:=fun e=>h e.symm;simp [aa]
theorem OZ {az:Nat} {all:Array Oper} {o:Oper} {call:et} {r:bN} {h aa:ah} {v:V} (he:(cU P az all o).run call r h=.cY v aa):fG az o.dst=true/\ji (b2 all o)=true:=by
 unfold cU at he;cases ao:(fG az o.dst&&ji (b2 all o)) with
 | false=>rw [ao] at he;simp [dP.none] at he
 | true=>simpa using ao
def GK (aB:Fr) (E:Env) (o:Oper) (a:Act) (K:Act->World->Prop) (Q:Exit->Act->World->Prop):a7->Prop
 | .val v aa=>∀aw x w',E.le aw->Rel aw v x->ba aB aw aa w'->K (a.put o.dst x) w'
 | .cY v aa=>mL o.op=true/\∀aw x w',E.le aw->Rel aw v x->ba aB aw aa w'->Q (.panic (qE x)) a w'
 | .fail=>False
theorem O0 {rd:Option Nat} {aB:Fr} {E:Env} {h:ah} {w:World} {call:et} (aK:e6 P) (c':ht P call) (ee:hG P call) {all:Array Oper} {i:Nat} {o:Oper} (au:all[i]? =some o) {az:Nat} {r:bN} {a:Act}
 (hW:fG az o.dst=true/\ji (b2 all o)=true) (qu:a.tmps.size=az) (lr:∀t ∈ b2 all o,Rel E (T.get .bad (aC t) r) (a.tmps.getD t undef)) (s:ba aB E h w)
 {K:Act->World->Prop} {Q:Exit->Act->World->Prop} (ak:GK aB E o a K Q ((cU P az all o).run call r h)):wpOpIn (cb rd) 0 P all Q i K a w:=by
 obtain ⟨aZ,aM⟩:=hW
 have k:RegRel0 E az (dM r (b2 all o)) a:=⟨qu,fun t aE=>by
  rw [F7 aM aE];by_cases hm:t ∈ b2 all o
  . rw [anb hm];exact lr t hm
  . rw [am7 hm];simp [Rel]⟩
 unfold cU at ak;rw [show (fG az o.dst&&ji (b2 all o))=true from by rw [aZ,aM];rfl] at ak;simp only [am4] at ak;have wanted:GK aB E o a K Q ((fP P o).run call (dM r (b2 all o)) h)->Region.wanted o (yielded all a.tmps)=true->wpOpIn (cb rd) 0 P all Q i K a w:=by
  intro J hw;simp only [wpOpIn,au,hw,anz];cases aJ:(fP P o).run call (dM r (b2 all o)) h with
  | fail=>rw [aJ] at J;exact J.elim
  | val v aa=>rw [aJ] at J;exact OF aK c' ee aJ k s J
  | cY v aa=>rw [aJ] at J;exact OC aK c' J.1 aJ k s J.2
 have UF:GK aB E o a K Q (.val (.tuple []) h)->Region.wanted o (yielded all a.tmps)=false->wpOpIn (cb rd) 0 P all Q i K a w:=by intro J hw;simp only [wpOpIn,au,hw,anm,anw];exact ⟨fun _ _=>trivial,J E undef w (Env.le.refl E) (by simp only [Rel];exact ⟨#[],rfl,rfl⟩) s⟩
 cases al:o.guard with
 | none=>
   rw [al] at ak;exact wanted ak (by simp [Region.wanted,al])
 | some qy=>
   obtain ⟨j,want⟩:=qy;rw [al] at ak;simp only at ak;cases bJ:all[j]? with
   | none=>rw [bJ] at ak;exact ak.elim
   | some g=>
     rw [bJ] at ak;simp only at ak;cases lj:g.dst with
     | none=>rw [lj] at ak;exact ak.elim
     | some d=>
       rw [lj] at ak;simp only at ak;cases ao:(Nat.blt d az&&Nat.ble d top) with
       | false=>rw [ao] at ak;exact ak.elim
       | true=>
         rw [ao] at ak;simp only [am4,jO,pk] at ak;simp only [amX,anF,ann] at ao;obtain ⟨g1,g2⟩:=HY k bJ lj ao.1 ao.2;cases bB:T.get .bad (aC d) (dM r (b2 all o))<;>rw [bB] at ak<;>simp only at ak<;>try (exact ak.elim)
         . rename_i b;have bc:=g1 b bB;cases aj:(bif want then b else !b) with
           | true=>
             rw [aj] at ak;simp only [am4] at ak;refine wanted ak ?_;simp only [Region.wanted,al,bc];cases want<;>cases b<;>simp_all
           | false=>
             rw [aj] at ak;simp only [anf] at ak;refine UF ak ?_;simp only [Region.wanted,al,bc];cases want<;>cases b<;>simp_all
         . rename_i ai;have bc:=g2 ai bB;refine UF ak ?_;simp only [Region.wanted,al,bc];rfl
theorem q7 {rd:Option Nat} {aB:Fr} {E:Env} {h aa:ah} {w:World} {call:et} (aK:e6 P) (c':ht P call) (ee:hG P call) {all:Array Oper} {i:Nat} {o:Oper} (au:all[i]? =some o) {az:Nat} {r:bN} {a:Act} {v:V}
 (he:(cU P az all o).run call r h=.val v aa) (qu:a.tmps.size=az) (lr:∀t ∈ b2 all o,Rel E (T.get .bad (aC t) r) (a.tmps.getD t undef)) (s:ba aB E h w)
 {K:Act->World->Prop} {Q:Exit->Act->World->Prop} (dU:∀aw x w',E.le aw->Rel aw v x->ba aB aw aa w'->K (a.put o.dst x) w'):wpOpIn (cb rd) 0 P all Q i K a w:=
 O0 aK c' ee au (k9 he) qu lr s (by rw [he];exact dU)
theorem ZD {rd:Option Nat} {aB:Fr} {E:Env} {h aa:ah} {w:World} {call:et} (aK:e6 P) (c':ht P call) (ee:hG P call) {all:Array Oper} {i:Nat} {o:Oper} (au:all[i]? =some o) {az:Nat} {r:bN} {a:Act} {v:V}
 (he:(cU P az all o).run call r h=.cY v aa) (hm:mL o.op=true) (qu:a.tmps.size=az) (lr:∀t ∈ b2 all o,Rel E (T.get .bad (aC t) r) (a.tmps.getD t undef)) (s:ba aB E h w)
 {K:Act->World->Prop} {Q:Exit->Act->World->Prop} (dV:∀aw x w',E.le aw->Rel aw v x->ba aB aw aa w'->Q (.panic (qE x)) a w'):wpOpIn (cb rd) 0 P all Q i K a w:=
 O0 aK c' ee au (OZ he) qu lr s (by rw [he];exact ⟨hm,dV⟩)
theorem vx {az:Nat} {all:Array Oper} {o:Oper} {call:et} {r:bN} {h aa:ah} {v:V} (aq:ft P o.op=false) (he:(cU P az all o).run call r h=.val v aa):
 aa=h/\(looks o.op=false->∀H,(cU P az all o).run call r H=.val v H):=by
 obtain ⟨aZ,aM⟩:=k9 he;have dJ:(fG az o.dst&&ji (b2 all o))=true:=by rw [aZ,aM];rfl
 have key:cU P az all o=(match o.guard with
  | none=>⟨jO none (fP P o) (b2 all o)⟩
  | some (j,want)=>match all[j]? with
    | some g=>match g.dst with
      | some d=>bif Nat.blt d az&&Nat.ble d top then ⟨jO (some (pk (aC d),want)) (fP P o) (b2 all o)⟩ else dP.none
      | none=>dP.none
    | none=>dP.none):=by
  unfold cU;rw [dJ];rfl
 rw [key] at he ⊢;cases al:o.guard with
 | none=>
   rw [al] at he;exact ⟨OE aq he,fun ax H=>OD aq ax he H⟩
 | some qy=>
   obtain ⟨j,want⟩:=qy;rw [al] at he;simp only at he ⊢;cases bJ:all[j]? with
   | none=>rw [bJ] at he;simp [dP.none] at he
   | some g=>
     rw [bJ] at he;simp only at he ⊢;cases lj:g.dst with
     | none=>rw [lj] at he;simp [dP.none] at he
     | some d=>
       rw [lj] at he;simp only at he ⊢;cases ao:(Nat.blt d az&&Nat.ble d top) with
       | false=>rw [ao] at he;simp [dP.none] at he
       | true=>
         rw [ao] at he;simp only [am4,jO] at he ⊢;cases bB:(pk (aC d)).run (dM r (b2 all o))<;>rw [bB] at he<;>simp only at he ⊢<;>try (cases he;done)
         . rename_i b;cases aj:(bif want then b else !b)<;>rw [aj] at he<;>simp only [am4,anf] at he ⊢
           . simp only [a7.val.injEq] at he ⊢;exact ⟨he.2.symm,fun _ H=>⟨he.1,trivial⟩⟩
           . exact ⟨OE aq he,fun ax H=>OD aq ax he H⟩
         . simp only [a7.val.injEq] at he ⊢;exact ⟨he.2.symm,fun _ H=>⟨he.1,trivial⟩⟩
theorem LU {op:dP} {call:et} {es:List fr} {aA:ah} {r:bN} {v:V}:∀{kh:List Nat},Dh op call es aA r v kh=true->∀s ∈ kh,∃aa,op.run call r (cr es aA s)=.val v aa
 | [],_,s,h=>by simp at h
 | h3::kh,he,s,hm=>by
   simp only [Dh,amX] at he;simp only [ans] at hm;rcases hm with rfl | hm
   . have J:=he.1;cases aJ:op.run call r (cr es aA s) with
     | fail=>rw [aJ] at J;cases J
     | cY _ _=>rw [aJ] at J;cases J
     | val cI aa=>
       rw [aJ] at J;rw [HG J];exact ⟨aa,rfl⟩
   . exact LU he.2 s hm
theorem G2 {az:Nat} {all:Array Oper} {eG aF e8:List Nat} {call:et} {es:List fr} {aA:ah}:∀{l:List Oper} {i:Nat},(sc P az all eG aF e8 i l).run call es aA=true->
 ∀j o,l[j]? =some o->looks o.op=true->ft P o.op=false->∀e,es[posOf aF (i+j)]? =some e->∀s ∈ e8,sW P eG all.toList aF (i+j) ((eG[i+j]?).getD 0) s=true->∃aa,(cU P az all o).run call e.r (cr es aA s)=.val e.v aa
 | [],_,_,j,o,a8,_,_=>by simp at a8
 | cn::os,i,he,j,o,a8,ax,aq=>by
   simp only [sc] at he;cases j with
   | zero=>
     simp only [anj,amW] at a8;subst a8;rw [ax,aq] at he;simp only [Bool.not_false,anY,am4,amX,LV] at he;have J:=he.1;intro e rh s aM hm
     . rw [aoA] at rh;rw [rh] at J;exact LU J s (List.mem_filter.2 ⟨aM,by simpa using hm⟩)
   | succ j=>
     have rest:(sc P az all eG aF e8 (i+1) os).run call es aA=true:=by
      cases ao:(looks cn.op&&!ft P cn.op) with
      | false=>rw [ao] at he;exact he
      | true=>rw [ao] at he;simp only [am4,amX] at he;exact he.2
     have:=G2 rest j o (by simpa using a8) ax aq;rw [show i + (j+1)=i+1+j from by omega];exact this
theorem y0 {aF:List Nat}:∀{l:List Oper} {i j:Nat} {o:Oper},l[j]? =some o->eR P o=true->posOf aF (i+j) ∈ ig P aF i l
 | [],_,j,o,h,_=>by simp at h
 | cn::os,i,j,o,h,he=>by
   simp only [ig];cases j with
   | zero=>
     simp only [anj,amW] at h;subst h;rw [he];simp
   | succ j=>
     have:=y0 (aF:=aF) (i:=i+1) (by simpa using h) he;rw [show i + (j+1)=i+1+j from by omega];cases eR P cn with
     | true=>simp [this]
     | false=>exact this
theorem EO {aF:List Nat}:∀{l:List Oper} {i:Nat},i+l.length ∈ ig P aF i l
 | [],_=>by simp [ig]
 | o::os,i=>by
   have:=EO (aF:=aF) (l:=os) (i:=i+1);simp only [ig,am0];rw [show i + (os.length+1)=i+1+os.length from by omega];cases eR P o with
   | true=>simp [this]
   | false=>exact this
theorem uu {aF:List Nat}:∀{l:List Oper} {i s:Nat},s ∈ ig P aF i l->s=i+l.length\/∃j o,l[j]? =some o/\eR P o=true/\s=posOf aF (i+j)
 | [],i,s,h=>by simp only [ig,aos] at h;exact .inl (by simpa using h)
 | o::os,i,s,h=>by
   simp only [ig] at h;have rest:s ∈ ig P aF (i+1) os->s=i + (o::os).length\/∃j cn,(o::os)[j]? =some cn/\eR P cn=true/\s=posOf aF (i+j):=by
    intro h;rcases uu h with h | ⟨j,cn,J,ad,aD⟩
    . exact .inl (by simp only [am0];omega)
    . exact .inr ⟨j+1,cn,by simpa using J,ad,by rw [aD];congr 1;omega⟩
   cases ao:eR P o with
   | true=>
     rw [ao] at h;simp only [am4,ans] at h;rcases h with h | h
     . exact .inr ⟨0,o,rfl,ao,h⟩
     . exact rest h
   | false=>rw [ao] at h;exact rest h
theorem YZ {c:Bool} {f:V->V->ah->a7} {x y v:V} {h aa:ah} (he:(bif c then (⟨f⟩:zM) else ⟨fun _ _ _=>.fail⟩).run x y h=.val v aa):c=true/\f x y h=.val v aa:=by
 cases c with
 | true=>exact ⟨rfl,he⟩
 | false=>cases he
theorem Y7 {o:Oper} {call:et} {r:bN} {h aa:ah} {v:V} (bF:hl o=true) (he:(fP P o).run call r h=.val v aa):∃k,aa=h.new k/\True:=by
 have cells:∀{ai:List V} {J:ah},gP h ai=some J->∃k,J=h.new k/\True:=by intro ai J he;unfold gP at he;obtain ⟨ao,he⟩:=fc he;cases he;exact ⟨_,rfl,trivial⟩
 obtain ⟨dst,op,type,pos,after,guard⟩:=o;cases op<;>simp only [hl] at bF<;>try (cases bF;done)
 all_goals simp only [fP] at he
 case alloc t=>
  cases aE:bf P t with
  | none=>rw [aE] at he;simp [dP.none] at he
  | some aO=>
    rw [aE] at he;simp only at he;cases bG:aO.zero with
    | none=>rw [bG] at he;simp [dP.none] at he
    | some z=>
      rw [bG] at he;simp only at he;cases aX:gP h z.cells with
      | none=>rw [aX] at he;cases he
      | some J=>
        rw [aX] at he;simp only [hC,a7.val.injEq] at he;obtain ⟨_,rfl⟩:=he;exact cells aX
 case box t x=>
  obtain ⟨al,he⟩:=jN he;cases aX:gP h ((bZ x).run r).cells with
  | none=>rw [aX] at he;cases he
  | some J=>
    rw [aX] at he;simp only [hC,a7.val.injEq] at he;obtain ⟨_,rfl⟩:=he;exact cells aX
 case buildSlice t n bD=>
  unfold vs at he;cases aE:bf P t with
  | none=>rw [aE] at he;cases he
  | some aO=>
    rw [aE] at he;simp only at he;cases b3:aO.bl<;>rw [b3] at he<;>simp only at he<;>try (cases he;done)
    rename_i e;cases cE:bf P e with
    | none=>rw [cE] at he;cases he
    | some bh=>
      rw [cE] at he;simp only at he;cases bG:bh.zero with
      | none=>rw [bG] at he;cases he
      | some z=>
        rw [bG] at he;simp only at he;cases ao:(Nat.ble (n * bh.size) 1000000&&Nat.beq z.cells.length bh.size) with
        | false=>rw [ao] at he;cases he
        | true=>
          rw [ao] at he;simp only [am4] at he;cases aA:nW (fun i=>some (i * bh.size,bh.size)) (jh z.cells n) ((uI bD.toList).run r) with
          | none=>rw [aA] at he;cases he
          | some cs=>
            rw [aA] at he;simp only at he;cases aX:gP h cs with
            | none=>rw [aX] at he;cases he
            | some J=>
              rw [aX] at he;simp only [a7.val.injEq] at he;obtain ⟨_,rfl⟩:=he;exact cells aX
 case makeSlice t l c=>
  unfold wT at he
  split at he
  rotate_left
  . cases he
  split at he
  rotate_left
  . cases he
  split at he
  rotate_left
  . cases he
  split at he
  rotate_left
  . cases he
  obtain ⟨_,he⟩:=YZ he;simp only [ux] at he;obtain ⟨_,_,_,he⟩:=sZ he;obtain ⟨_,_,_,he⟩:=sZ he;obtain ⟨_,he⟩:=jN he
  split at he
  . rename_i aX;simp only [a7.val.injEq] at he;obtain ⟨_,rfl⟩:=he;exact cells aX
  . cases he
 case makeMap t x=>
  cases x with
  | some _=>cases bF
  | none=>
    simp only [rR,y2] at he;cases aE:bf P t with
    | none=>rw [aE] at he;cases he
    | some aO=>
      rw [aE] at he;simp only at he;cases aj:Nat.beq (fx aO.bl) 3 with
      | false=>rw [aj] at he;cases he
      | true=>
        rw [aj] at he;simp only [am4,wS,y9] at he;simp only [a7.val.injEq] at he;exact ⟨_,he.2.symm,trivial⟩
theorem adz {o:Oper} (bF:hl o=true):ft P o.op=true:=by obtain ⟨dst,op,type,pos,after,guard⟩:=o;cases op<;>simp only [hl] at bF<;>first | (cases bF;done) | rfl
theorem O2 {az:Nat} {all:Array Oper} {o:Oper} {call:et} {r:bN} {h aa:ah} {v:V} (he:(cU P az all o).run call r h=.val v aa):
 ((fP P o).run call (dM r (b2 all o)) h=.val v aa/\∀E a,RegRel0 E az (dM r (b2 all o)) a->Region.wanted o (yielded all a.tmps)=true)\/
 (aa=h/\∀H,(cU P az all o).run call r H=.val v H):=by
 obtain ⟨aZ,aM⟩:=k9 he;have dJ:(fG az o.dst&&ji (b2 all o))=true:=by rw [aZ,aM];rfl
 have key:cU P az all o=(match o.guard with
  | none=>⟨jO none (fP P o) (b2 all o)⟩
  | some (j,want)=>match all[j]? with
    | some g=>match g.dst with
      | some d=>bif Nat.blt d az&&Nat.ble d top then ⟨jO (some (pk (aC d),want)) (fP P o) (b2 all o)⟩ else dP.none
      | none=>dP.none
    | none=>dP.none):=by
  unfold cU;rw [dJ];rfl
 rw [key] at he ⊢;cases al:o.guard with
 | none=>
   rw [al] at he;exact .inl ⟨he,fun E a _=>by simp [Region.wanted,al]⟩
 | some qy=>
   obtain ⟨j,want⟩:=qy;rw [al] at he;simp only at he ⊢;cases bJ:all[j]? with
   | none=>rw [bJ] at he;simp [dP.none] at he
   | some g=>
     rw [bJ] at he;simp only at he ⊢;cases lj:g.dst with
     | none=>rw [lj] at he;simp [dP.none] at he
     | some d=>
       rw [lj] at he;simp only at he ⊢;cases ao:(Nat.blt d az&&Nat.ble d top) with
       | false=>rw [ao] at he;simp [dP.none] at he
       | true=>
         rw [ao] at he;simp only [am4,jO] at he ⊢;have jw:=ao;simp only [amX,anF,ann] at jw;cases bB:(pk (aC d)).run (dM r (b2 all o))<;>rw [bB] at he<;>simp only at he ⊢<;>try (cases he;done)
         . rename_i b;cases aj:(bif want then b else !b)<;>rw [aj] at he<;>simp only [am4,anf] at he ⊢
           . simp only [a7.val.injEq] at he ⊢;exact .inr ⟨he.2.symm,fun H=>⟨he.1,trivial⟩⟩
           . refine .inl ⟨he,fun E a k=>?_⟩;obtain ⟨g1,_⟩:=HY k bJ lj jw.1 jw.2;have bc:=g1 b bB;simp only [Region.wanted,al,bc];cases want<;>cases b<;>simp_all
         . simp only [a7.val.injEq] at he ⊢;exact .inr ⟨he.2.symm,fun H=>⟨he.1,trivial⟩⟩
theorem O1 {az:Nat} {all:Array Oper} {o:Oper} {call:et} {r:bN} {h aa:ah} {v:V} (bF:hl o=true) (he:(cU P az all o).run call r h=.val v aa):
 (∃k,aa=h.new k/\True)\/(aa=h/\∀H,(cU P az all o).run call r H=.val v H):=by
 rcases O2 he with ⟨J,_⟩ | J
 . exact .inl (Y7 bF J)
 . exact .inr J
theorem ZB {rd:Option Nat} {F:Fr} {E:Env} {h aa H:ah} {w:World} {call:et} {all:Array Oper} {i:Nat} {o:Oper} (au:all[i]? =some o) (bF:hl o=true) {az:Nat} {r:bN} {a:Act} {v:V}
 (he:(cU P az all o).run call r h=.val v aa) (qu:a.tmps.size=az) (lr:∀t ∈ b2 all o,Rel E (T.get .bad (aC t) r) (a.tmps.getD t undef)) (s:ba F E H w)
 (IP:aa.next≠h.next) (ak:F.h0 (aC h.next)=some (aa.get (aC h.next)))
 {K:Act->World->Prop} {Q:Exit->Act->World->Prop} (dU:∀aw x w',E.le aw->Rel aw v x->ba (F.free (aC h.next)) aw H w'->K (a.put o.dst x) w'):wpOpIn (cb rd) 0 P all Q i K a w:=by
 obtain ⟨aZ,aM⟩:=k9 he
 have k:RegRel0 E az (dM r (b2 all o)) a:=⟨qu,fun t aE=>by
  rw [F7 aM aE];by_cases hm:t ∈ b2 all o
  . rw [anb hm];exact lr t hm
  . rw [am7 hm];simp [Rel]⟩
 obtain ⟨e_,hw⟩:(fP P o).run call (dM r (b2 all o)) h=.val v aa/\Region.wanted o (yielded all a.tmps)=true:=by
  rcases O2 he with ⟨J,ad⟩ | ⟨J,_⟩
  . exact ⟨J,ad E a k⟩
  . exact absurd (by rw [J]) IP
 obtain ⟨m,ar,dy,ag,av,aI⟩:=Y6 bF e_ k;simp only [wpOpIn,au,hw,anz];obtain ⟨X,E9,cf,cd⟩:=aI w;rw [ag,ah.jt,anb rfl] at ak;have eL:E.put (aC h.next) ⟨w.heap.size,0,0⟩ (aC h.next)=some ⟨w.heap.size,0,0⟩:=by unfold Env.put;rw [anb rfl]
 have hle:E.le (E.put (aC h.next) ⟨w.heap.size,0,0⟩):=Env.nB (s.pJ _ _ ak).2.1;obtain ⟨bT,di⟩:=cd _ hle eL;have cy:F.w.heap.size<=w.heap.size:=s.frame.size;obtain ⟨_,my⟩:=s.link ak (o:=E9) (di _ cy);refine ⟨fun _ _=>trivial,?_⟩;rw [qL (by intro c h;have:=bF;unfold hl at this;rw [h] at this;cases this),ar,Sem.run_bind,cf];exact dU _ X _ hle bT my
end
end
end Go.Proofs.YtefceblncmdkhaaGreatDoor.bd
