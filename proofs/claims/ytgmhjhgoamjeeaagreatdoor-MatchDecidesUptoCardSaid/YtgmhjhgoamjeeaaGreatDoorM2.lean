/- The abstract machine and its walks (a verified interpreter of the model's code: plain definitions and lemmas, no condition). Printed by a program from longer texts: names made short. -/
import Derived.Test.YtgmhjhgoamjeeaaGreatDoorM1
import Derived.LaidEqlPtr
import Derived.RangeFuncLeaves
import Derived.RecoverIn
import Derived.OrdersIn
set_option linter.unusedSectionVars false
set_option linter.unusedSimpArgs false
set_option linter.unusedVariables false
set_option maxHeartbeats 64000000
noncomputable section
namespace Go.Proofs.YtgmhjhgoamjeeaaGreatDoor.aX
section
open Go Go.RowKit
variable [Lay]
theorem aM.mE:∀{p q:aM},aM.gQ p q=true->p=q
 | .z,.z,_=>rfl
 | .l p,.l q,h=>by rw [aM.mE (p:=p) (q:=q) h]
 | .r p,.r q,h=>by rw [aM.mE (p:=p) (q:=q) h]
 | .z,.l _,h=>by cases h
 | .z,.r _,h=>by cases h
 | .l _,.z,h=>by cases h
 | .l _,.r _,h=>by cases h
 | .r _,.z,h=>by cases h
 | .r _,.l _,h=>by cases h
theorem aM.Bh:∀p:aM,aM.gQ p p=true
 | .z=>rfl
 | .l p=>aM.Bh p
 | .r p=>aM.Bh p
section
variable {P:Program}
theorem Vx {aA:Fr} {E:Env} {h:ae} {w:World} (s:ba aA E h w) {b:aM} {p:ju} (ag:E b=some p) (ah:(h.get b).GA=true):(h.get b).own=true/\∃c t,w.heap[p.aZ]? =some (.cells c t (0,0)):=by
 have aB:=s.at ag;cases aF:h.get b<;>rw [aF] at ah<;>try (cases ah;done)
 rename_i n cs cL st;rw [aF] at aB;obtain ⟨_,p',c,el,b2,aJ,_,yP,_,cE,_⟩:=aB;rw [ag] at aJ;cases aJ;have:st=false:=by simpa [b6.GA] using ah
 rw [cE this] at yP;exact ⟨rfl,c,el,yP⟩
theorem VM {t:TypeId} (h:jl P t=true):∃e j,P.underlying t=some (.pointer e)/\P.info? e=some j/\j.size≠0:=by
 unfold jl at h;cases aG:bd P t with
 | none=>rw [aG] at h;cases h
 | some aP=>
   rw [aG] at h;simp only at h;cases hu:aP.bl<;>rw [hu] at h<;>simp only at h<;>try (cases h;done)
   rename_i e;cases he:bd P e with
   | none=>rw [he] at h;cases h
   | some bg=>
     rw [he] at h;simp only at h;obtain ⟨_,_,ad,_⟩:=vw aG;obtain ⟨j,g1,_,g3,_⟩:=vw he;refine ⟨e,j,by rw [ad,hu],g1,fun c9=>?_⟩;rw [g3,c9] at h;cases h
theorem amt {t:TypeId} (h:jl P t=true) (w:World):∃e,(underlying t).run P w=.ok (.pointer e) w:=by obtain ⟨e,_,aa,_⟩:=VM h;exact ⟨e,MF aa w⟩
theorem ank {t e:TypeId} {w:World} (hu:(underlying t).run P w=.ok (.pointer e) w) (b:Bool) (v:Value):(Instr.checkKey b 10000 t v).run P w=.ok () w:=by show (Instr.checkKey b (9999+1) t v).run P w=.ok () w;unfold Instr.checkKey;rw [Sem.run_bind,hu];rfl
theorem VK {aA:Fr} {E:Env} {h:ae} {w:World} (s:ba aA E h w) {t:TypeId} (aG:jl P t=true) {x y:V} {X Y:Value} {b:Bool} (he:jL h x y=some b) (ak:Rel E x X) (a6:Rel E y Y):
 (∃a c,X=.pointer (some a)/\Y=.pointer (some c))/\∀d,(Op.equalIn (d+1) t X Y).run P w=.ok b w:=by
 obtain ⟨e,j,ag,cq,cu⟩:=VM aG;unfold jL at he
 split at he
 case h_2=>cases he
 rename_i cc da
 split at he
 case h_2=>cases he
 rename_i cj cw;simp only [Rel] at ak a6;obtain ⟨p,kZ,rfl⟩:=ak;obtain ⟨q,im,rfl⟩:=a6;refine ⟨⟨_,_,rfl,rfl⟩,fun d=>?_⟩;cases heq:aM.gQ cc cj with
 | true=>
   rw [heq] at he;simp only [aru,arq] at he;have:=aM.mE heq;subst this;rw [kZ] at im;cases im;have ah:b=decide (da=cw):=by
    rw [<-he];by_cases h:da=cw
    . subst h;simp
    . rw [asp h,<-ar4,arZ];exact h
   have key:(sameAddr ⟨p.aZ,p.base+da,none⟩ ⟨p.aZ,p.base+cw,none⟩).run P w=.ok b w:=by
    rw [ah];by_cases h:da=cw
    . subst h;simpa using run_sameAddr_same w (⟨p.aZ,p.base+da,none⟩:Addr)
    . have c_:((⟨p.aZ,p.base+da,none⟩:Addr) == ⟨p.aZ,p.base+cw,none⟩)=false:=by
       rw [asR];intro e;injection e with _ aR _
       omega
      simp [sameAddr,c_,h]
   simp [Op.equalIn,run_underlying ag,sizeOf,typeInfo,cq,cu,key]
 | false=>
   rw [heq] at he;simp only [arB] at he;obtain ⟨aq,he⟩:=eD he;simp only [arp] at aq;cases he;obtain ⟨L3,bJ,t1,rC⟩:=Vx s kZ aq.1;obtain ⟨L4,bO,t2,J7⟩:=Vx s im aq.2;have c_:(⟨p.aZ,p.base+da,none⟩:Addr)≠⟨q.aZ,q.base+cw,none⟩:=by
    intro e;injection e with aJ _ _
    have:=s.inj cc cj p q L3 L4 kZ im aJ;subst this;rw [aM.Bh] at heq;cases heq
   simp [Op.equalIn,run_underlying ag,sizeOf,typeInfo,cq,cu,run_sameAddr_other w c_ rC J7]
theorem VJ {aA:Fr} {E:Env} {h:ae} {w:World} (s:ba aA E h w) {op:BinOp} {t:TypeId} {neg:Bool} (l7:xq P op t=some neg) {x y:V} {ji jj:Operand} {X Y:Value} {b:Bool} (he:jL h x y=some b) (ak:Rel E x X) (a6:Rel E y Y):
 ∃Z,(do eqGuard op t ji jj X Y;binOp op t X Y:Sem Value).run P w=.ok Z w/\Rel E (.bool (bif neg then !b else b)) Z:=by
 unfold xq at l7;have main:jl P t=true->((op=.eql/\neg=false)\/(op=.neq/\neg=true))->∃Z,(do eqGuard op t ji jj X Y;binOp op t X Y:Sem Value).run P w=.ok Z w/\Rel E (.bool (bif neg then !b else b)) Z:=by
  intro aG mL;obtain ⟨⟨a,c,rfl,rfl⟩,cV⟩:=VK s aG he ak a6;have aF:=fun (o:BinOp)=>EE (P:=P) (op:=o) (t:=t) (x:=ji) (y:=jj) (X:=.pointer (some a)) (Y:=.pointer (some c)) (by simp) (.inl (by simp)) w;have aJ:(Op.equal t (.pointer (some a)) (.pointer (some c))).run P w=.ok b w:=cV 9999;rcases mL with ⟨rfl,rfl⟩ | ⟨rfl,rfl⟩
  . refine ⟨.bool b,?_,by simp [Rel]⟩;rw [Sem.run_bind,aF,Result.andThen_ok,binOp_eql (X:=.pointer (some a)) True.intro,Sem.run_bind,aJ];rfl
  . refine ⟨.bool (!b),?_,by simp [Rel]⟩;rw [Sem.run_bind,aF,Result.andThen_ok,binOp_neq (X:=.pointer (some a)) True.intro,Sem.run_bind,aJ];rfl
 cases op<;>simp only at l7<;>try (cases l7;done)
 . obtain ⟨aa,ad⟩:=eD l7;cases ad;exact main aa (.inl ⟨rfl,rfl⟩)
 . obtain ⟨aa,ad⟩:=eD l7;cases ad;exact main aa (.inr ⟨rfl,rfl⟩)
end
section
variable {P:Program}
def xY (P:Program) (w:World) (E:Env) (di:TypeId) (e:dN):Prop:=
 ∀k br K n5 b,e.run k br=some b->Rel E k K->Rel E br n5->(Op.equal di K n5).run P w=.ok b w/\(b=true->n5=K/\Instr.sameBits 10000 K K=true)
theorem ams {aA:Fr} {E:Env} {h:ae} {w:World} (s:ba aA E h w) {di:TypeId} (aG:jl P di=true):xY P w E di ⟨jL h⟩:=by
 intro k br K n5 b he ak a6;obtain ⟨⟨a,c,rfl,rfl⟩,cV⟩:=VK s aG he ak a6;refine ⟨cV 9999,fun ah=>?_⟩;subst ah;simp only [jL] at he
 split at he
 case h_2=>cases he
 split at he
 case h_2=>cases he
 rename_i cc da _ cj cw;simp only [Rel] at ak a6;obtain ⟨p,kZ,ak⟩:=ak;obtain ⟨q,im,a6⟩:=a6;cases heq:aM.gQ cc cj with
 | false=>
   rw [heq] at he;simp only [arB] at he;obtain ⟨_,he⟩:=eD he;cases he
 | true=>
   rw [heq] at he;simp only [aru,arq] at he;have:=aM.mE heq;subst this;rw [kZ] at im;cases im;have:=asn he;subst this;rw [ak,a6];exact ⟨rfl,by simp [Instr.sameBits]⟩
theorem RM {w:World} {E:Env} {di:TypeId} {e:dN} (iR:xY P w E di e) {k:V} {K:Value} (aB:Rel E k K):∀(es:List b_) (l:List MapEntry) (r:Option V) (i:Nat),kk e k es=some r->dx E es l->
 ∃R,(Instr.findAsking di K l i).run P w=.ok R w/\(match r with
  | none=>R=none
  | some v=>∃j Y,R=some (j,Y)/\Rel E v Y)
 | [],l,r,i,h,aD=>by simp only [dx] at aD;subst aD;simp only [kk,arq] at h;subst h;exact ⟨none,rfl,rfl⟩
 | m::ms,l,r,i,h,aD=>by
   obtain ⟨cr,es,rfl,aa,ad,aH,bw⟩:=aD;simp only [kk] at h;cases aU:e.run k m.k with
   | none=>rw [aU] at h;cases h
   | some b=>
     rw [aU] at h;simp only at h;obtain ⟨al,ao⟩:=iR _ _ _ _ _ aU aB aa;cases b with
     | true=>
       simp only [aru,arq] at h;subst h;exact ⟨some (i,cr.val),by simp [Instr.findAsking,al],i,cr.val,rfl,ad⟩
     | false=>
       simp only [arB] at h;obtain ⟨R,g1,g2⟩:=RM iR aB ms es r (i+1) h bw;exact ⟨R,by simp [Instr.findAsking,al,g1],g2⟩
theorem VN {w:World} {E:Env} {di:TypeId} {e:dN} (iR:xY P w E di e) {k v:V} {K X:Value} (aB:Rel E k K) (bt:Rel E v X) (clock:Nat):∀(es:List b_) (l:List MapEntry) (r:List b_ × Bool) (i:Nat),k_ e k v clock es=some r->dx E es l->
 (r.2=true->(Instr.findAsking di K l i).run P w=.ok none w/\dx E r.1 (l++[⟨K,X,clock⟩]))/\
 (r.2=false->∃j cr Y,(Instr.findAsking di K l i).run P w=.ok (some (i+j,Y)) w/\l[j]? =some cr/\Instr.sameBits 10000 cr.key K=true/\dx E r.1 (l.modify j fun cr=>{cr with key:=K,val:=X}))
 | [],l,r,i,h,aD=>by simp only [dx] at aD;subst aD;simp only [k_,arq] at h;subst h;exact ⟨fun _=>⟨rfl,_,_,rfl,aB,bt,rfl,rfl⟩,fun h=>by cases h⟩
 | m::ms,l,r,i,h,aD=>by
   obtain ⟨cr,es,rfl,aa,ad,aH,bw⟩:=aD;simp only [k_] at h;cases aU:e.run k m.k with
   | none=>rw [aU] at h;cases h
   | some b=>
     rw [aU] at h;simp only at h;obtain ⟨al,ao⟩:=iR _ _ _ _ _ aU aB aa;cases b with
     | true=>
       simp only [aru,arq] at h;subst h;obtain ⟨aK,bG⟩:=ao rfl;refine ⟨fun h=>(by cases h),fun _=>⟨0,cr,cr.val,by simp [Instr.findAsking,al],rfl,by rw [aK];exact bG,?_⟩⟩;exact ⟨_,es,rfl,aB,bt,aH,bw⟩
     | false=>
       simp only [arB] at h;cases ag:k_ e k v clock ms with
       | none=>rw [ag] at h;cases h
       | some a7=>
         rw [ag] at h;simp only [arq] at h;subst h;obtain ⟨g1,g2⟩:=VN iR aB bt clock ms es a7 (i+1) ag bw;refine ⟨fun h=>?_,fun h=>?_⟩
         . obtain ⟨bE,a2⟩:=g1 h;exact ⟨by simp [Instr.findAsking,al,bE],⟨cr,es++[⟨K,X,clock⟩],rfl,aa,ad,aH,a2⟩⟩
         . obtain ⟨j,cF,Y,bE,a2,a3,a4⟩:=g2 h;exact ⟨j+1,cF,Y,by simp [Instr.findAsking,al,bE];omega,by simpa using a2,a3,⟨cr,_,rfl,aa,ad,aH,a4⟩⟩
theorem anm {di:TypeId} {kP:TypeId} {w:World} (hu:(underlying di).run P w=.ok (.pointer kP) w) {K:Value} {l:List MapEntry} {R:Option (Nat × Value)} (h:(Instr.findAsking di K l 0).run P w=.ok R w):
 (Instr.findKey di K l).run P w=.ok R w:=by
 cases l with
 | nil=>
   simp only [Instr.findAsking,Sem.run_pure] at h;cases h;simp [Instr.findKey,hu,Instr.findNow]
 | cons cr es=>
   have aV:Instr.findNow (.pointer kP) K (cr::es) 0=none:=by simp [Instr.findNow,Instr.sameNow]
   simp [Instr.findKey,hu,aV,h]
theorem acW {x y:V} (h:sN x y=true):x=y:=by
 cases x<;>simp only [sN] at h<;>try (cases h;done)
 all_goals (cases y<;>simp only at h<;>try (cases h;done))
 . rw [as3] at h;rw [h]
 . simp only [arp,mE,as3] at h;rw [ux h.1,h.2]
 . rw [vX,as3] at h;rw [h]
theorem Ru:∀{xs cx:List V},p3 xs cx=true->xs=cx
 | [],[],_=>rfl
 | [],_::_,h=>by cases h
 | _::_,[],h=>by cases h
 | x::xs,y::cx,h=>by
   simp only [p3] at h;cases aa:sN x y with
   | false=>rw [aa] at h;cases h
   | true=>rw [aa] at h;rw [acW aa,Ru h]
theorem acV {E:Env} {x:V} {X Y:Value} (h:sN x x=true) (dr:Rel E x X) (fr:Rel E x Y):X=Y/\∀n,Instr.sameBits n X X=true:=by
 cases x<;>simp only [sN] at h<;>try (cases h;done)
 . simp only [Rel] at dr fr;subst dr fr;exact ⟨rfl,fun n=>by cases n<;>simp [Instr.sameBits]⟩
 . simp only [Rel] at dr fr;subst dr fr;exact ⟨rfl,fun n=>by cases n<;>simp [Instr.sameBits]⟩
 . simp only [Rel] at dr fr;subst dr fr;exact ⟨rfl,fun n=>by cases n<;>simp [Instr.sameBits,bytes_beq]⟩
theorem Rt {E:Env}:∀{xs:List V} {l eE:List Value},p3 xs xs=true->bh E xs l->bh E xs eE->l=eE/\∀n,((l.zip l).all fun (x,y)=>Instr.sameBits n x y)=true
 | [],l,eE,_,aa,ad=>by simp only [bh] at aa ad;subst aa ad;exact ⟨rfl,fun _=>rfl⟩
 | x::xs,l,eE,h,aa,ad=>by
   obtain ⟨y,cx,rfl,bE,a2⟩:=aa;obtain ⟨mn,arn,rfl,cc,cj⟩:=ad;simp only [p3] at h;cases aq:sN x x with
   | false=>rw [aq] at h;cases h
   | true=>
     rw [aq] at h;obtain ⟨rfl,al⟩:=acV aq bE cc;obtain ⟨rfl,ao⟩:=Rt h a2 cj;exact ⟨rfl,fun n=>by simp only [List.zip_cons_cons,as_,al,ao,Bool.and_self]⟩
theorem an3 {w:World} {E:Env} {di:TypeId}:xY P w E di (structEq P di):=by
 intro k br K n5 b he ak a6;simp only [structEq] at he
 split at he
 case h_2=>cases he
 split at he
 case h_2=>cases he
 rename_i xs _ cx;cases ay:(hI P 12 di).run (.agg xs) (.agg cx) with
 | none=>rw [ay] at he;cases he
 | some c=>
   rw [ay] at he;have aU:=Jf 12 Op.maxDepth di _ _ K n5 c (by decide) ay ak a6 w;cases c with
   | false=>
     simp only [arB,arq] at he;subst he;exact ⟨aU,fun h=>by cases h⟩
   | true=>
     simp only [aru] at he;cases ag:p3 xs cx with
     | false=>rw [ag] at he;cases he
     | true=>
       rw [ag] at he;simp only [aru,arq] at he;subst he;refine ⟨aU,fun _=>?_⟩;have:=Ru ag;subst this;simp only [Rel] at ak a6;obtain ⟨a,rfl,aa⟩:=ak;obtain ⟨bm,rfl,ad⟩:=a6;obtain ⟨e,q⟩:=Rt ag aa ad;have cF:a=bm:=atj.1 e;subst cF;exact ⟨rfl,by show Instr.sameBits (9999+1) _ _=true;simp only [Instr.sameBits,beq_self_eq_true,ar8];exact q _⟩
theorem run_checkKey_plain {bl:TypeDesc} (av:k2 bl=true) {t:TypeId} {w:World} (hu:(underlying t).run P w=.ok bl w) (b:Bool) (n:Nat) (v:Value):(Instr.checkKey b (n+1) t v).run P w=.ok () w:=by
 unfold Instr.checkKey;rw [Sem.run_bind,hu];cases bl<;>simp only [k2] at av<;>first
  | (cases av;done)
  | rfl
theorem adD {w:World} {E:Env} {cs:List V} {a:Array Value} (bs:bh E cs a.toList) (b:Bool) (n:Nat):∀(b7:List Field),EL P cs b7=true->
 (do for f in b7 do
      if f.name≠ "_" then Instr.checkKey b (n+1) f.type (<-part f.type a f.offset):Sem Unit).run P w=.ok () w:=by
 intro b7
 induction b7 with
 | nil=>intro _;simp
 | cons f b7 bc=>
   intro h;simp only [EL] at h;cases aa:(qG P f.type f.offset).run cs with
   | none=>rw [aa] at h;cases h
   | some x=>
     rw [aa] at h;simp only at h;cases ad:bd P f.type with
     | none=>rw [ad] at h;cases h
     | some kR=>
       rw [ad] at h;simp only at h;cases aH:k2 kR.bl with
       | false=>rw [aH] at h;cases h
       | true=>
         rw [aH] at h;simp only [aru] at h;obtain ⟨X,dr,_⟩:=CQ bs aa w;have aB:=run_checkKey_plain (P:=P) aH (fv ad w) b n X;have:=bc h;by_cases aV:f.name= "_"
         . simpa [aV] using this
         . simpa [aV,dr,aB] using this
theorem an4 {t:TypeId} (h:mm P t=true) (w:World):∃b7,(underlying t).run P w=.ok (.struct b7) w:=by
 unfold mm at h;cases aG:bd P t with
 | none=>rw [aG] at h;cases h
 | some aP=>
   rw [aG] at h;simp only at h;have hu:=fv aG w;cases bW:aP.bl<;>rw [bW] at h<;>simp only at h<;>try (cases h;done)
   rw [bW] at hu;exact ⟨_,hu⟩
theorem anl {t:TypeId} {k:V} (aF:lK P t k=true) {E:Env} {K:Value} (aB:Rel E k K) {w:World} (b:Bool):(Instr.checkKey b 10000 t K).run P w=.ok () w:=by
 unfold lK at aF;cases aG:bd P t with
 | none=>rw [aG] at aF;cases aF
 | some aP=>
   rw [aG] at aF;simp only at aF;have hu:=fv aG w;cases bW:aP.bl<;>rw [bW] at aF<;>simp only at aF<;>try (cases aF;done)
   rename_i b7;rw [bW] at hu;cases k<;>simp only at aF<;>try (cases aF;done)
   rename_i cs;simp only [Rel] at aB;obtain ⟨a,rfl,bs⟩:=aB;show (Instr.checkKey b (9998+1+1) t (.agg a)).run P w=.ok () w;unfold Instr.checkKey;rw [Sem.run_bind,hu];have:=adD (P:=P) (w:=w) bs b 9998 b7.toList aF;simp only [Result.andThen_ok,Array.forIn_toList] at this ⊢;exact this
theorem ann {di:TypeId} {b7:Array Field} {w:World} (hu:(underlying di).run P w=.ok (.struct b7) w) {K:Value} {l:List MapEntry} {R:Option (Nat × Value)} (h:(Instr.findAsking di K l 0).run P w=.ok R w):
 (Instr.findKey di K l).run P w=.ok R w:=by
 cases l with
 | nil=>
   simp only [Instr.findAsking,Sem.run_pure] at h;cases h;simp [Instr.findKey,hu,Instr.findNow]
 | cons cr es=>
   have aV:Instr.findNow (.struct b7) K (cr::es) 0=none:=by simp [Instr.findNow,Instr.sameNow]
   simp [Instr.findKey,hu,aV,h]
structure Ag (P:Program) (w:World) (E:Env) (di:TypeId) (e:dN) (K:Value):Prop where
 eq:xY P w E di e
 check:∀b,(Instr.checkKey b 10000 di K).run P w=.ok () w
 find:∀{l:List MapEntry} {R},(Instr.findAsking di K l 0).run P w=.ok R w->(Instr.findKey di K l).run P w=.ok R w
theorem Ip {aA:Fr} {E:Env} {h:ae} {w:World} (s:ba aA E h w) {di:TypeId} (aG:jl P di=true) (K:Value):Ag P w E di ⟨jL h⟩ K:=by obtain ⟨Vs,nC⟩:=amt aG w;exact ⟨ams s aG,fun b=>ank nC b K,fun q=>anm nC q⟩
theorem Iq {w:World} {E:Env} {di:TypeId} (aG:mm P di=true) {k:V} (aF:lK P di k=true) {K:Value} (aB:Rel E k K):Ag P w E di (structEq P di) K:=by obtain ⟨b7,nC⟩:=an4 aG w;exact ⟨an3,fun b=>anl aF aB b,fun q=>ann nC q⟩
end
section
variable {P:Program}
theorem Lb {E:Env} {bl:TypeDesc} {k br:V} {K n5:Value} {b:Bool} (he:(lJ bl).run k br=some b) (ak:Rel E k K) (a6:Rel E br n5):
 Instr.sameNow bl K n5=some b/\(b=true->n5=K/\∀n,Instr.sameBits n K K=true):=by
 cases bl<;>simp only [lJ] at he<;>try (simp [dN.none] at he;done)
 case bool=>
  simp only [rj] at he;cases k<;>simp only at he<;>try (cases he;done)
  cases br<;>simp only at he<;>try (cases he;done)
  simp only [Rel] at ak a6;subst ak a6;simp only [arq] at he;subst he;refine ⟨rfl,fun h=>?_⟩;rw [as3] at h;subst h;exact ⟨rfl,fun n=>by cases n<;>simp [Instr.sameBits]⟩
 case int j3=>
  simp only [ki] at he;obtain ⟨j,m,rfl,aa⟩:=j9 he;clear he;obtain ⟨FY,dj,rfl,ad⟩:=j9 aa;clear aa;obtain ⟨aB,h⟩:=eD ad;clear ad;have:=ux aB;subst this;simp only [Rel] at ak a6;subst ak a6;simp only [arq,mE] at h;subst h;refine ⟨by simp [Instr.sameNow],fun h=>?_⟩;rw [as3] at h;subst h;exact ⟨rfl,fun n=>by cases n<;>simp [Instr.sameBits]⟩
 case string=>
  simp only [jE] at he;cases k<;>simp only at he<;>try (cases he;done)
  cases br<;>simp only at he<;>try (cases he;done)
  simp only [Rel] at ak a6;subst ak a6;simp only [arq,vX] at he;subst he;refine ⟨by simp only [Instr.sameNow,bytes_beq],fun h=>?_⟩;rw [as3] at h;subst h;exact ⟨rfl,fun n=>by cases n<;>simp [Instr.sameBits,bytes_beq]⟩
theorem run_checkKey {bl:TypeDesc} (av:k2 bl=true) {t:TypeId} {w:World} (hu:(underlying t).run P w=.ok bl w) (b:Bool) (v:Value):(Instr.checkKey b 10000 t v).run P w=.ok () w:=by
 show (Instr.checkKey b (9999+1) t v).run P w=.ok () w;unfold Instr.checkKey;rw [Sem.run_bind,hu];cases bl<;>simp only [k2] at av<;>first
  | (cases av;done)
  | rfl
theorem run_findKey {bl:TypeDesc} {t:TypeId} {w:World} (hu:(underlying t).run P w=.ok bl w) {K:Value} {l:List MapEntry} {R:Option (Nat × Value)} (h:Instr.findNow bl K l 0=some R):
 (Instr.findKey t K l).run P w=.ok R w:=by
 simp only [Instr.findKey,Sem.run_bind,hu,Result.andThen_ok,h,Sem.run_pure]
theorem RR {E:Env} {bl:TypeDesc} {k:V} {K:Value} (aB:Rel E k K):∀(es:List b_) (l:List MapEntry) (r:Option V) (i:Nat),kk (lJ bl) k es=some r->dx E es l->
 ∃R,Instr.findNow bl K l i=some R/\(match r with
  | none=>R=none
  | some v=>∃j Y,R=some (j,Y)/\Rel E v Y)
 | [],l,r,i,h,aD=>by simp only [dx] at aD;subst aD;simp only [kk,arq] at h;subst h;exact ⟨none,rfl,rfl⟩
 | m::ms,l,r,i,h,aD=>by
   obtain ⟨e,es,rfl,aa,ad,aH,bw⟩:=aD;simp only [kk] at h;cases aU:(lJ bl).run k m.k with
   | none=>rw [aU] at h;cases h
   | some b=>
     rw [aU] at h;simp only at h;obtain ⟨al,ao⟩:=Lb aU aB aa;cases b with
     | true=>
       simp only [aru,arq] at h;subst h;exact ⟨some (i,e.val),by simp only [Instr.findNow,al],i,e.val,rfl,ad⟩
     | false=>
       simp only [arB] at h;obtain ⟨R,g1,g2⟩:=RR aB ms es r (i+1) h bw;exact ⟨R,by simp only [Instr.findNow,al,g1],g2⟩
theorem VQ {E:Env} {bl:TypeDesc} {k v:V} {K X:Value} (aB:Rel E k K) (bt:Rel E v X) (clock:Nat):∀(es:List b_) (l:List MapEntry) (r:List b_ × Bool) (i:Nat),k_ (lJ bl) k v clock es=some r->dx E es l->
 (r.2=true->Instr.findNow bl K l i=some none/\dx E r.1 (l++[⟨K,X,clock⟩]))/\
 (r.2=false->∃j e Y,Instr.findNow bl K l i=some (some (i+j,Y))/\l[j]? =some e/\Instr.sameBits 10000 e.key K=true/\dx E r.1 (l.modify j fun e=>{e with key:=K,val:=X}))
 | [],l,r,i,h,aD=>by simp only [dx] at aD;subst aD;simp only [k_,arq] at h;subst h;exact ⟨fun _=>⟨rfl,_,_,rfl,aB,bt,rfl,rfl⟩,fun h=>by cases h⟩
 | m::ms,l,r,i,h,aD=>by
   obtain ⟨e,es,rfl,aa,ad,aH,bw⟩:=aD;simp only [k_] at h;cases aU:(lJ bl).run k m.k with
   | none=>rw [aU] at h;cases h
   | some b=>
     rw [aU] at h;simp only at h;obtain ⟨al,ao⟩:=Lb aU aB aa;cases b with
     | true=>
       simp only [aru,arq] at h;subst h;obtain ⟨aK,bG⟩:=ao rfl;refine ⟨fun h=>(by cases h),fun _=>⟨0,e,e.val,by simp only [Instr.findNow,al,asB],rfl,by rw [aK];exact bG _,?_⟩⟩;exact ⟨_,es,rfl,aB,bt,aH,bw⟩
     | false=>
       simp only [arB] at h;cases ag:k_ (lJ bl) k v clock ms with
       | none=>rw [ag] at h;cases h
       | some a7=>
         rw [ag] at h;simp only [arq] at h;subst h;obtain ⟨g1,g2⟩:=VQ aB bt clock ms es a7 (i+1) ag bw;refine ⟨fun h=>?_,fun h=>?_⟩
         . obtain ⟨bE,a2⟩:=g1 h;exact ⟨by simp only [Instr.findNow,al,bE],⟨e,es++[⟨K,X,clock⟩],rfl,aa,ad,aH,a2⟩⟩
         . obtain ⟨j,cF,Y,bE,a2,a3,a4⟩:=g2 h;exact ⟨j+1,cF,Y,by simp only [Instr.findNow,al,bE];congr 3;omega,by simpa using a2,a3,e,_,rfl,aa,ad,aH,a4⟩
theorem Lw {aA:Fr} {E:Env} {h:ae} {w:World} (s:ba aA E h w) {x:V} {X:Value} {es:List b_} (he:qA h x=some es) (ak:Rel E x X):
 (X=.map none/\es=[])\/∃r a clock,X=.map (some r)/\(getObj r).run P w=.ok (.map a clock) w/\dx E es a.toList:=by
 cases x<;>simp only [qA] at he<;>try (cases he;done)
 . simp only [Rel] at ak;exact .inl ⟨ak,by simpa using he.symm⟩
 . rename_i b;simp only [Rel] at ak;obtain ⟨p,ag,rfl⟩:=ak;have ah:=s.at ag;cases aF:h.get b<;>rw [aF] at he<;>simp only [b6.hQ] at he<;>try (cases he;done)
   simp only [arq] at he;subst he;rw [aF] at ah;obtain ⟨q,a,aa,_,aH,bw⟩:=ah;rw [ag] at aa;cases aa;exact .inr ⟨p.aZ,a,_,rfl,by simp only [getObj,Sem.run,aH];rfl,bw⟩
theorem RO {bl:TypeDesc} {K:Value}:∀{l:List MapEntry} {i:Nat},(∀e ∈ l,Instr.sameNow bl K e.key=some false)->Instr.findNow bl K l i=some none
 | [],_,_=>rfl
 | e::es,i,h=>by simp only [Instr.findNow,h e (by simp)];exact RO fun cF et=>h cF (by simp [et])
theorem RP {bl:TypeDesc} {K:Value}:∀{l:List MapEntry} {i:Nat},(∀e ∈ l,∃b,Instr.sameNow bl K e.key=some b)->(∃e ∈ l,Instr.sameNow bl K e.key=some true)->
 ∃j,∃e ∈ l,Instr.sameNow bl K e.key=some true/\Instr.findNow bl K l i=some (some (j,e.val))
 | [],_,_,h=>by obtain ⟨e,he,_⟩:=h;simp at he
 | e::es,i,aa,ad=>by
   obtain ⟨b,ah⟩:=aa e (by simp);cases b with
   | true=>exact ⟨i,e,by simp,ah,by simp only [Instr.findNow,ah]⟩
   | false=>
     obtain ⟨cF,et,aG⟩:=ad;simp only [arM] at et;rcases et with rfl | et
     . rw [ah] at aG;cases aG
     . obtain ⟨j,aR,al,ao,aK⟩:=RP (i:=i+1) (fun x ak=>aa x (by simp [ak])) ⟨cF,et,aG⟩;exact ⟨j,aR,by simp [al],ao,by simp only [Instr.findNow,ah,aK]⟩
theorem RQ {E:Env} {bl:TypeDesc} {k:V} {K:Value} (aB:Rel E k K):∀(es:List b_) (l:List MapEntry) (r:Option V),nu (lJ bl) k es=some r->iP E es l->
 (∀e ∈ l,∃b,Instr.sameNow bl K e.key=some b)/\(match r with
  | none=>∀e ∈ l,Instr.sameNow bl K e.key=some false
  | some v=>(∃e ∈ l,Instr.sameNow bl K e.key=some true)/\∀e ∈ l,Instr.sameNow bl K e.key=some true->Rel E v e.val)
 | [],l,r,h,aD=>by simp only [iP] at aD;subst aD;simp only [nu,arq] at h;subst h;exact ⟨fun e he=>by simp at he,fun e he=>by simp at he⟩
 | m::ms,l,r,h,aD=>by
   obtain ⟨e,es,rfl,aa,ad,bw⟩:=aD;simp only [nu] at h;cases av:nu (lJ bl) k ms with
   | none=>rw [av] at h;cases h
   | some a7=>
     rw [av] at h;simp only at h;obtain ⟨g1,g2⟩:=RQ aB ms es a7 av bw;cases aU:(lJ bl).run k m.k with
     | none=>rw [aU] at h;cases h
     | some b=>
       rw [aU] at h;simp only at h;obtain ⟨al,_⟩:=Lb aU aB aa;have JS:∀cF ∈ e::es,∃b,Instr.sameNow bl K cF.key=some b:=by
        intro cF et;rcases arM.1 et with rfl | et
        . exact ⟨b,al⟩
        . exact g1 cF et
       refine ⟨JS,?_⟩;cases b with
       | true=>
         simp only [aru] at h;cases a7 with
         | some _=>cases h
         | none=>
           simp only [arq] at h;subst h;refine ⟨⟨e,by simp,al⟩,fun cF et aG=>?_⟩;rcases arM.1 et with rfl | et
           . exact ad
           . have:=g2 cF et;rw [aG] at this;cases this
       | false=>
         simp only [arB,arq] at h;subst h;cases a7 with
         | none=>
           intro cF et;rcases arM.1 et with rfl | et
           . exact al
           . exact g2 cF et
         | some v=>
           obtain ⟨⟨c9,du,e3⟩,y3⟩:=g2;refine ⟨⟨c9,by simp [du],e3⟩,fun cF et aG=>?_⟩;rcases arM.1 et with rfl | et
           . rw [al] at aG;cases aG
           . exact y3 cF et aG
theorem adr {E:Env} {bl:TypeDesc} {k:V} {K:Value} (aB:Rel E k K) {es:List b_} {l a:List MapEntry} {r:Option V} (h:nu (lJ bl) k es=some r) (aD:iP E es l) (ag:l.Perm a):
 ∃R,Instr.findNow bl K a 0=some R/\(match r with
  | none=>R=none
  | some v=>∃j Y,R=some (j,Y)/\Rel E v Y):=by
 obtain ⟨aa,ad⟩:=RQ aB es l r h aD;have hm:∀e,e ∈ a↔e ∈ l:=fun e=>ag.mem_iff.symm;cases r with
 | none=>exact ⟨none,RO fun e he=>ad e ((hm e).1 he),rfl⟩
 | some v=>
   obtain ⟨⟨c9,du,e3⟩,y3⟩:=ad;obtain ⟨j,e,al,ao,aK⟩:=RP (i:=0) (fun e he=>aa e ((hm e).1 he)) ⟨c9,(hm c9).2 du,e3⟩;exact ⟨_,aK,j,e.val,rfl,y3 e ((hm e).1 al) ao⟩
theorem aks {e:dN} {z:V} {ok:Bool} {h:ae} {x k v:V} (he:gK e z ok h x k=some v):
 hv e z ok h x k=some v\/∃b es r,x=.map b/\h.get b=.hO es/\nu e k es=some r/\v=(match r with
  | some u=>bif ok then .tuple [u,.bool true] else u
  | none=>bif ok then .tuple [z,.bool false] else z):=by
 unfold gK at he;cases x<;>simp only at he<;>try (exact .inl he)
 rename_i b;cases aF:h.get b<;>rw [aF] at he<;>simp only at he<;>try (exact .inl he)
 rename_i es;cases av:nu e k es with
 | none=>rw [av] at he;cases he
 | some r=>
   rw [av] at he;refine .inr ⟨b,es,r,rfl,aF,av,?_⟩;cases r<;>simp only [arq] at he<;>exact he.symm
theorem akr {aA:Fr} {E:Env} {h:ae} {w:World} (s:ba aA E h w) {t:TypeId} {ok:Bool} {x k v:V} {X K:Value} (ak:Rel E x X) (aB:Rel E k K) (he:(F7 P t ok).run h x k=some v):
 ∃Z,(Instr.lookup t X K ok).run P w=.ok Z w/\Rel E v Z:=by
 unfold F7 at he;cases aG:bd P t with
 | none=>rw [aG] at he;cases he
 | some aP=>
   rw [aG] at he;simp only at he;have hu:=fv aG w;cases bW:aP.bl<;>rw [bW] at he<;>simp only at he<;>try (cases he;done)
   rename_i di kP;rw [bW] at hu;cases nB:bd P di with
   | none=>rw [nB] at he;cases he
   | some gp=>
     rw [nB] at he;simp only at he;cases het:bd P kP with
     | none=>rw [het] at he;cases he
     | some bg=>
       rw [het] at he;simp only at he;cases bk:bg.zero with
       | none=>rw [bk] at he;cases he
       | some z=>
         rw [bk] at he;simp only at he;cases av:k2 gp.bl with
         | false=>
           rw [av] at he;simp only [arB] at he;have uE:∃e,Ag P w E di e K/\hv e z ok h x k=some v:=by
            cases ql:jl P di with
            | true=>
              rw [ql] at he;exact ⟨_,Ip s ql K,he⟩
            | false=>
              rw [ql] at he;simp only [arB] at he;cases cE:mm P di with
              | false=>rw [cE] at he;cases he
              | true=>
                rw [cE] at he;simp only [aru] at he;obtain ⟨aF,he⟩:=eD he;exact ⟨_,Iq cE aF aB,he⟩
           clear he;obtain ⟨e,ask,he⟩:=uE;obtain ⟨vE,nG,mQ,_⟩:=zR (P:=P) het bk E w;simp only [hv] at he;cases hm:qA h x with
           | none=>rw [hm] at he;cases he
           | some es=>
             rw [hm] at he;simp only at he;cases wD:kk e k es with
             | none=>rw [wD] at he;cases he
             | some r=>
               rw [wD] at he;simp only at he;have main:∀(l:List MapEntry),dx E es l->∃R,(Instr.findKey di K l).run P w=.ok R w/\
                ((R=none/\Rel E v (if ok=true then .tuple #[vE,.bool false] else vE))\/∃j Y,R=some (j,Y)/\Rel E v (if ok=true then .tuple #[Y,.bool true] else Y)):=by
                intro l ax;obtain ⟨R,g1,g2⟩:=RM ask.eq aB es l r 0 wD ax;refine ⟨R,ask.find g1,?_⟩;cases r with
                | none=>
                  simp only at g2 he;refine .inl ⟨g2,?_⟩;simp only [arq] at he;subst he;cases ok
                  . exact mQ
                  . simp only [aru,ar2,Rel,bh];exact ⟨_,rfl,_,_,rfl,mQ,_,_,rfl,rfl,rfl⟩
                | some u=>
                  simp only at g2 he;obtain ⟨j,Y,cQ,fr⟩:=g2;refine .inr ⟨j,Y,cQ,?_⟩;simp only [arq] at he;subst he;cases ok
                  . exact fr
                  . simp only [aru,ar2,Rel,bh];exact ⟨_,rfl,_,_,rfl,fr,_,_,rfl,rfl,rfl⟩
               rcases Lw (P:=P) s hm ak with ⟨rfl,rfl⟩ | ⟨a_,a,clock,rfl,ct,BW⟩
               . obtain ⟨R,g1,g2⟩:=main [] rfl;have jH:=ask.check true;rcases g2 with ⟨rfl,g3⟩ | ⟨j,Y,rfl,g3⟩
                 all_goals
                  refine ⟨_,?_,g3⟩;simp only [Instr.lookup,Sem.run_bind,hu,Result.andThen_ok,Sem.run_pure];have aJ:(#[]:Array MapEntry).isEmpty=true:=rfl;rw [aJ,jH,Result.andThen_ok,g1,Result.andThen_ok];simp only [Sem.run_bind,nG,Result.andThen_ok,Sem.run_pure]
               . obtain ⟨R,g1,g2⟩:=main a.toList BW;have jH:=ask.check a.isEmpty;rcases g2 with ⟨rfl,g3⟩ | ⟨j,Y,rfl,g3⟩
                 all_goals
                  refine ⟨_,?_,g3⟩;simp only [Instr.lookup,Sem.run_bind,hu,Result.andThen_ok,Sem.run_pure,ct];rw [jH,Result.andThen_ok,g1,Result.andThen_ok];simp only [Sem.run_bind,nG,Result.andThen_ok,Sem.run_pure]
         | true=>
           rw [av] at he;simp only [aru] at he;obtain ⟨vE,nG,mQ,_⟩:=zR (P:=P) het bk E w;have nC:=fv nB w;rcases aks he with he | ⟨b,es,r,rfl,aF,SO,rfl⟩
           case inr=>
            simp only [Rel] at ak;obtain ⟨p,ag,rfl⟩:=ak;have ah:=s.at ag;rw [aF] at ah;obtain ⟨p',a,c,l,gF,_,a8,agD,KS⟩:=ah;rw [ag] at gF;cases gF;obtain ⟨R,g1,g2⟩:=adr aB SO agD KS;have ct:(getObj p.aZ).run P w=.ok (.map a c) w:=by simp only [getObj,Sem.run,a8]
            have jH:=run_checkKey (P:=P) av nC a.isEmpty K;have EV:=run_findKey nC g1;cases r with
            | none=>
              simp only at g2;subst g2;refine ⟨if ok=true then .tuple #[vE,.bool false] else vE,?_,?_⟩
              . simp only [Instr.lookup,Sem.run_bind,hu,Result.andThen_ok,Sem.run_pure,ct];rw [jH,Result.andThen_ok,EV,Result.andThen_ok];simp only [Sem.run_bind,nG,Result.andThen_ok,Sem.run_pure]
              . cases ok
                . exact mQ
                . simp only [aru,ar2,Rel,bh];exact ⟨_,rfl,_,_,rfl,mQ,_,_,rfl,rfl,rfl⟩
            | some u=>
              simp only at g2;obtain ⟨j,Y,rfl,fr⟩:=g2;refine ⟨if ok=true then .tuple #[Y,.bool true] else Y,?_,?_⟩
              . simp only [Instr.lookup,Sem.run_bind,hu,Result.andThen_ok,Sem.run_pure,ct];rw [jH,Result.andThen_ok,EV,Result.andThen_ok];simp only [Sem.run_bind,Sem.run_pure,Result.andThen_ok]
              . cases ok
                . exact fr
                . simp only [aru,ar2,Rel,bh];exact ⟨_,rfl,_,_,rfl,fr,_,_,rfl,rfl,rfl⟩
           simp only [hv] at he;cases hm:qA h x with
           | none=>rw [hm] at he;cases he
           | some es=>
             rw [hm] at he;simp only at he;cases wD:kk (lJ gp.bl) k es with
             | none=>rw [wD] at he;cases he
             | some r=>
               rw [wD] at he;simp only at he;have main:∀(l:List MapEntry),dx E es l->∃R,(Instr.findKey di K l).run P w=.ok R w/\
                ((R=none/\Rel E v (if ok=true then .tuple #[vE,.bool false] else vE))\/∃j Y,R=some (j,Y)/\Rel E v (if ok=true then .tuple #[Y,.bool true] else Y)):=by
                intro l ax;obtain ⟨R,g1,g2⟩:=RR aB es l r 0 wD ax;refine ⟨R,run_findKey nC g1,?_⟩;cases r with
                | none=>
                  simp only at g2 he;refine .inl ⟨g2,?_⟩;simp only [arq] at he;subst he;cases ok
                  . exact mQ
                  . simp only [aru,ar2,Rel,bh];exact ⟨_,rfl,_,_,rfl,mQ,_,_,rfl,rfl,rfl⟩
                | some u=>
                  simp only at g2 he;obtain ⟨j,Y,cQ,fr⟩:=g2;refine .inr ⟨j,Y,cQ,?_⟩;simp only [arq] at he;subst he;cases ok
                  . exact fr
                  . simp only [aru,ar2,Rel,bh];exact ⟨_,rfl,_,_,rfl,fr,_,_,rfl,rfl,rfl⟩
               rcases Lw (P:=P) s hm ak with ⟨rfl,rfl⟩ | ⟨a_,a,clock,rfl,ct,BW⟩
               . obtain ⟨R,g1,g2⟩:=main [] rfl;have jH:=run_checkKey (P:=P) av nC true K;rcases g2 with ⟨rfl,g3⟩ | ⟨j,Y,rfl,g3⟩
                 all_goals
                  refine ⟨_,?_,g3⟩;simp only [Instr.lookup,Sem.run_bind,hu,Result.andThen_ok,Sem.run_pure];have aJ:(#[]:Array MapEntry).isEmpty=true:=rfl;rw [aJ,jH,Result.andThen_ok,g1,Result.andThen_ok];simp only [Sem.run_bind,nG,Result.andThen_ok,Sem.run_pure]
               . obtain ⟨R,g1,g2⟩:=main a.toList BW;have jH:=run_checkKey (P:=P) av nC a.isEmpty K;rcases g2 with ⟨rfl,g3⟩ | ⟨j,Y,rfl,g3⟩
                 all_goals
                  refine ⟨_,?_,g3⟩;simp only [Instr.lookup,Sem.run_bind,hu,Result.andThen_ok,Sem.run_pure,ct];rw [jH,Result.andThen_ok,g1,Result.andThen_ok];simp only [Sem.run_bind,nG,Result.andThen_ok,Sem.run_pure]
theorem Xg {aA:Fr} {E:Env} {h ab:ae} {w:World} (s:ba aA E h w) {t:TypeId} {x k v:V} {X K Y:Value} (ak:Rel E x X) (aB:Rel E k K) (bt:Rel E v Y) (he:(pO P t).run h x k v=some ab):
 ∃w',(Instr.mapUpdate t X K Y).run P w=.ok () w'/\ba aA E ab w':=by
 unfold pO at he;cases aG:bd P t with
 | none=>rw [aG] at he;cases he
 | some aP=>
   rw [aG] at he;simp only at he;have hu:=fv aG w;cases bW:aP.bl<;>rw [bW] at he<;>simp only at he<;>try (cases he;done)
   rename_i di kP;rw [bW] at hu;cases nB:bd P di with
   | none=>rw [nB] at he;cases he
   | some gp=>
     rw [nB] at he;simp only at he;cases av:k2 gp.bl with
     | false=>
       rw [av] at he;simp only [arB] at he;have uE:∃e,Ag P w E di e K/\kc e h x k v=some ab:=by
        cases ql:jl P di with
        | true=>
          rw [ql] at he;exact ⟨_,Ip s ql K,he⟩
        | false=>
          rw [ql] at he;simp only [arB] at he;cases cE:mm P di with
          | false=>rw [cE] at he;cases he
          | true=>
            rw [cE] at he;simp only [aru] at he;obtain ⟨aF,he⟩:=eD he;exact ⟨_,Iq cE aF aB,he⟩
       clear he;obtain ⟨e,ask,he⟩:=uE;cases x<;>simp only [kc] at he<;>try (cases he;done)
       rename_i b;simp only [Rel] at ak;obtain ⟨p,ag,rfl⟩:=ak;have ah:=s.at ag;cases aF:h.get b<;>rw [aF] at he<;>simp only [b6.hQ] at he<;>try (cases he;done)
       rename_i es clock;rw [aF] at ah;obtain ⟨q,a,aa,cG,aH,bw⟩:=ah;rw [ag] at aa;cases aa;cases wS:k_ e k v clock es with
       | none=>rw [wS] at he;cases he
       | some r=>
         rw [wS] at he;simp only [arq] at he;subst he;have ct:(getObj p.aZ).run P w=.ok (.map a clock) w:=by simp only [getObj,Sem.run,aH]
         have jH:=ask.check false;have k0:=(art.1 aH).1;have Bd:∀(bm:Array MapEntry) (fz:Nat),dx E r.1 bm.toList->fz=(bif r.2 then clock+1 else clock)->
          ∃w',(setObj p.aZ (.map bm fz)).run P w=.ok () w'/\ba aA E (h.set b (.mp r.1 (bif r.2 then clock+1 else clock))) w':=by
          intro bm fz hm aq;refine ⟨{w with heap:=w.heap.setIfInBounds p.aZ (.map bm fz)},by simp only [setObj,Sem.run,aH],s.set (p:=p) (by rw [aF];rfl) ag cG (by simp) (fun j bp=>?_) rfl rfl rfl (fun _ _ _ e=>by cases e) ?_⟩
          . simp only [arN];rw [arw (fun e=>bp e.symm)]
          . exact ⟨p,bm,ag,cG,by simp [k0,aq],hm⟩
         obtain ⟨g1,g2⟩:=VN ask.eq aB bt clock es a.toList r 0 wS bw;cases l8:r.2 with
         | true=>
           obtain ⟨bE,a2⟩:=g1 l8;obtain ⟨w',d1,d2⟩:=Bd (a.push ⟨K,Y,clock⟩) (clock+1) (by simpa using a2) (by rw [l8];rfl);rw [l8] at d2;refine ⟨w',?_,d2⟩;simp only [Instr.mapUpdate,Sem.run_bind,hu,Result.andThen_ok,ct,jH,ask.find bE,d1]
         | false=>
           obtain ⟨j,cr,YQ,bE,a2,a3,a4⟩:=g2 l8;obtain ⟨w',d1,d2⟩:=Bd (a.modify j fun cr=>{cr with key:=K,val:=Y}) clock (by simpa using a4) (by rw [l8];rfl);rw [l8] at d2;refine ⟨w',?_,d2⟩;rw [arV] at bE;have aJ:a[j]? =some cr:=by simpa using a2
           simp only [Instr.mapUpdate,Sem.run_bind,hu,Result.andThen_ok,ct,jH,ask.find bE,aJ,Option.map,Option.getD,Instr.keyThatStays,a3,ar2,Sem.run_pure,d1]
     | true=>
       rw [av] at he;simp only [aru] at he;have nC:=fv nB w;cases x<;>simp only [kc] at he<;>try (cases he;done)
       rename_i b;simp only [Rel] at ak;obtain ⟨p,ag,rfl⟩:=ak;have ah:=s.at ag;cases aF:h.get b<;>rw [aF] at he<;>simp only [b6.hQ] at he<;>try (cases he;done)
       rename_i es clock;rw [aF] at ah;obtain ⟨q,a,aa,cG,aH,bw⟩:=ah;rw [ag] at aa;cases aa;cases wS:k_ (lJ gp.bl) k v clock es with
       | none=>rw [wS] at he;cases he
       | some r=>
         rw [wS] at he;simp only [arq] at he;subst he;have ct:(getObj p.aZ).run P w=.ok (.map a clock) w:=by simp only [getObj,Sem.run,aH]
         have jH:=run_checkKey (P:=P) av nC false K;have k0:=(art.1 aH).1;have done:∀(bm:Array MapEntry) (fz:Nat),dx E r.1 bm.toList->fz=(bif r.2 then clock+1 else clock)->
          ∃w',(setObj p.aZ (.map bm fz)).run P w=.ok () w'/\ba aA E (h.set b (.mp r.1 (bif r.2 then clock+1 else clock))) w':=by
          intro bm fz hm aq;refine ⟨{w with heap:=w.heap.setIfInBounds p.aZ (.map bm fz)},by simp only [setObj,Sem.run,aH],s.set (p:=p) (by rw [aF];rfl) ag cG (by simp) (fun j bp=>?_) rfl rfl rfl (fun _ _ _ e=>by cases e) ?_⟩
          . simp only [arN];rw [arw (fun e=>bp e.symm)]
          . exact ⟨p,bm,ag,cG,by simp [k0,aq],hm⟩
         obtain ⟨g1,g2⟩:=VQ aB bt clock es a.toList r 0 wS bw;cases l8:r.2 with
         | true=>
           obtain ⟨bE,a2⟩:=g1 l8;obtain ⟨w',d1,d2⟩:=done (a.push ⟨K,Y,clock⟩) (clock+1) (by simpa using a2) (by rw [l8];rfl);rw [l8] at d2;refine ⟨w',?_,d2⟩;simp only [Instr.mapUpdate,Sem.run_bind,hu,Result.andThen_ok,ct,jH,run_findKey nC bE,d1]
         | false=>
           obtain ⟨j,e,YQ,bE,a2,a3,a4⟩:=g2 l8;obtain ⟨w',d1,d2⟩:=done (a.modify j fun e=>{e with key:=K,val:=Y}) clock (by simpa using a4) (by rw [l8];rfl);rw [l8] at d2;refine ⟨w',?_,d2⟩;rw [arV] at bE;have aJ:a[j]? =some e:=by simpa using a2
           simp only [Instr.mapUpdate,Sem.run_bind,hu,Result.andThen_ok,ct,jH,run_findKey nC bE,aJ,Option.map,Option.getD,Instr.keyThatStays,a3,ar2,Sem.run_pure,d1]
theorem UP {aA:Fr} {E:Env} {h ab:ae} {w:World} (s:ba aA E h w) {v:V} (he:tp h=.val v ab):dd aA P E w (do pure (.map (some (<-newObj (.map #[] 0))))) v ab:=by
 unfold tp at he;simp only [a'.val.injEq] at he;obtain ⟨rfl,rfl⟩:=he;have dJ:=s.fresh h.next (arv _)
 have dP:E.put (az h.next) ⟨w.heap.size,0,0⟩ (az h.next)=some ⟨w.heap.size,0,0⟩:=by unfold Env.put;rw [arz rfl]
 refine ⟨.map (some w.heap.size),{w with heap:=w.heap.push (.map #[] 0)},_,?_,Env.mX (p:=⟨w.heap.size,0,0⟩) dJ,?_,s.alloc 0 ?_⟩
 . simp only [Sem.run_bind,run_newObj,Result.andThen_ok,Sem.run_pure]
 . simp only [Rel];exact ⟨_,dP,rfl⟩
 . exact ⟨_,#[],dP,s.frame.size,by simp,rfl⟩
theorem akx {aA:Fr} {E:Env} {h ab:ae} {w:World} (s:ba aA E h w) {t:TypeId} {x:Option V} {X:Option Value} {v:V} (ak:h4 E x X) (he:zk P t x h=.val v ab):dd aA P E w (Instr.makeMap t X) v ab:=by
 unfold zk at he;cases aG:bd P t with
 | none=>rw [aG] at he;cases he
 | some aP=>
   rw [aG] at he;simp only at he;have hu:=fv aG;cases ah:Nat.beq (e2 aP.bl) 3 with
   | false=>rw [ah] at he;cases he
   | true=>
     rw [ah] at he;simp only [aru] at he;cases x with
     | none=>
       have:X=none:=by cases X with | none=>rfl | some _=>simp [h4] at ak
       subst this;simp only [rS] at he;have:=UP (P:=P) s he;exact this
     | some u=>
       simp only [rS] at he;obtain ⟨cZ,n,rfl,aa⟩:=tt he;obtain ⟨Y,rfl,fr⟩:∃Y,X=some Y/\Rel E (.int cZ n) Y:=by
        cases X with
        | none=>simp [h4] at ak
        | some Y=>simp only [h4] at ak;obtain ⟨N',aa,ad⟩:=ak;cases aa;exact ⟨_,rfl,ad⟩
       have:=fr.iW;subst this;obtain ⟨Z,w',au,al,ao⟩:=UP (P:=P) s aa;refine ⟨Z,w',au,?_,ao⟩;cases bW:aP.bl<;>rw [bW] at ah<;>simp [e2] at ah;have hu:=hu w;rw [bW] at hu;simp only [Instr.makeMap,Sem.run_bind,hu,Result.andThen_ok,asInt,Sem.run_pure];exact al
theorem aj9 {aA:Fr} {E:Env} {h ab:ae} {w:World} (s:ba aA E h w) {t:TypeId} {aP:oh} (aG:bd P t=some aP) (hm:u3 aP.bl=true) {x v:V} {X:Value} (ak:Rel E x X) (ty:TypeId) (rest:List TypeId)
 (he:Cs [x] h=.val v ab):dd aA P E w (Builtin.len_ (t::rest).toArray ty #[X]) v ab:=by
 simp only [Cs] at he;cases aU:qA h x with
 | none=>rw [aU] at he;cases he
 | some es=>
   rw [aU] at he;simp only [a'.val.injEq] at he;obtain ⟨rfl,rfl⟩:=he;have hu:=fv aG w;cases bW:aP.bl<;>rw [bW] at hm<;>simp [u3] at hm;rw [bW] at hu;rcases Lw (P:=P) s aU ak with ⟨rfl,rfl⟩ | ⟨a_,a,clock,rfl,ct,BW⟩
   . refine dd.plain (Z:=goInt 0) s ?_ (by simp [Rel,goInt]);simp [Builtin.len_,hu]
   . have hlen:∀(ms:List b_) (l:List MapEntry),dx E ms l->l.length=ms.length:=by
      intro ms
      induction ms with
      | nil=>intro l h;simp only [dx] at h;subst h;rfl
      | cons m ms bc=>intro l h;obtain ⟨e,es,rfl,_,_,_,bw⟩:=h;simp [bc _ bw]
     refine dd.plain (Z:=goInt a.size) s ?_ ?_
     . simp [Builtin.len_,hu,ct]
     . have:=hlen _ _ BW;simp only [Array.length_toList] at this;simp [Rel,goInt,this]
end
section
variable {P:Program}
theorem RL {E:Env} {v:V} {Y:Value} (bt:Rel E v Y) {n:Nat}:∀(es:List b_) (l:List MapEntry) (r:List b_),pf n v es=some r->dx E es l->
 ∃j,l.findIdx? (fun e=>(e.born:Int) == (n:Int))=some j/\dx E r (l.modify j fun e=>{e with val:=Y})
 | [],l,r,h,aD=>by cases h
 | m::ms,l,r,h,aD=>by
   obtain ⟨e,es,rfl,aa,ad,aH,bw⟩:=aD;simp only [pf] at h;cases ah:Nat.beq m.born n with
   | true=>
     rw [ah] at h;simp only [aru,arq] at h;subst h;have aV:=asn ah;refine ⟨0,by simp [List.findIdx?_cons,aH,aV],?_⟩;exact ⟨_,es,rfl,aa,bt,aH,bw⟩
   | false=>
     rw [ah] at h;simp only [arB] at h;cases av:pf n v ms with
     | none=>rw [av] at h;cases h
     | some a7=>
       rw [av] at h;simp only [arq] at h;subst h;obtain ⟨j,g1,g2⟩:=RL bt ms es a7 av bw;have c_:¬((e.born:Int) == (n:Int))=true:=by
        rw [aH];intro ay;have rJ:(m.born:Int)=(n:Int):=by simpa using ay
        have agb:m.born=n:=by omega
        rw [agb,atm] at ah;cases ah
       refine ⟨j+1,by simp only [List.findIdx?_cons,c_];simp [g1],⟨e,_,by simp [List.modify],aa,ad,aH,g2⟩⟩
theorem acS {aA:Fr} {E:Env} {h ab:ae} {w:World} (s:ba aA E h w) {t:TypeId} {x st v:V} {X S Y:Value} (ak:Rel E x X) (cE:Rel E st S) (bt:Rel E v Y) (he:ri h x st v=some ab):
 ∃w',(Instr.entryStore t X S Y).run P w=.ok () w'/\ba aA E ab w':=by
 unfold ri at he
 split at he
 case h_2=>cases he
 rename_i b
 split at he
 case h_2=>cases he
 rename_i cZ m
 split at he
 case h_2=>cases he
 rename_i n;simp only [Rel] at ak cE;obtain ⟨p,ag,rfl⟩:=ak;subst cE;have ah:=s.at ag;cases aF:h.get b<;>rw [aF] at he<;>simp only [b6.hQ] at he<;>try (cases he;done)
 rename_i es clock;rw [aF] at ah;obtain ⟨q,a,aa,cG,aH,bw⟩:=ah;rw [ag] at aa;cases aa;cases av:pf n v es with
 | none=>rw [av] at he;cases he
 | some r=>
   rw [av] at he;simp only [arq] at he;subst he;obtain ⟨j,g1,g2⟩:=RL bt es a.toList r av bw;have ct:(getObj p.aZ).run P w=.ok (.map a clock) w:=by simp only [getObj,Sem.run,aH]
   have k0:=(art.1 aH).1;have EV:a.findIdx? (fun e=>(e.born:Int) == (n:Int))=some j:=by rw [<-g1];cases a with | mk zc=>simp
   have bs:(asInt (.int cZ (Int.ofNat n))).run P w=.ok (n:Int) w:=by simp [asInt,asIntOf]
   refine ⟨{w with heap:=w.heap.setIfInBounds p.aZ (.map (a.modify j fun e=>{e with val:=Y}) clock)},?_,s.set (p:=p) (by rw [aF];rfl) ag cG (by simp) (fun j bp=>?_) rfl rfl rfl (fun _ _ _ e=>by cases e) ?_⟩
   . simp only [Instr.entryStore,Sem.run_bind,ct,Result.andThen_ok,bs,EV,setObj,Sem.run,aH]
   . simp only [arN];rw [arw (fun e=>bp e.symm)]
   . exact ⟨p,a.modify j fun e=>{e with val:=Y},ag,cG,by simp [k0],by rw [Array.toList_modify];exact g2⟩
theorem RN {w:World} {E:Env} {di:TypeId} {e:dN} (iR:xY P w E di e) {k:V} {K:Value} (aB:Rel E k K):∀(es:List b_) (l:List MapEntry) (r:Option b_) (i:Nat),ox e k es=some r->dx E es l->
 (r=none->(Instr.findAsking di K l i).run P w=.ok none w)/\
 (∀m,r=some m->∃j cr,(Instr.findAsking di K l i).run P w=.ok (some (i+j,cr.val)) w/\l[j]? =some cr/\cr.key=K/\Rel E m.v cr.val/\cr.born=m.born/\Instr.sameBits 10000 K K=true/\dx E es (l.modify j fun cr=>{cr with key:=K}))
 | [],l,r,i,h,aD=>by simp only [dx] at aD;subst aD;simp only [ox,arq] at h;subst h;exact ⟨fun _=>rfl,fun m hm=>by cases hm⟩
 | m::ms,l,r,i,h,aD=>by
   obtain ⟨cr,es,rfl,aa,ad,aH,bw⟩:=aD;simp only [ox] at h;cases aU:e.run k m.k with
   | none=>rw [aU] at h;cases h
   | some b=>
     rw [aU] at h;simp only at h;obtain ⟨al,ao⟩:=iR _ _ _ _ _ aU aB aa;cases b with
     | true=>
       simp only [aru,arq] at h;subst h;obtain ⟨aK,bG⟩:=ao rfl;refine ⟨fun h=>(by cases h),fun dj hm=>?_⟩;cases hm;exact ⟨0,cr,by simp [Instr.findAsking,al],rfl,aK,ad,aH,bG,⟨_,es,rfl,by rw [<-aK];exact aa,ad,aH,bw⟩⟩
     | false=>
       simp only [arB] at h;obtain ⟨g1,g2⟩:=RN iR aB ms es r (i+1) h bw;refine ⟨fun h=>by simp [Instr.findAsking,al,g1 h],fun dj hm=>?_⟩;obtain ⟨j,acQ,bE,a2,a3,a4,a5,ha,pV⟩:=g2 dj hm;exact ⟨j+1,acQ,by simp [Instr.findAsking,al,bE];omega,by simpa using a2,a3,a4,a5,ha,⟨cr,_,rfl,aa,ad,aH,pV⟩⟩
theorem UA {aA:Fr} {E:Env} {h ab:ae} {w:World} (s:ba aA E h w) {t di kP:TypeId} (hu:(underlying t).run P w=.ok (.map di kP) w) {e:dN} {z:V} {Z:Value} (bk:(zeroValue kP).run P w=.ok Z w) (mQ:Rel E z Z)
 {x k v:V} {X K:Value} (ak:Rel E x X) (aB:Rel E k K) (ask:Ag P w E di e K) (he:tl e z h x k=some (v,ab)):dd aA P E w (Instr.mapEntry t X K) v ab:=by
 unfold tl at he
 split at he
 case h_2=>cases he
 rename_i b;simp only [Rel] at ak;obtain ⟨p,ag,rfl⟩:=ak;have ah:=s.at ag;cases aF:h.get b<;>rw [aF] at he<;>simp only [b6.hQ] at he<;>try (cases he;done)
 rename_i es clock;rw [aF] at ah;obtain ⟨q,a,aa,cG,aH,bw⟩:=ah;rw [ag] at aa;cases aa;have ct:(getObj p.aZ).run P w=.ok (.map a clock) w:=by simp only [getObj,Sem.run,aH]
 have jH:=ask.check false;have k0:=(art.1 aH).1;have Bd:∀(fA:List b_) (bm:Array MapEntry) (fz:Nat),dx E fA bm.toList->
  ∃w',(setObj p.aZ (.map bm fz)).run P w=.ok () w'/\ba aA E (h.set b (.mp fA fz)) w':=by
  intro fA bm fz hm;refine ⟨{w with heap:=w.heap.setIfInBounds p.aZ (.map bm fz)},by simp only [setObj,Sem.run,aH],s.set (p:=p) (by rw [aF];rfl) ag cG (by simp) (fun j bp=>?_) rfl rfl rfl (fun _ _ _ e=>by cases e) ?_⟩
  . simp only [arN];rw [arw (fun e=>bp e.symm)]
  . exact ⟨p,bm,ag,cG,by simp [k0],hm⟩
 cases av:ox e k es with
 | none=>rw [av] at he;cases he
 | some r=>
   rw [av] at he;simp only at he;obtain ⟨g1,g2⟩:=RN ask.eq aB es a.toList r 0 av bw;cases r with
   | none=>
     simp only [arq,asi] at he;obtain ⟨rfl,rfl⟩:=he;have bE:=ask.find (g1 rfl);obtain ⟨w',d1,d2⟩:=Bd (es++[⟨k,z,clock⟩]) (a.push ⟨K,Z,clock⟩) (clock+1) (by
      have:∀(es:List b_) (l:List MapEntry),dx E es l->dx E (es++[⟨k,z,clock⟩]) (l++[⟨K,Z,clock⟩]):=by
       intro es
       induction es with
       | nil=>intro l ax;simp only [dx] at ax;subst ax;exact ⟨_,_,rfl,aB,mQ,rfl,rfl⟩
       | cons m ms bc=>intro l ax;obtain ⟨cr,fA,rfl,cc,cj,eI,jX⟩:=ax;exact ⟨cr,_,rfl,cc,cj,eI,bc _ jX⟩
      simpa using this es a.toList bw)
     refine ⟨.tuple #[Z,goInt clock],w',E,?_,Env.le.refl E,?_,d2⟩
     . simp only [Instr.mapEntry,Sem.run_bind,hu,Result.andThen_ok,ct,jH,bE,bk,d1,Sem.run_pure]
     . simp only [Rel,bh];exact ⟨_,rfl,_,_,rfl,mQ,_,_,rfl,rfl,rfl⟩
   | some m=>
     simp only [arq,asi] at he;obtain ⟨rfl,rfl⟩:=he;obtain ⟨j,cr,bE,a2,a3,a4,a5,ha,pV⟩:=g2 m rfl;rw [arV] at bE;have cc:=ask.find bE;have aJ:a[j]? =some cr:=by simpa using a2
     obtain ⟨w',d1,d2⟩:=Bd es (a.modify j fun cr=>{cr with key:=K}) clock (by rw [Array.toList_modify];exact pV);refine ⟨.tuple #[cr.val,goInt cr.born],w',E,?_,Env.le.refl E,?_,d2⟩
     . simp only [Instr.mapEntry,Sem.run_bind,hu,Result.andThen_ok,ct,jH,cc,aJ,Option.map,Option.getD,a3,Instr.keyThatStays,ha,ar2,Sem.run_pure,d1]
     . simp only [Rel,bh];exact ⟨_,rfl,_,_,rfl,a4,_,_,rfl,by rw [a5];rfl,rfl⟩
theorem akB {aA:Fr} {E:Env} {h ab:ae} {w:World} (s:ba aA E h w) {t:TypeId} {x k v:V} {X K:Value} (ak:Rel E x X) (aB:Rel E k K) (he:(F9 P t).run x k h=.val v ab):dd aA P E w (Instr.mapEntry t X K) v ab:=by
 unfold F9 at he;cases aG:bd P t with
 | none=>rw [aG] at he;cases he
 | some aP=>
   rw [aG] at he;simp only at he;have hu:=fv aG w;cases bW:aP.bl<;>rw [bW] at he<;>simp only at he<;>try (cases he;done)
   rename_i di kP;rw [bW] at hu;cases het:bd P kP with
   | none=>rw [het] at he;cases he
   | some bg=>
     rw [het] at he;simp only at he;cases bk:bg.zero with
     | none=>rw [bk] at he;cases he
     | some z=>
       rw [bk] at he;simp only at he;obtain ⟨vE,nG,mQ,_⟩:=zR (P:=P) het bk E w;cases ql:jl P di with
       | true=>
         rw [ql] at he;simp only [aru,EC] at he;cases hm:tl ⟨jL h⟩ z h x k with
         | none=>rw [hm] at he;cases he
         | some r=>
           rw [hm] at he;simp only [a'.val.injEq] at he;obtain ⟨rfl,rfl⟩:=he;exact UA s hu nG mQ ak aB (Ip s ql K) hm
       | false=>
         rw [ql] at he;simp only [arB] at he;cases cE:mm P di with
         | false=>rw [cE] at he;cases he
         | true=>
           rw [cE] at he;simp only [aru,ym] at he;cases aF:lK P di k with
           | false=>rw [aF] at he;cases he
           | true=>
             rw [aF] at he;simp only [aru] at he;cases hm:tl (structEq P di) z h x k with
             | none=>rw [hm] at he;cases he
             | some r=>
               rw [hm] at he;simp only [a'.val.injEq] at he;obtain ⟨rfl,rfl⟩:=he;exact UA s hu nG mQ ak aB (Iq cE aF aB) hm
end
section
variable {P:Program}
theorem BA (n:Nat):∀(l:List Nat),p9 l n=true↔n ∈ l
 | []=>by simp [p9]
 | x::xs=>by
   simp only [p9];cases ah:Nat.beq x n with
   | true=>have:=asn ah;subst this;simp
   | false=>
     have c_:x≠n:=fun e=>by subst e;rw [atm] at ah;cases ah
     simp [BA n xs,Ne.symm c_]
theorem aeV {a:Array Nat} {seen:List Nat} (h:a.toList=seen.reverse) (n:Nat):a.contains n=p9 seen n:=by rw [ass,BA,Array.contains_iff_mem,<-as2,h,List.mem_reverse]
theorem Lo {E:Env} {a:Array Nat} {seen:List Nat} (h:a.toList=seen.reverse):∀(ms:List b_) (l:List MapEntry),dx E ms l->dx E (leftOf seen ms) (l.filter fun e=>!a.contains e.born)
 | [],l,aD=>by simp only [dx] at aD;subst aD;rfl
 | m::ms,l,aD=>by
   obtain ⟨e,es,rfl,aa,ad,aH,bw⟩:=aD;have bc:=Lo h ms es bw;have ay:a.contains e.born=p9 seen m.born:=by rw [aeV h,aH]
   cases ah:p9 seen m.born with
   | true=>
     rw [ah] at ay;rw [List.filter_cons_of_neg (by rw [ay];decide)];simp only [leftOf,ah,aru];exact bc
   | false=>
     rw [ah] at ay;rw [List.filter_cons_of_pos (by rw [ay];decide)];simp only [leftOf,ah,arB];exact ⟨e,_,rfl,aa,ad,aH,bc⟩
theorem Ih {E:Env} {last:Nat}:∀(ms:List b_) (l:List MapEntry),dx E ms l->l.all (fun e=>decide (e.born>=last))=q9 last ms
 | [],l,aD=>by simp only [dx] at aD;subst aD;rfl
 | m::ms,l,aD=>by
   obtain ⟨e,es,rfl,aa,ad,aH,bw⟩:=aD;simp only [q9,as_,Ih ms es bw,aH];cases ah:Nat.ble last m.born with
   | true=>rw [arH] at ah;simp [ah]
   | false=>
     have:¬last<=m.born:=by rw [<-arH,ah];simp
     simp [this]
theorem OH {E:Env} {n:Nat}:∀(ms:List b_) (l:List MapEntry) (m:b_),dx E ms l->sB n ms=some m->∃e,l.find? (fun e=>e.born == n)=some e/\Rel E m.k e.key/\Rel E m.v e.val
 | [],l,m,aD,h=>by cases h
 | x::xs,l,m,aD,h=>by
   obtain ⟨e,es,rfl,aa,ad,aH,bw⟩:=aD;simp only [sB] at h;cases ah:Nat.beq x.born n with
   | true=>
     rw [ah] at h;simp only [aru,arq] at h;subst h;have:=asn ah;exact ⟨e,by simp [List.find?_cons,aH,this],aa,ad⟩
   | false=>
     rw [ah] at h;simp only [arB] at h;obtain ⟨cF,g1,g2⟩:=OH xs es m bw h;have c_:x.born≠n:=fun e=>by rw [e,atm] at ah;cases ah
     exact ⟨cF,by simp [List.find?_cons,aH,c_,g1],g2⟩
theorem LZ {k:b6} {f:List b_->Nat->a'} {v:V} {ab:ae} (h:k.hQ .fail f=.val v ab):∃es clock,k=.mp es clock/\f es clock=.val v ab:=by
 cases k<;>simp only [b6.hQ] at h<;>first
  | (cases h;done)
  | exact ⟨_,_,rfl,h⟩
theorem Vc {v:V} {f:aM->Nat->a'} {r:V} {ab:ae} (h:v.jh .fail f=.val r ab):∃b off,v=.ptr b off/\f b off=.val r ab:=by
 cases v<;>simp only [V.jh] at h<;>first
  | (cases h;done)
  | exact ⟨_,_,rfl,h⟩
theorem amP {aA:Fr} {E:Env} {h ab:ae} {w:World} (s:ba aA E h w) {t di kP:TypeId} (hu:(underlying t).run P w=.ok (.map di kP) w) {x v:V} {X:Value} (ak:Rel E x X) (he:rangeMap x h=.val v ab):dd aA P E w (Instr.range t X) v ab:=by
 have dJ:=s.fresh h.next (arv _)
 have dP:E.put (az h.next) ⟨w.heap.size,0,0⟩ (az h.next)=some ⟨w.heap.size,0,0⟩:=by unfold Env.put;rw [arz rfl]
 unfold rangeMap at he
 split at he
 . simp only [a'.val.injEq] at he;obtain ⟨rfl,rfl⟩:=he;simp only [Rel] at ak;subst ak;refine ⟨.pointer (some ⟨w.heap.size,0,none⟩),{w with heap:=w.heap.push (.mapIter none 0 #[] 0)},_,?_,Env.mX (p:=⟨w.heap.size,0,0⟩) dJ,?_,s.alloc 0 ?_⟩
   . simp only [Instr.range,Sem.run_bind,hu,Result.andThen_ok,Sem.run_pure,run_newObj]
   . simp only [Rel];exact ⟨_,dP,by simp⟩
   . exact ⟨_,none,#[],dP,s.frame.size,rfl,by simp,rfl,rfl⟩
 . rename_i c;obtain ⟨es,clock,aF,he⟩:=LZ he;simp only [a'.val.injEq] at he;obtain ⟨rfl,rfl⟩:=he;simp only [Rel] at ak;obtain ⟨p,ag,rfl⟩:=ak;have ah:=s.at ag;rw [aF] at ah;obtain ⟨q,a,aa,cG,aH,bw⟩:=ah;rw [ag] at aa;cases aa;have ct:(getObj p.aZ).run P w=.ok (.map a clock) w:=by simp only [getObj,Sem.run,aH]
   have hle:E.le (E.put (az h.next) ⟨w.heap.size,0,0⟩):=Env.mX dJ;refine ⟨.pointer (some ⟨w.heap.size,0,none⟩),{w with heap:=w.heap.push (.mapIter (some p.aZ) clock #[] clock)},_,?_,hle,?_,s.alloc 0 ?_⟩
   . simp only [Instr.range,Sem.run_bind,hu,Result.andThen_ok,Sem.run_pure,ct,run_newObj]
   . simp only [Rel];exact ⟨_,dP,by simp⟩
   . exact ⟨_,some p.aZ,#[],dP,s.frame.size,rfl,by simp,rfl,p,hle _ _ ag,rfl⟩
 . cases he
theorem ak3 {aA:Fr} {E:Env} {h ab:ae} {w:World} (s:ba aA E h w) {x v:V} {X:Value} {ty:TypeId} (ak:Rel E x X) (he:gL x h=.val v ab):dd aA P E w (Instr.next X false ty) v ab:=by
 unfold gL at he;obtain ⟨b,off,rfl,aa⟩:=Vc he;clear he;have ah:=s.at (p:=_) (by simp only [Rel] at ak;exact ak.choose_spec.1);cases aF:h.get b<;>rw [aF] at aa<;>simp only at aa<;>try (cases aa;done)
 rename_i src since seen last;rw [aF] at ah;cases aY:Nat.beq off 0 with
 | false=>rw [aY] at aa;cases aa
 | true=>
 rw [aY] at aa;simp only [aru] at aa;have aY:=asn aY;subst aY;obtain ⟨p,m,a,ag,cG,lC,a8,bs,iV⟩:=ah;simp only [Rel] at ak;obtain ⟨q,ay,rfl⟩:=ak;rw [ag] at ay;cases ay;have ct:(getObj p.aZ).run P w=.ok (.mapIter m since a last) w:=by simp only [getObj,Sem.run,a8]
 have over:Rel E (.tuple [.bool false]) (.tuple #[.bool false]):=by simp only [Rel,bh];exact ⟨_,rfl,_,_,rfl,rfl,rfl⟩
 cases src with
 | none=>
   simp only [ui] at iV;subst iV;simp only [a'.val.injEq] at aa;obtain ⟨rfl,rfl⟩:=aa;refine dd.plain (Z:=.tuple #[.bool false]) s ?_ over;simp only [Instr.next,lC,Sem.run_bind,ct,Result.andThen_ok,Sem.run_pure]
 | some c=>
   simp only [ui] at iV;obtain ⟨pJ,mM,rfl⟩:=iV;simp only at aa;obtain ⟨es,clock,BN,aa⟩:=LZ aa;have qa:=s.at mM;rw [BN] at qa;obtain ⟨q,ir,g1,_,g3,g4⟩:=qa;rw [mM] at g1;cases g1;have wG:(getObj pJ.aZ).run P w=.ok (.map ir clock) w:=by simp only [getObj,Sem.run,g3]
   cases aq:(!seen.isEmpty&&(!es.isEmpty&&q9 last es)) with
   | true=>rw [aq] at aa;cases aa
   | false=>
     rw [aq] at aa;simp only [arB] at aa;have aJ:a.isEmpty=seen.isEmpty:=by
      have:a.toList.isEmpty=seen.reverse.isEmpty:=by rw [bs]
      simpa using this
     have aR:ir.isEmpty=es.isEmpty:=by
      cases es with
      | nil=>simp only [dx] at g4;have:ir=#[]:=atj.1 g4
             simp [this]
      | cons y cx=>obtain ⟨e,l,ax,_⟩:=g4;have:ir.toList.isEmpty=false:=by rw [ax];rfl
                   simpa using this
     have bP:ir.all (fun e=>decide (e.born>=last))=q9 last es:=by rw [<-Ih es _ g4,Array.all_toList]
     have BH:(!a.isEmpty&&!ir.isEmpty&&ir.all (fun e=>decide (e.born>=last)))=false:=by rw [aJ,aR,bP,Bool.and_assoc];exact aq
     have qg:=Lo (E:=E) bs es _ g4;have BL:(ir.filter fun e=>!a.contains e.born).toList=ir.toList.filter fun e=>!a.contains e.born:=by simp
     cases ax:leftOf seen es with
     | nil=>
       rw [ax] at aa qg;simp only [LJ,a'.val.injEq] at aa;obtain ⟨rfl,rfl⟩:=aa;simp only [dx] at qg;have hd:(ir.filter fun e=>!a.contains e.born)=#[]:=by apply atj.1;rw [BL,qg]
       refine dd.plain (Z:=.tuple #[.bool false]) s ?_ over;simp only [Instr.next,lC,Sem.run_bind,ct,Result.andThen_ok,wG,BH,arK,ar5,hd,Sem.run_pure];simp [choose,Sem.run,Question.forced]
     | cons y cx=>
       rw [ax] at aa qg;cases cx with
       | cons _ _=>cases aa
       | nil=>
         simp only [LJ] at aa;cases aS:Nat.blt y.born since with
         | false=>rw [aS] at aa;cases aa
         | true=>
           rw [aS] at aa;simp only [aru,a'.val.injEq] at aa;obtain ⟨rfl,rfl⟩:=aa;rw [arS] at aS;obtain ⟨e,r,aD,b3,b5,dW,fY⟩:=qg;simp only [dx] at fY;subst fY;have hd:(ir.filter fun e=>!a.contains e.born)=#[e]:=by apply atj.1;rw [BL,aD]
           rw [<-dW] at aS ⊢
           let b9:Obj:=.mapIter (some pJ.aZ) since (a.push e.born) clock
           let w':World:={w with heap:=w.heap.setIfInBounds p.aZ b9}
           have k0:=(art.1 a8).1;have qo:(setObj p.aZ b9).run P w=.ok () w':=by simp only [setObj,Sem.run,a8];rfl
           have uN:¬since<=e.born:=by omega
           refine ⟨.tuple #[.bool true,e.key,e.val],w',E,?_,Env.le.refl E,?_,s.set (p:=p) (by rw [aF];rfl) ag cG (by simp [w']) (fun j bp=>?_) rfl rfl rfl (fun _ _ _ e=>by cases e) ?_⟩
           . simp only [Instr.next,lC,Sem.run_bind,ct,Result.andThen_ok,wG,BH,arK,ar5,hd,Sem.run_pure];have aa:(#[e]:Array MapEntry).filter (fun x=>decide (x.born<since))=#[e]:=by simp [aS]
             have ad:(#[e]:Array MapEntry).filter (fun x=>decide (x.born>=since))=#[]:=by simp [aS]
             have lD:(choose (.mapNext 1)).run P w=.ok 0 w:=by simp [choose,Sem.run,Question.forced]
             simp only [aa,ad];simp [lD];change ((setObj p.aZ b9).run P w).andThen _=_;rw [qo];rfl
           . simp only [Rel,bh];exact ⟨_,rfl,_,_,rfl,rfl,_,_,rfl,b3,_,_,rfl,b5,rfl⟩
           . simp only [w',arN];rw [arw (fun e=>bp e.symm)]
           . exact ⟨p,some pJ.aZ,a.push e.born,ag,cG,lC,by simp [w',k0,b9],by simp [bs],pJ,mM,rfl⟩
theorem acT {aA:Fr} {E:Env} {h ab:ae} {w:World} (s:ba aA E h w) {x v:V} {X:Value} (ak:Rel E x X) (he:sM x h=.val v ab):dd aA P E w (Instr.entry X) v ab:=by
 unfold sM at he;obtain ⟨b,off,rfl,aa⟩:=Vc he;clear he;have ah:=s.at (p:=_) (by simp only [Rel] at ak;exact ak.choose_spec.1);cases aF:h.get b<;>rw [aF] at aa<;>simp only at aa<;>try (cases aa;done)
 rename_i src since seen last;rw [aF] at ah;cases aY:Nat.beq off 0 with
 | false=>rw [aY] at aa;cases aa
 | true=>
 rw [aY] at aa;simp only [aru] at aa;have aY:=asn aY;subst aY;obtain ⟨p,m,a,ag,cG,lC,a8,bs,iV⟩:=ah;simp only [Rel] at ak;obtain ⟨q,ay,rfl⟩:=ak;rw [ag] at ay;cases ay;have ct:(getObj p.aZ).run P w=.ok (.mapIter m since a last) w:=by simp only [getObj,Sem.run,a8]
 cases src with
 | none=>cases aa
 | some c=>
   simp only [ui] at iV;obtain ⟨pJ,mM,rfl⟩:=iV;simp only at aa;cases seen with
   | nil=>cases aa
   | cons n aqJ=>
   simp only at aa;obtain ⟨es,clock,BN,aa⟩:=LZ aa;have qa:=s.at mM;rw [BN] at qa;obtain ⟨q,ir,g1,_,g3,g4⟩:=qa;rw [mM] at g1;cases g1;have wG:(getObj pJ.aZ).run P w=.ok (.map ir clock) w:=by simp only [getObj,Sem.run,g3]
   rename_i aeo _;clear aeo;cases fQ:Nat.beq clock last with
   | false=>rw [fQ] at aa;cases aa
   | true=>
     rw [fQ] at aa;simp only [aru] at aa;have:=asn fQ;subst this;cases JN:sB n es with
     | none=>rw [JN] at aa;cases aa
     | some y=>
       rw [JN] at aa;simp only [a'.val.injEq] at aa;obtain ⟨rfl,rfl⟩:=aa;obtain ⟨e,f1,f2,f3⟩:=OH es _ y g4 JN;have ae0:a.back? =some n:=by
        have:a.toList.getLast? =some n:=by rw [bs];simp
        simpa using this
       have uH:ir.find? (fun e=>e.born == n)=some e:=by rw [<-f1];simp
       refine dd.plain (Z:=.tuple #[e.key,e.val]) s ?_ ?_
       . simp only [Instr.entry,lC,Sem.run_bind,ct,Result.andThen_ok,ae0,wG,bne_self_eq_false,arK,ar5,uH,Sem.run_pure]
       . simp only [Rel,bh];exact ⟨_,rfl,_,_,rfl,f2,_,_,rfl,f3,rfl⟩
end
section
variable {P:Program}
theorem Zk {aA:Fr} {E:Env} {h ab:ae} {w:World} (s:ba aA E h w) {t u e:TypeId} {size:Nat} (af7:1<=size) {x v:V} {X Y:Value} {ty:TypeId} {n:Nat} {new:List V} {l:List Value}
 (ax:bh E new l) (kr:new.length=n * size) (fk:n<=top)
 (dc:∀(w':World) (A:Option Addr) (c6 fw:Nat),c6+n<=fw->(∀a,A=some a->(storeCells (a.add (c6 * size)) l).run P w=.ok () w')->(A=none->w'=w)->
   (Builtin.append_ #[t,u] ty #[.slice A c6 fw,Y]).run P w=.ok (.slice A (c6+n) fw) w')
 (qk:∀(A:Option Addr) (c6 fw:Nat) (bL:List Value),(∀w':World,w'.heap=w.heap->(Builtin.firstCells size c6 (.slice A c6 fw)).run P w'=.ok bL.toArray w')->¬c6+n<=fw->c6+n<=top->bL.length=c6 * size->l.length=n * size->
   ∃cap rest w',c6+n<=cap/\cap * size<=((bL++l).toArray++rest).size/\
   (Builtin.append_ #[t,u] ty #[.slice A c6 fw,Y]).run P w=.ok (.slice (some ⟨w.heap.size,0,none⟩) (c6+n) cap) w'/\
   w'.heap=w.heap.push (.cells ((bL++l).toArray++rest) e)/\w'.os=w.os/\w'.tape=w.tape/\w'.output=w.output)
 (he:Im size n new x h=.val v ab) (ak:Rel E x X):dd aA P E w (Builtin.append_ #[t,u] ty #[X,Y]) v ab:=by
 have qf:l.length=n * size:=by rw [ax.length,kr]
 unfold Im at he;cases x<;>simp only at he<;>try (cases he;done)
 . -- a slice of known capacity
   rename_i b off len cap;simp only [Rel] at ak;obtain ⟨p,ag,sX,rfl⟩:=ak;simp only [vS] at he;cases e0:Nat.ble (len+n) cap with
   | true=>
     rw [e0] at he;simp only [aru] at he;rw [arH] at e0;cases lF:lay h b (off+len * size) new with
     | none=>rw [lF] at he;cases he
     | some aa=>
     rw [lF] at he;simp only [a'.val.injEq] at he;obtain ⟨rfl,rfl⟩:=he;obtain ⟨w',cE,iU⟩:=zd (P:=P) s ax lF ag;refine ⟨_,w',E,dc w' _ _ _ e0 (fun a bs=>?_) (fun bs=>by cases bs),Env.le.refl E,?_,iU⟩
     . cases bs;rw [add_eq,asC];exact cE
     . simp only [Rel];exact ⟨p,ag,e0,rfl⟩
   | false=>
     rw [e0] at he;simp only [arB] at he;have KJ:¬len+n<=cap:=by rw [<-arH,e0];simp
     obtain ⟨ah,he⟩:=kh he;simp only [arp,arH] at ah;cases hold:pM h size b off len with
     | none=>rw [hold] at he;cases he
     | some bL=>
     rw [hold] at he;simp only at he;cases gf:lM h (bL++new) size false with
     | none=>rw [gf] at he;cases he
     | some aa=>
     rw [gf] at he;simp only [a'.val.injEq] at he;obtain ⟨rfl,rfl⟩:=he;obtain ⟨q,bS,ay,eA,mK,hY⟩:=zX (P:=P) s ⟨p,ag⟩ hold;rw [ag] at ay;cases ay;obtain ⟨c,rest,w',b3,b5,dW,fY,kv,nI,qw⟩:=qk (some ⟨p.aZ,p.base+off,none⟩) (len) (cap) _
      (fun w' hw=>by simp only [Builtin.firstCells];exact hY w' hw) KJ ah.1 (by rw [eA.length,mK]) qf
     obtain ⟨au,g1,g2,g3⟩:=xf (w':=w') (b2:=(0,0)) s (eA.append ax) gf b5 (.inr (arv _)) (fun _=>rfl) fY kv nI qw;refine ⟨_,w',au,dW,g1,?_,g3⟩;simp only [Rel];exact ⟨_,g2,by simp only;omega,by simp⟩
 . -- one that was appended to
   rename_i b off len idx;have B9:=ak;simp only [Rel] at ak;obtain ⟨p,ag,SS,rfl⟩:=ak;simp only [x9] at he;cases jf:Nat.beq n 0 with
   | true=>
     rw [jf] at he;simp only [aru] at he;cases he;rw [arZ] at jf;subst jf;have kq:l=[]:=by cases l with | nil=>rfl | cons _ _=>simp at qf
     subst kq;refine ⟨_,w,E,dc w _ _ _ (by omega) (fun a _=>rfl) (fun bs=>by cases bs),Env.le.refl E,?_,s⟩;simpa using B9
   | false=>
     rw [jf] at he;simp only [arB] at he;have rr:=s.at ag;cases aF:h.get b with
     | dead=>rw [aF] at he;cases he
     | view _ _=>rw [aF] at he;cases he
     | iter _ _=>rw [aF] at he;cases he
     | mp _ _=>rw [aF] at he;cases he
     | ft _=>rw [aF] at he;cases he
     | hH=>rw [aF] at he;cases he
     | hO _=>rw [aF] at he;cases he
     | gW _ _ _ _=>rw [aF] at he;cases he
     | cells N cs cL st=>
       rw [aF] at he rr;simp only [b6.on] at he;obtain ⟨ah,he⟩:=kh he;simp only [arp,arH,arZ] at ah;obtain ⟨⟨JZ,Ky,Kz⟩,BZ⟩:=ah;cases hold:pM h size b off len with
       | none=>rw [hold] at he;cases he
       | some bL=>
       rw [hold] at he;simp only at he;cases gf:lM (h.set b .dead) (bL++new) size st with
       | none=>rw [gf] at he;cases he
       | some aa=>
       rw [gf] at he;simp only [a'.val.injEq] at he;obtain ⟨rfl,rfl⟩:=he;obtain ⟨q,bS,ay,eA,mK,hY⟩:=zX (P:=P) s ⟨p,ag⟩ hold;rw [ag] at ay;cases ay;obtain ⟨bF,q,c,el,b2,aJ,cG,a8,rA,cE,ny,bB⟩:=rr;rw [ag] at aJ;cases aJ;have s5:=af7;have ny:=ny (by omega);rw [JZ] at ny;have zU:=s.kill ag;by_cases e0:len+n<=p.cap-idx
       . -- in place
         have aS:=(art.1 a8).1;have afA:(idx+len+n) * size<=p.cap * size:=asE _ (by omega);have hbound:p.base+off+len * size+0+l.length<=c.size:=by
          rw [qf,BZ];have:(idx+len+n) * size=idx * size+len * size+n * size:=by rw [asz,asz]
          omega
         have B7:=G5 (P:=P) aS el b2 (p.base+off+len * size) l c 0 (Gr Kz ax) hbound rA;rw [M' a8,asB] at B7;have KM:=dc (lU w p.aZ (qx c (p.base+off+len * size) l) el b2) (some ⟨p.aZ,p.base+off,none⟩) _ _ e0
          (fun a bs=>by cases bs;rw [add_eq];exact B7) (fun bs=>by cases bs)
         unfold lM at gf;obtain ⟨aq,gf⟩:=eD gf;simp only [arp,arH] at aq;simp only [arq] at gf;subst gf;have dJ:=s.fresh h.next (arv _)
         have hle:E.le (E.put (az h.next) ⟨p.aZ,p.base+off,p.cap-idx⟩):=Env.mX dJ;have dP:E.put (az h.next) ⟨p.aZ,p.base+off,p.cap-idx⟩ (az h.next)=some ⟨p.aZ,p.base+off,p.cap-idx⟩:=by unfold Env.put;rw [arz rfl]
         refine ⟨_,_,_,KM,hle,?_,ba.add (p:=⟨p.aZ,p.base+off,p.cap-idx⟩) zU (by rw [M_];exact arv _) (fun j _ bp=>M9 _ _ _ bp) cG (fun bR fc il pw heq=>?_) rfl rfl rfl (fun _ _ _ e=>by injection e with _ _ bP;omega) ?_⟩
         . simp only [Rel];exact ⟨_,dP,by simp only;omega,by simp⟩
         . rw [ae.ea] at il;by_cases jG:b=bR
           . rw [arz jG] at il;cases il
           . rw [arw jG] at il;exact jG (s.inj b bR p fc (by rw [aF];rfl) il ag pw heq.symm)
         . have Kh:(bL++new).length=(len+n) * size:=by rw [arE,mK,kr,asz]
           have afp:(len+n) * size=len * size+n * size:=asz _ _ _;refine ⟨aq.1,_,_,el,b2,dP,cG,De aS _ _ _,by rw [rP];exact rA,cE,fun _=>?_,?_⟩
           . rw [rP];simp only;have:idx * size + (p.cap-idx) * size=p.cap * size:=by rw [<-asz];congr 1;omega
             omega
           . refine ⟨by rw [rP,Kh,asz];simp only;omega,fun i y aw a6=>?_⟩;rw [CZ _ _ _ _ (by omega) (by omega),arz (by omega),atH];rw [FZ _ _ _ _ (by omega)] at a6;simp only at a6;by_cases cA:i<len * size
             . rw [arw (by omega)] at a6;rw [arI (by omega)];have ct:=hY w rfl;have KH:=run_loadCells (P:=P) (w:=w) (off:=p.base+off) (n:=len * size) a8 (by omega);rw [KH] at ct;simp only [Result.ok.injEq,atC] at ct;have BU:bS=(c.toList.drop (p.base+off)).take (len * size):=by
                have:=congrArg Array.toList ct;simpa using this.symm
               obtain ⟨mn,h0,aD⟩:=eA.get i bL[i] (ars (by omega));rw [ars (by omega)];rw [BU] at h0;rw [asw (by omega),asH] at h0;simp only [as5] at h0;rw [a6] at h0;cases h0;exact Rel.mono hle _ _ aD
             . rw [arz (by omega)] at a6;rw [arJ (by omega)];have bP:p.base+off+i - (p.base+off+len * size)=i-bL.length:=by omega
               rw [bP] at a6;have BV:i-bL.length<new.length:=by omega
               obtain ⟨mn,h0,aD⟩:=ax.get (i-bL.length) new[i-bL.length] (ars BV);rw [a6] at h0;cases h0;rw [ars BV];exact Rel.mono hle _ _ aD
       . -- elsewhere
         obtain ⟨bO,rest,w',b3,b5,dW,fY,kv,nI,qw⟩:=qk (some ⟨p.aZ,p.base+off,none⟩) (len) (p.cap-idx) _
          (fun w' hw=>by simp only [Builtin.firstCells];exact hY w' hw) e0 Ky (by rw [eA.length,mK]) qf
         obtain ⟨au,g1,g2,g3⟩:=xf (w':=w') (b2:=(0,0)) zU (eA.append ax) gf b5 (.inr (arv _)) (fun _=>rfl) fY kv nI qw;refine ⟨_,w',au,dW,g1,?_,g3⟩;simp only [Rel];exact ⟨_,g2,by simp only;omega,by simp⟩
 . -- nil
   simp only [Rel] at ak;subst ak;simp only [vT] at he;cases jf:Nat.beq n 0 with
   | true=>
     rw [jf] at he;simp only [aru] at he;cases he;rw [arZ] at jf;subst jf;exact dd.plain s (dc w _ _ _ (by omega) (fun a bs=>by cases bs) (fun _=>rfl)) (by simp [Rel])
   | false=>
     rw [jf] at he;simp only [arB] at he;have uM:¬n=0:=by intro e;subst e;simp at jf
     cases gf:lM h new size false with
     | none=>rw [gf] at he;cases he
     | some aa=>
     rw [gf] at he;simp only [a'.val.injEq] at he;obtain ⟨rfl,rfl⟩:=he;obtain ⟨c,rest,w',b3,b5,dW,fY,kv,nI,qw⟩:=qk (none) (0) (0) []
      (fun w' _=>by simp [Builtin.firstCells]) (by omega) (by omega) (by simp) qf
     obtain ⟨au,g1,g2,g3⟩:=xf (w':=w') (b2:=(0,0)) s ax gf b5 (.inr (arv _)) (fun _=>rfl) fY kv nI qw;refine ⟨_,w',au,dW,g1,?_,g3⟩;simp only [Rel];exact ⟨_,g2,by simp only;omega,by simp⟩
structure Ie (P:Program) (t u e:TypeId) (size bytes:Nat) (k:IntKind) (z:Value):Prop where
 ut:∀w,(underlying t).run P w=.ok (.slice e) w
 tO:∀w,(underlying u).run P w=.ok (.int k) w
 lj:∀w,(sizeOf e).run P w=.ok size w
 Ef:∀w,∃i,(typeInfo e).run P w=.ok i w/\i.bytes=bytes
 Ad:∀w,(zeroValue e).run P w=.ok z w
 vD:z.cells.size=size
 pos:1<=size
 small:bytes<=4096
theorem XB (c:Array Value):Builtin.zeroCells c 0=#[]:=by simp [Builtin.zeroCells]
theorem anh {t u e:TypeId} {size bytes:Nat} {k:IntKind} {z:Value} (H:Ie P t u e size bytes k z) {n:Nat} (aV:n<=100000) {ty:TypeId} {w w':World} {A:Option Addr} {c6 fw:Nat} (e0:c6+n<=fw)
 (cE:∀a,A=some a->(storeCells (a.add (c6 * size)) (Builtin.zeroCells z.cells n).toList).run P w=.ok () w') (dJ:A=none->w'=w):
 (Builtin.append_ #[t,u] ty #[.slice A c6 fw,.int .i64 n]).run P w=.ok (.slice A (c6+n) fw) w':=by
 have hw:IntKind.i64.wrap (n:Int)=n:=by unfold IntKind.wrap;simp [IntKind.bits,IntKind.signed];omega
 obtain ⟨i,aw,rD⟩:=H.Ef w;have uA:¬(281474976710656 < (n:Int) * (i.bytes:Int)):=by rw [rD];have aa:n * bytes<=100000 * 4096:=Nat.mul_le_mul aV H.small;have ad:((n * bytes:Nat):Int)=(n:Int) * (bytes:Int):=Int.natCast_mul _ _;omega
 have Fz:¬((n:Int)<0):=by omega
 have cu:size≠0:=by have:=H.pos;omega
 have bs:∀w,(asInt (.int .i64 (n:Int))).run P w=.ok (n:Int) w:=fun w=>by simp [asInt,asIntOf]
 have E':∀w,(asInt (.int .i64 0)).run P w=.ok 0 w:=fun w=>by simp [asInt,asIntOf]
 have y8:IntKind.i64.wrap 0=0:=by decide
 cases A with
 | none=>
   have:=dJ rfl;subst this;by_cases aY:n=0
   . subst aY;simp [Builtin.append_,H.ut,H.tO,H.lj,E',aw,y8,(show c6<=fw from by omega)]
   . simp [Builtin.append_,H.ut,H.tO,H.lj,H.Ad,bs,aw,uA,hw,e0,Fz,cu,aY]
 | some a=>
   have:=cE a rfl;by_cases aY:n=0
   . subst aY;rw [XB] at this;simp [Builtin.append_,H.ut,H.tO,H.lj,E',aw,y8,(show c6<=fw from by omega),this]
   . simp [Builtin.append_,H.ut,H.tO,H.lj,H.Ad,bs,aw,uA,hw,e0,Fz,Nat.mul_ne_zero aY cu,this]
theorem ani {t u e:TypeId} {size bytes:Nat} {k:IntKind} {z:Value} (H:Ie P t u e size bytes k z) {n:Nat} (aV:n<=100000) {ty:TypeId} {w:World} (A:Option Addr) (c6 fw:Nat) (bL:List Value)
 (hold:∀w':World,w'.heap=w.heap->(Builtin.firstCells size c6 (.slice A c6 fw)).run P w'=.ok bL.toArray w') (e0:¬c6+n<=fw) (B6:c6+n<=top) (aW:bL.length=c6 * size) (ax:(Builtin.zeroCells z.cells n).toList.length=n * size):
 ∃cap rest w',c6+n<=cap/\cap * size<=((bL++(Builtin.zeroCells z.cells n).toList).toArray++rest).size/\
  (Builtin.append_ #[t,u] ty #[.slice A c6 fw,.int .i64 n]).run P w=.ok (.slice (some ⟨w.heap.size,0,none⟩) (c6+n) cap) w'/\
  w'.heap=w.heap.push (.cells ((bL++(Builtin.zeroCells z.cells n).toList).toArray++rest) e)/\w'.os=w.os/\w'.tape=w.tape/\w'.output=w.output:=by
 have hw:IntKind.i64.wrap (n:Int)=n:=by simp only [IntKind.wrap,IntKind.bits,IntKind.signed];simp;omega
 obtain ⟨i,aw,rD⟩:=H.Ef w;have lH:P.info? e=some i:=by
  simp only [typeInfo,Sem.run_bind,run_program,Result.andThen_ok] at aw;cases ay:P.info? e with
  | none=>rw [ay] at aw;simp at aw
  | some j=>rw [ay] at aw;simp at aw;rw [aw]
 have wH:∀w',(typeInfo e).run P w'=.ok i w':=fun w'=>zQ lH w';have agZ:¬(281474976710656 < (n:Int) * (i.bytes:Int)):=by rw [rD];have aa:n * bytes<=100000 * 4096:=Nat.mul_le_mul aV H.small;have ad:((n * bytes:Nat):Int)=(n:Int) * (bytes:Int):=Int.natCast_mul _ _;omega
 have uA:¬(281474976710656<Builtin.nextslicecap (c6+n) fw * i.bytes):=by
  have aa:fw<c6+n:=by omega
  have:=growslice_fits (bytes:=i.bytes) aa (by rw [rD];have ad:(c6+n) * bytes<=top * 4096:=Nat.mul_le_mul B6 H.small;unfold top at ad;omega);omega
 have iS:¬(9223372036854775807 < ((c6:Int) + (n:Int))):=by unfold top at B6;omega
 have Fz:¬((n:Int)<0):=by omega
 have cu:size≠0:=by have:=H.pos;omega
 have bs:∀w,(asInt (.int .i64 (n:Int))).run P w=.ok (n:Int) w:=fun w=>by simp [asInt,asIntOf]
 have E':∀w,(asInt (.int .i64 0)).run P w=.ok 0 w:=fun w=>by simp [asInt,asIntOf]
 have y8:IntKind.i64.wrap 0=0:=by decide
 let q:Question:=.appendCap (c6+n) fw e
 let cap:=q.cut (w.tape w.drawn q)
 have ny:c6+n<=cap:=by show c6+n<=(c6+n)+_;omega
 refine ⟨cap,Builtin.zeroCells z.cells (cap - (c6+n)),w.drew.alloc (.cells ((bL++(Builtin.zeroCells z.cells n).toList).toArray++Builtin.zeroCells z.cells (cap - (c6+n))) e),ny,?_,?_,rfl,rfl,rfl,rfl⟩
 . simp only [Array.size_append,List.size_toArray,arE,aW,ax];have:(Builtin.zeroCells z.cells (cap - (c6+n))).size=(cap - (c6+n)) * size:=by simp [Builtin.zeroCells,H.vD]
   rw [this,<-asz,<-asz];exact asE _ (by omega)
 . have f2:=hold w.drew rfl;by_cases aY:n=0
   . subst aY;have agk:¬c6<=fw:=by omega
     have aeZ:¬(9223372036854775807 < (c6:Int)):=by omega
     rw [asB] at uA;simp [Builtin.append_,H.ut,H.tO,H.lj,H.Ad,E',y8,wH,agk,uA,aeZ,Question.forced,f2,newRow];refine ⟨rfl,?_⟩;have aJ:(bL++(Builtin.zeroCells z.cells 0).toList).toArray=bL.toArray:=by rw [XB];simp
     rw [aJ];rfl
   . simp [Builtin.append_,H.ut,H.tO,H.lj,H.Ad,bs,hw,agZ,Fz,Nat.mul_ne_zero aY cu,e0,wH,uA,iS,Question.forced,f2,newRow];refine ⟨rfl,?_⟩;have aJ:(bL++(Builtin.zeroCells z.cells n).toList).toArray=bL.toArray++Builtin.zeroCells z.cells n:=by simp
     rw [aJ,Array.append_assoc]
end
section
variable {P:Program}
abbrev ca (rd:Option Nat):Fence:={fn:=fun _=>True,depth:=none,alive:=false,round:=rd}
theorem sG {rd:Option Nat} {n:Nat} {f:FuncId} {args:Array Value} {w:World} {R:Ending->World->Prop}:CallsIn (ca rd) n P f args w R↔Calls P f args w R:=callsIn_wide
theorem GY {rd:Option Nat} (n:Nat):(ca rd).room n:=fun _ h=>by simp [ca] at h
abbrev qF (x:Value):List PanicEntry:=[{v:=x,recovered:=false}]
structure gN (P:Program) (call:dT):Prop where
 fn:∀(aA:Fr) f args h v ab,f≠dB->call f args h=.val v ab->∀E w xs,bh E args xs->ba aA E h w->
  ((∃fn,P.funcs[f]? =some fn/\fn.body.isSome=true)/\Calls P f xs.toArray w fun e w'=>∃au x,e=.returned x/\E.le au/\Rel au v x/\ba aA au ab w')\/
  ∃au x w',(callFunc f xs.toArray).run P w=.ok (.value x) w'/\E.le au/\Rel au v x/\ba aA au ab w'
 cP:∀(aA:Fr) f args h v ab,f≠dB->call f args h=.cP v ab->∀E w xs,bh E args xs->ba aA E h w->
  (∃fn,P.funcs[f]? =some fn/\fn.body.isSome=true)/\Calls P f xs.toArray w fun e w'=>∃au x,e=.panicked (qF x)/\E.le au/\Rel au v x/\ba aA au ab w'
 Xz:∀(aA:Fr) args b h v ab,call dB (args++[.ptr b 0]) h=.val v ab->∀E w xs p,bh E args xs->ba aA E h w->E b=some p->
  ∃f tmps assign body,(Instr.yield p.aZ xs.toArray).run P w=.ok (.round p.aZ f tmps assign body) w/\
   RoundIn (ca none) 0 P p.aZ f tmps assign body w fun e w'=>∃au x,e=.returned x/\E.le au/\Rel au v x/\ba aA au ab w'
 XA:∀args h v ab,call dB args h≠.cP v ab
theorem qP {rd:Option Nat} {o:Oper} (ps:∀c,o.op≠.defer c) (ρ:Operand->Value):o.semAt (ca rd).round ρ=execOp ρ o:=Oper.semAt_eq _ ρ o ps
theorem f' {rd:Option Nat} {o:Oper} {a:Act} {w:World} {aA:Fr} {E:Env} {ab:ae} {v:V} {m:Sem Value} {K:Act->World->Prop} {Q:Exit->Act->World->Prop}
 (ak:execOp a.eval o=(do pure (.value (<-m)))) (g:dd aA P E w m v ab) (dO:∀au x w',E.le au->Rel au v x->ba aA au ab w'->K (a.put o.dst x) w') (ps:∀c,o.op≠.defer c:=by intro c h;cases h):
 o.wpIn (ca rd) 0 P a w K Q:=by
 obtain ⟨Z,w',au,aa,ad,aH,bw⟩:=g;refine ⟨fun _ _=>trivial,?_⟩;rw [qP ps,ak,Sem.run_bind,aa];exact dO au Z w' ad aH bw
theorem Gy {E:Env} {ar:Nat} {r:bI} {a:Act} (k:RegRel0 E ar r a):∀l:List (Nat × Operand),sq E ((vg l).run r) (l.map fun (i,x)=>(i,a.eval x))
 | []=>rfl
 | (i,x)::l=>by simp only [vg,List.map,sq];exact ⟨_,_,rfl,dH k x,Gy k l⟩
theorem Gw {E:Env} {ar:Nat} {r:bI} {a:Act} (k:RegRel0 E ar r a) (x:Option Operand):h4 E ((rX x).run r) (x.map a.eval):=by
 cases x with
 | none=>rfl
 | some x=>simp only [rX,h4,Option.map];exact ⟨_,rfl,dH k x⟩
theorem alx {v:V} {f:aM->Nat->a'} {r:V} {h:ae} (he:v.jh .fail f=.val r h):∃b off,v=.ptr b off/\f b off=.val r h:=by
 cases v<;>simp only [V.jh] at he<;>first
  | (cases he;done)
  | exact ⟨_,_,rfl,he⟩
theorem ak5 {aA:Fr} {E:Env} {h ab:ae} {w:World} (s:ba aA E h w) {x v:V} {X:Value} {ty:TypeId} (ak:Rel E x X) (he:xg x h=.val v ab):dd aA P E w (Instr.next X true ty) v ab:=by
 unfold xg at he;obtain ⟨b,off,rfl,aa⟩:=alx he;have ah:=s.at (p:=_) (by simp only [Rel] at ak;exact ak.choose_spec.1);cases aF:h.get b with
 | dead=>rw [aF] at aa;cases aa
 | view _ _=>rw [aF] at aa;cases aa
 | cells _ _ _ _=>rw [aF] at aa;cases aa
 | mp _ _=>rw [aF] at aa;cases aa
 | ft _=>rw [aF] at aa;cases aa
 | hH=>rw [aF] at aa;cases aa
 | hO _=>rw [aF] at aa;cases aa
 | gW _ _ _ _=>rw [aF] at aa;cases aa
 | iter st pos=>
   rw [aF] at aa ah;simp only at aa;obtain ⟨aY,ad⟩:=kh aa;rw [arZ] at aY;subst aY;obtain ⟨p,ag,cG,lC,a8⟩:=ah;simp only [Rel] at ak;obtain ⟨q,ay,rfl⟩:=ak;rw [ag] at ay;cases ay;have ct:(getObj p.aZ).run P w=.ok (.stringIter ⟨⟨st⟩⟩ pos) w:=by simp only [getObj,Sem.run,a8]
   have cu:(⟨⟨st⟩⟩:ByteArray).size=st.length:=rfl;cases aS:Nat.blt pos st.length with
   | true=>
     rw [aS] at ad;simp only [aru,a'.val.injEq] at ad;obtain ⟨rfl,rfl⟩:=ad;rw [arS] at aS
     let b9:Obj:=.stringIter ⟨⟨st⟩⟩ (pos + (decodeL st pos).2)
     let w':World:={w with heap:=w.heap.setIfInBounds p.aZ b9}
     have k0:=(art.1 a8).1;have qo:(setObj p.aZ b9).run P w=.ok () w':=by simp only [setObj,Sem.run,a8];rfl
     refine ⟨.tuple #[.bool true,goInt pos,.int .i32 (decodeL st pos).1],w',E,?_,Env.le.refl E,?_,s.set (p:=p) (by rw [aF];rfl) ag cG (by simp [w']) (fun j bp=>?_) rfl rfl rfl (fun _ _ _ e=>by cases e) ?_⟩
     . simp only [Instr.next,lC,Sem.run_bind,ct,Result.andThen_ok,cu,arz aS];have:(Utf8.decode (⟨⟨st⟩⟩:ByteArray) pos)=decodeL st pos:=rfl;simp only [this];rw [qo];rfl
     . simp only [Rel,bh];exact ⟨_,rfl,_,_,rfl,rfl,_,_,rfl,rfl,_,_,rfl,rfl,rfl⟩
     . simp only [w',arN];rw [arw (fun e=>bp e.symm)]
     . exact ⟨p,ag,cG,lC,by simp [w',k0,b9]⟩
   | false=>
     rw [aS] at ad;simp only [arB,a'.val.injEq] at ad;obtain ⟨rfl,rfl⟩:=ad;have qi:¬pos<st.length:=by rw [<-arS,aS];simp
     refine dd.plain (Z:=.tuple #[.bool false]) s ?_ ?_
     . simp only [Instr.next,lC,Sem.run_bind,ct,Result.andThen_ok,cu,arw qi,Sem.run_pure]
     . simp only [Rel,bh];exact ⟨_,rfl,_,_,rfl,rfl,rfl⟩
theorem amO {aA:Fr} {E:Env} {h ab:ae} {w:World} (s:ba aA E h w) {t:TypeId} {x v:V} {X:Value} (ak:Rel E x X) (he:(GP P t).run x h=.val v ab):dd aA P E w (Instr.range t X) v ab:=by
 unfold GP at he;cases aG:bd P t with
 | none=>rw [aG] at he;cases he
 | some aP=>
   rw [aG] at he;simp only at he;have hu:=fv aG;cases bW:aP.bl with
   | string=>
     rw [bW] at he hu;simp only at he;cases x<;>simp only at he<;>try (cases he;done)
     rename_i st;simp only [a'.val.injEq] at he;obtain ⟨rfl,rfl⟩:=he;have:=ak.tK;subst this;have dJ:=s.fresh h.next (arv _)
     have dP:E.put (az h.next) ⟨w.heap.size,0,0⟩ (az h.next)=some ⟨w.heap.size,0,0⟩:=by unfold Env.put;rw [arz rfl]
     refine ⟨.pointer (some ⟨w.heap.size,0,none⟩),{w with heap:=w.heap.push (.stringIter ⟨⟨st⟩⟩ 0)},_,?_,Env.mX (p:=⟨w.heap.size,0,0⟩) dJ,?_,s.alloc 0 ?_⟩
     . simp only [Instr.range,Sem.run_bind,hu,Result.andThen_ok,Sem.run_pure,run_newObj]
     . simp only [Rel];exact ⟨_,dP,by simp⟩
     . exact ⟨_,dP,s.frame.size,rfl,by simp⟩
   | map di kP=>
     rw [bW] at he hu;exact amP s (hu w) ak he
   | _=>rw [bW] at he;cases he
theorem Zi {aA:Fr} {E:Env} {h ab:ae} {w:World} (s:ba aA E h w) {t u:TypeId} {x y v:V} {X Y:Value} {ty:TypeId}
 (he:(D2 P t u).run x y h=.val v ab) (ak:Rel E x X) (a6:Rel E y Y):dd aA P E w (Builtin.append_ #[t,u] ty #[X,Y]) v ab:=by
 unfold D2 at he;cases aG:bd P t with
 | none=>rw [aG] at he;cases he
 | some aP=>
   cases hu:bd P u with
   | none=>rw [aG,hu] at he;cases he
   | some tN=>
     rw [aG,hu] at he;simp only at he
     have main:(∀k,tN.bl≠.int k)->(match aP.bl with
      | .slice e=>match bd P e with
        | none=>(⟨fun _ _ _=>.fail⟩:Af)
        | some bg=>match bg.zero with
          | none=>⟨fun _ _ _=>.fail⟩
          | some z=>bif Nat.ble 1 bg.size&&Nat.ble bg.bytes 4096&&Nat.beq z.cells.length bg.size then ⟨kg bg.size⟩ else ⟨fun _ _ _=>.fail⟩
      | _=>⟨fun _ _ _=>.fail⟩).run x y h=.val v ab->dd aA P E w (Builtin.append_ #[t,u] ty #[X,Y]) v ab:=by
      intro rH he;cases bW:aP.bl with
      | slice e=>
        rw [bW] at he;simp only at he;cases cq:bd P e with
        | none=>rw [cq] at he;cases he
        | some bg=>
          rw [cq] at he;simp only at he;cases bk:bg.zero with
          | none=>rw [bk] at he;cases he
          | some z=>
            rw [bk] at he;simp only at he;cases aq:(Nat.ble 1 bg.size&&Nat.ble bg.bytes 4096&&Nat.beq z.cells.length bg.size) with
            | false=>rw [aq] at he;cases he
            | true=>
              rw [aq] at he;simp only [aru] at he;simp only [arp,arH,arZ] at aq;obtain ⟨lV,wZ,_,py⟩:=tS (P:=P) (E:=E) cq bk w;refine Zj s ⟨fun w=>?_,⟨tN.bl,fun w=>fv hu w,rH⟩,fun w=>kb cq w,fun w=>G2 cq w,⟨lV,wZ,by rw [py];exact aq.2⟩,aq.1.1,aq.1.2⟩ he ak a6;have:=fv aG w;rw [bW] at this;exact this
      | _=>rw [bW] at he;cases he
     cases uV:tN.bl with
     | int k=>
       rw [uV] at he;simp only at he;cases bW:aP.bl with
       | slice e=>
         rw [bW] at he;simp only at he;cases cq:bd P e with
         | none=>rw [cq] at he;cases he
         | some bg=>
           rw [cq] at he;simp only at he;cases bk:bg.zero with
           | none=>rw [bk] at he;cases he
           | some z=>
             rw [bk] at he;simp only at he;cases aq:(Nat.ble 1 bg.size&&Nat.ble bg.bytes 4096&&Nat.beq z.cells.length bg.size) with
             | false=>rw [aq] at he;cases he
             | true=>
               rw [aq] at he;simp only [aru] at he;simp only [arp,arH,arZ] at aq;obtain ⟨lV,wZ,KZ,py⟩:=tS (P:=P) (E:=E) cq bk w;have y5:∀w,(underlying t).run P w=.ok (.slice e) w:=fun w=>by have:=fv aG w;rw [bW] at this;exact this
               have KT:∀w,(underlying u).run P w=.ok (.int k) w:=fun w=>by have:=fv hu w;rw [uV] at this;exact this
               have H:Ie P t u e bg.size bg.bytes k lV:=⟨y5,KT,fun w=>kb cq w,fun w=>G2 cq w,wZ,by rw [py];exact aq.2,aq.1.1,aq.1.2⟩;unfold D3 at he
               split at he
               case h_2=>cases he
               rename_i cZ m
               split at he
               case h_2=>cases he
               rename_i n;obtain ⟨pq,bt⟩:=kh he;simp only [arp,arH] at pq;have aB:=ux pq.1;subst aB;simp only [Rel] at a6;subst a6;have uR:=zK KZ n;have hlen:(iN z.cells n).length=n * bg.size:=by rw [<-uR.length];simp [Builtin.zeroCells,py,aq.2]
               exact Zk s aq.1.1 uR hlen (by have:=pq.2;unfold top;omega) (fun w' A c6 fw a b c=>anh H pq.2 a b c) (fun A c6 fw bL a b c d f=>ani H pq.2 A c6 fw bL a b c d f) bt ak
       | _=>rw [bW] at he;cases he
     | _=>rw [uV] at he;exact main (by rw [uV];simp) he
theorem abX {aA:Fr} {E:Env} {h ab:ae} {w:World} (s:ba aA E h w) {t:TypeId} {rest:List TypeId} {x y v:V} {X Y:Value} {ty:TypeId}
 (he:(En P t).run x y h=.val v ab) (ak:Rel E x X) (a6:Rel E y Y):dd aA P E w (Builtin.copy_ (t::rest).toArray ty #[X,Y]) v ab:=by
 unfold En at he;cases aG:bd P t with
 | none=>rw [aG] at he;cases he
 | some aP=>
   rw [aG] at he;simp only at he;cases bW:aP.bl with
   | slice e=>
     rw [bW] at he;simp only at he;cases cq:bd P e with
     | none=>rw [cq] at he;cases he
     | some bg=>
       rw [cq] at he;simp only at he;exact abY s (fun w=>by have:=fv aG w;rw [bW] at this;exact this) (fun w=>kb cq w) he ak a6
   | _=>rw [bW] at he;cases he
theorem abB {aA:Fr} {E:Env} {h ab:ae} {w:World} (s:ba aA E h w) {t:TypeId} {x v:V} {X:Value} {ty:TypeId} {z:List V} (aq:A' P t=some z)
 (he:Em z x h=.val v ab) (ak:Rel E x X):dd aA P E w (Builtin.clear_ #[t] ty #[X]) v ab:=by
 unfold A' at aq;cases aG:bd P t with
 | none=>rw [aG] at aq;cases aq
 | some aP=>
   rw [aG] at aq;simp only at aq;cases bW:aP.bl with
   | slice e=>
     rw [bW] at aq;simp only at aq;cases cq:bd P e with
     | none=>rw [cq] at aq;cases aq
     | some bg=>
       rw [cq] at aq;simp only at aq;cases bk:bg.zero with
       | none=>rw [bk] at aq;cases aq
       | some z0=>
         rw [bk] at aq;simp only [arq] at aq;subst aq;have hu:∀w,(underlying t).run P w=.ok (.slice e) w:=fun w=>by have:=fv aG w;rw [bW] at this;exact this
         obtain ⟨z,mQ,KZ,Tv⟩:=tS (P:=P) (E:=E) cq bk w;have nothing:∀a c,X=.slice a 0 c->v=.tuple []->ab=h->dd aA P E w (Builtin.clear_ #[t] ty #[X]) v ab:=by
          intro a c dr bt a8;subst dr bt a8;refine ⟨.tuple #[],w,E,?_,Env.le.refl E,?_,s⟩
          . cases a<;>simp [Builtin.clear_,Sem.run_bind,hu,Result.andThen_ok,Sem.run_pure]
          . simp only [Rel];exact ⟨_,rfl,rfl⟩
         have WC:∀(b:aM) (off n c:Nat) (p:ju),E b=some p->X=.slice (some ⟨p.aZ,p.base+off,none⟩) n c->(bif Nat.beq n 0 then (a'.val (.tuple []) h) else (match lay h b off (iN z0.cells n) with
          | some ab=>a'.val (.tuple []) ab
          | none=>.fail))=.val v ab->dd aA P E w (Builtin.clear_ #[t] ty #[X]) v ab:=by
          intro b off n c p ag dr he;cases n with
          | zero=>
            simp only [atm,aru,a'.val.injEq] at he;exact nothing _ _ dr he.1.symm he.2.symm
          | succ n=>
            simp only [show Nat.beq (n+1) 0=false from rfl,arB] at he;cases ax:lay h b off (iN z0.cells (n+1)) with
            | none=>rw [ax] at he;cases he
            | some aa=>
              rw [ax] at he;simp only [a'.val.injEq] at he;obtain ⟨rfl,rfl⟩:=he;obtain ⟨w',g1,g2⟩:=zd (P:=P) s (zK KZ (n+1)) ax ag;subst dr;refine ⟨.tuple #[],w',E,?_,Env.le.refl E,?_,g2⟩
              . simp only [Builtin.clear_,Sem.run_bind,List.getElem?_toArray,arG,hu,mQ,Result.andThen_ok];have:(storeCells ⟨p.aZ,p.base+off,none⟩ (Builtin.zeroCells z.cells (n+1)).toList).run P w=.ok () w':=g1;simp [this,Sem.run_pure,Result.andThen_ok]
              . simp only [Rel];exact ⟨_,rfl,rfl⟩
         unfold Em at he;cases x<;>simp only at he<;>try (cases he;done)
         . simp only [Rel] at ak;obtain ⟨p,g1,g2,g3⟩:=ak;exact WC _ _ _ _ p g1 g3 he
         . simp only [Rel] at ak;obtain ⟨p,g1,g2,g3⟩:=ak;exact WC _ _ _ _ p g1 g3 he
         . simp only [Rel] at ak;obtain ⟨a,c,rfl⟩:=ak;simp only [a'.val.injEq] at he;exact nothing _ _ rfl he.1.symm he.2.symm
         . simp only [Rel] at ak;simp only [a'.val.injEq] at he;exact nothing _ _ ak he.1.symm he.2.symm
   | _=>rw [bW] at aq;cases aq
theorem abd {E:Env} {t:TypeId} {aP:oh} {x v:V} {X:Value} {ty:TypeId} (aG:bd P t=some aP) (aU:Ch aP.bl=true) (he:ur x=some v) (ak:Rel E x X) (w:World):
 ∃Z,(Builtin.cap_ #[t] ty #[X]).run P w=.ok Z w/\Rel E v Z:=by
 cases bW:aP.bl with
 | slice e=>
   have hu:∀w,(underlying t).run P w=.ok (.slice e) w:=fun w=>by have:=fv aG w;rw [bW] at this;exact this
   cases x<;>simp only [ur] at he<;>try (cases he;done)
   . simp only [Rel] at ak;obtain ⟨p,_,_,rfl⟩:=ak;cases he;refine ⟨_,?_,rfl⟩;simp [Builtin.cap_,Sem.run_bind,hu,Result.andThen_ok,Sem.run_pure];rfl
   . simp only [Rel] at ak;subst ak;cases he;refine ⟨_,?_,rfl⟩;simp [Builtin.cap_,Sem.run_bind,hu,Result.andThen_ok,Sem.run_pure];rfl
 | _=>rw [bW] at aU;cases aU
theorem Da {α:Type} (a:Array α):a.toList.toArray=a:=by simp
theorem Z1 {aA:Fr} {E:Env} {h ab:ae} {w:World} (s:ba aA E h w) {b:Builtin} {bn:Array TypeId} {args:List V} {xs:List Value} {v:V} {ty:TypeId} {cs:Array Bool} (ax:bh E args xs)
 (he:(q_ P b bn.toList).run args h=.val v ab):∃m:Sem Value,Go.builtin b bn ty cs xs.toArray=(do pure (.value (<-m)))/\dd aA P E w m v ab:=by
 have one:∀{x:V},bh E [x] xs->∃X,xs=[X]/\Rel E x X:=by intro x h;simp only [bh] at h;obtain ⟨y,cx,rfl,a6,rfl⟩:=h;exact ⟨y,rfl,a6⟩
 have two:∀{x y:V},bh E [x,y] xs->∃X Y,xs=[X,Y]/\Rel E x X/\Rel E y Y:=by intro x y h;simp only [bh] at h;obtain ⟨X,_,rfl,dr,Y,_,rfl,fr,rfl⟩:=h;exact ⟨X,Y,rfl,dr,fr⟩
 cases b<;>simp only [q_] at he<;>try (simp [fW.none] at he;done)
 . -- append
   cases fl:bn.toList with
   | nil=>rw [fl] at he;simp [fW.none] at he
   | cons t tM=>
     rw [fl] at he;cases tM with
     | nil=>simp [fW.none] at he
     | cons u aox=>
       cases aox with
       | cons _ _=>simp [fW.none] at he
       | nil=>
         simp only at he
         match args,he,ax with
         | [x,y],he,ax=>
           obtain ⟨X,Y,rfl,dr,fr⟩:=two ax;have e:bn=#[t,u]:=by rw [<-Da bn,fl]
           exact ⟨_,rfl,by rw [e];exact Zi s he dr fr⟩
         | [],he,_=>cases he
         | [_],he,_=>cases he
         | _::_::_::_,he,_=>cases he
 . -- cap
   cases fl:bn.toList with
   | nil=>rw [fl] at he;simp [fW.none] at he
   | cons t tM=>
     rw [fl] at he;cases tM with
     | cons _ _=>simp [fW.none] at he
     | nil=>
       simp only at he;cases aG:bd P t with
       | none=>rw [aG] at he;simp [fW.none] at he
       | some aP=>
         rw [aG] at he;simp only at he;cases aU:Ch aP.bl with
         | false=>rw [aU] at he;simp [fW.none] at he
         | true=>
           rw [aU] at he;simp only [aru] at he
           match args,he,ax with
           | [x],he,ax=>
             obtain ⟨X,rfl,dr⟩:=one ax;have e:bn=#[t]:=by rw [<-Da bn,fl]
             obtain ⟨ej,rfl⟩:=a'.iM he;obtain ⟨Z,eZ,cQ⟩:=abd (P:=P) (ty:=ty) aG aU ej dr w;exact ⟨_,rfl,by rw [e];exact dd.plain s eZ cQ⟩
           | [],he,_=>cases he
           | _::_::_,he,_=>cases he
 . -- clear
   cases fl:bn.toList with
   | nil=>rw [fl] at he;simp [fW.none] at he
   | cons t tM=>
     rw [fl] at he;cases tM with
     | cons _ _=>simp [fW.none] at he
     | nil=>
       simp only at he;cases aq:A' P t with
       | none=>rw [aq] at he;simp [fW.none] at he
       | some z=>
         rw [aq] at he;simp only at he
         match args,he,ax with
         | [x],he,ax=>
           obtain ⟨X,rfl,dr⟩:=one ax;have e:bn=#[t]:=by rw [<-Da bn,fl]
           exact ⟨_,rfl,by rw [e];exact abB s aq he dr⟩
         | [],he,_=>cases he
         | _::_::_,he,_=>cases he
 . -- copy
   cases fl:bn.toList with
   | nil=>rw [fl] at he;simp [fW.none] at he
   | cons t tM=>
     rw [fl] at he;simp only at he
     match args,he,ax with
     | [x,y],he,ax=>
       obtain ⟨X,Y,rfl,dr,fr⟩:=two ax;have e:bn=(t::tM).toArray:=by rw [<-Da bn,fl]
       exact ⟨_,rfl,by rw [e];exact abX s he dr fr⟩
     | [],he,_=>cases he
     | [_],he,_=>cases he
     | _::_::_::_,he,_=>cases he
 . -- len
   cases fl:bn.toList with
   | nil=>rw [fl] at he;simp [fW.none] at he
   | cons t tM=>
     rw [fl] at he;cases tM with
     | cons _ _=>simp [fW.none] at he
     | nil=>
       simp only at he;cases aG:bd P t with
       | none=>rw [aG] at he;simp [fW.none] at he
       | some aP=>
         rw [aG] at he;simp only at he
         match args,he,ax with
         | [x],he,ax=>
           obtain ⟨X,rfl,dr⟩:=one ax;have e:bn=[t].toArray:=by rw [<-Da bn,fl]
           cases hm:u3 aP.bl with
           | true=>
             rw [hm] at he;exact ⟨_,rfl,by rw [e];exact aj9 s aG hm dr ty [] he⟩
           | false=>
             rw [hm] at he;simp only [arB] at he;obtain ⟨ej,rfl⟩:=a'.iM he;obtain ⟨Z,eZ,cQ⟩:=aj' (P:=P) aG ej dr ty [] w;exact ⟨_,rfl,by rw [e];exact dd.plain s eZ cQ⟩
         | [],he,_=>cases hm:u3 aP.bl<;>rw [hm] at he<;>cases he
         | _::_::_,he,_=>cases hm:u3 aP.bl<;>rw [hm] at he<;>cases he
 . -- max
   obtain ⟨ej,rfl⟩:=a'.iM he;clear he;cases args with
   | nil=>cases ej
   | cons x args=>
     simp only [k9] at ej;obtain ⟨k,a,rfl,aa⟩:=j9 ej;simp only [bh] at ax;obtain ⟨X,cx,rfl,dr,ax⟩:=ax;have:=dr.iW;subst this;obtain ⟨Z,eZ,cQ⟩:=L_ (P:=P) false args cx k a v ax aa w;exact ⟨_,rfl,dd.plain (Z:=Z) s (by simpa [Builtin.max_] using eZ) cQ⟩
 . -- min
   obtain ⟨ej,rfl⟩:=a'.iM he;clear he;cases args with
   | nil=>cases ej
   | cons x args=>
     simp only [k9] at ej;obtain ⟨k,a,rfl,aa⟩:=j9 ej;simp only [bh] at ax;obtain ⟨X,cx,rfl,dr,ax⟩:=ax;have:=dr.iW;subst this;obtain ⟨Z,eZ,cQ⟩:=L_ (P:=P) true args cx k a v ax aa w;exact ⟨_,rfl,dd.plain (Z:=Z) s (by simpa [Builtin.min_] using eZ) cQ⟩
end
section
variable {P:Program}
def eg (P:Program):Prop:=∀(f:FuncId) (fn:Func),P.funcs[f]? =some fn->(fn.name == "runtime.NumGoroutine")=false
theorem vp (bF:eg P) {f:FuncId} {fn:Func} (av:P.funcs[f]? =some fn) (ah:fn.body.isSome=true) (args:Array Value) (w:World):(callFunc f args).run P w=.ok (.enter f args) w:=by
 have ho:fn.body.isNone=false:=by cases h:fn.body with | none=>rw [h] at ah;cases ah | some c=>rfl
 simp only [callFunc,Sem.run_bind,run_program,Result.andThen_ok,av];rw [arw (by rw [bF f fn av];simp)];simp [ho]
theorem Lx {α β:Type} (f:α->β) (a:Array α):a.map f=(a.toList.map f).toArray:=by apply ati;simp
theorem L8 (ρ:Operand->Value) (bo:Array (Nat × Operand)):(bo.map fun (i,x)=>(i,ρ x))=(bo.toList.map fun (i,x)=>(i,ρ x)).toArray:=by apply ati;simp
theorem Zx {E:Env} {t vC:TypeId} {aP:oh} {ok:Bool} {x v:V} {X:Value} (aG:bd P t=some aP) (ah:Nat.beq (e2 aP.bl) 5=false) (ak:Rel E x X)
 (he:AY t aP.zero ok x=some v) (w:World):∃Z,(Instr.typeAssert X vC t ok).run P w=.ok Z w/\Rel E v Z:=by
 have hu:=fv aG w;have rH:∀ms,aP.bl≠.interface ms:=fun ms e=>by rw [e] at ah;simp [e2] at ah
 have zero:∀z,aP.zero=some z->∃x,(zeroValue t).run P w=.ok x w/\Rel E z x:=fun z bk=>by obtain ⟨x,aa,ad,_⟩:=zR (P:=P) aG bk E w;exact ⟨x,aa,ad⟩
 unfold AY at he;cases x<;>simp only at he<;>try (cases he;done)
 case iface u y=>
  simp only [Rel] at ak;obtain ⟨Y,rfl,fr⟩:=ak;rw [hG] at he;by_cases y5:u=t
  . rw [arz y5] at he;simp only [arq] at he;subst y5;cases ok with
    | true=>
      simp only [aru] at he;subst he;refine ⟨.tuple #[Y,.bool true],?_,by simp only [Rel,bh];exact ⟨_,rfl,_,_,rfl,fr,_,_,rfl,rfl,rfl⟩⟩;simp only [Instr.typeAssert,Sem.run_bind,hu,Result.andThen_ok];cases bW:aP.bl<;>first
       | exact absurd bW (rH _)
       | (simp only [ar2];rfl)
    | false=>
      simp only [arB] at he;subst he;refine ⟨Y,?_,fr⟩;simp only [Instr.typeAssert,Sem.run_bind,hu,Result.andThen_ok];cases bW:aP.bl<;>first
       | exact absurd bW (rH _)
       | (simp only [ar2];rfl)
  . rw [arw y5] at he;cases ok with
    | false=>cases he
    | true=>
      simp only [aru] at he;cases bk:aP.zero with
      | none=>rw [bk] at he;cases he
      | some z=>
        rw [bk] at he;simp only [arq] at he;subst he;obtain ⟨bb,bN,z2⟩:=zero z bk;refine ⟨.tuple #[bb,.bool false],?_,by simp only [Rel,bh];exact ⟨_,rfl,_,_,rfl,z2,_,_,rfl,rfl,rfl⟩⟩;simp only [Instr.typeAssert,Sem.run_bind,hu,Result.andThen_ok];cases bW:aP.bl<;>first
         | exact absurd bW (rH _)
         | (simp only [arw y5,ar2,Sem.run_bind,bN,Result.andThen_ok];rfl)
 case nilIface=>
  simp only [Rel] at ak;subst ak;cases ok with
  | false=>cases he
  | true=>
    simp only [aru] at he;cases bk:aP.zero with
    | none=>rw [bk] at he;cases he
    | some z=>
      rw [bk] at he;simp only [arq] at he;subst he;obtain ⟨bb,bN,z2⟩:=zero z bk;refine ⟨.tuple #[bb,.bool false],?_,by simp only [Rel,bh];exact ⟨_,rfl,_,_,rfl,z2,_,_,rfl,rfl,rfl⟩⟩;simp only [Instr.typeAssert,Sem.run_bind,hu,Result.andThen_ok];cases bW:aP.bl<;>first
       | exact absurd bW (rH _)
       | (simp only [ar2,Sem.run_bind,bN,Result.andThen_ok];rfl)
def g_ (P:Program) (call:dT):Prop:=∀f args h v ab,call f args h=.val v ab->True
theorem QR {rd:Option Nat} {aA:Fr} {E:Env} {h ab:ae} {w:World} {call:dT} (bF:eg P) (cf:gN P call) (dL:g_ P call) {o:Oper} {ar:Nat} {r:bI} {a:Act} {v:V}
 (he:(fh P o).run call r h=.val v ab) (k:RegRel0 E ar r a) (s:ba aA E h w) {K:Act->World->Prop} {Q:Exit->Act->World->Prop}
 (dO:∀au x w',E.le au->Rel au v x->ba aA au ab w'->K (a.put o.dst x) w'):o.wpIn (ca rd) 0 P a w K Q:=by
 obtain ⟨dst,op,type,pos,after,guard⟩:=o;cases op<;>simp only [fh] at he<;>try (simp [dy.none] at he;done)
 case move x=>
  simp only [a'.val.injEq] at he;obtain ⟨rfl,rfl⟩:=he;exact f' (m:=pure (a.eval x)) rfl (dd.plain s rfl (dH k x)) dO
 case assign x=>
  simp only [a'.val.injEq] at he;obtain ⟨rfl,rfl⟩:=he;exact f' (m:=pure (a.eval x)) rfl (dd.plain s rfl (dH k x)) dO
 case pick c x y=>
  have aq:=dH k c;generalize (bV c).run r=M6 at he aq;cases M6<;>simp only at he<;>try (cases he;done)
  rename_i t;simp only [a'.val.injEq] at he;obtain ⟨rfl,rfl⟩:=he;simp only [Rel] at aq;refine f' (m:=do pure (if <-asBool (a.eval c) then a.eval x else a.eval y)) (by simp only [execOp,bind_assoc,pure_bind]) (dd.plain (Z:=if t then a.eval x else a.eval y) s ?_ ?_) dO
  . rw [aq];rfl
  . cases t
    . exact dH k y
    . exact dH k x
 case alloc t=>
  cases aG:bd P t with
  | none=>rw [aG] at he;simp [dy.none] at he
  | some aP=>
    rw [aG] at he;simp only at he;cases bk:aP.zero with
    | none=>rw [bk] at he;simp [dy.none] at he
    | some z=>
      rw [bk] at he;simp only at he;cases aV:gh h z.cells with
      | none=>rw [aV] at he;cases he
      | some aa=>
        rw [aV] at he;simp only [gY,a'.val.injEq] at he;obtain ⟨rfl,rfl⟩:=he;obtain ⟨x,ak,px,_⟩:=tS (P:=P) (E:=E) aG bk w;obtain ⟨au,g1,g2,g3,g4⟩:=Gd (P:=P) s px aV t;have Jp:(newRow t x.cells).run P w=.ok ⟨w.heap.size,0,none⟩ {w with heap:=w.heap.push (.cells x.cells t)}:=by simpa using g3
        have Jq:ba aA au aa {w with heap:=w.heap.push (.cells x.cells t)}:=by simpa using g4
        exact f' (m:=Instr.alloc t true (.tuple #[])) rfl ⟨.pointer (some ⟨w.heap.size,0,none⟩),_,au,by simp only [Instr.alloc,Sem.run_bind,ak,Result.andThen_ok,newVar,Jp,Sem.run_pure],g1,by simp only [Rel];exact ⟨_,g2,by simp⟩,Jq⟩ dO
 case box t x=>
  obtain ⟨aF,he⟩:=kh he;cases aV:gh h ((bV x).run r).cells with
  | none=>rw [aV] at he;cases he
  | some aa=>
    rw [aV] at he;simp only [gY,a'.val.injEq] at he;obtain ⟨rfl,rfl⟩:=he;have ax:=(dH k x).cells (fun e=>by rw [e] at aF;cases aF);obtain ⟨au,g1,g2,g3,g4⟩:=Gd (P:=P) s ax aV t;have Jp:(newRow t (a.eval x).cells).run P w=.ok ⟨w.heap.size,0,none⟩ {w with heap:=w.heap.push (.cells (a.eval x).cells t)}:=by simpa using g3
    have Jq:ba aA au aa {w with heap:=w.heap.push (.cells (a.eval x).cells t)}:=by simpa using g4
    exact f' (m:=Instr.box t (a.eval x)) rfl ⟨.pointer (some ⟨w.heap.size,0,none⟩),_,au,by simp only [Instr.box,Sem.run_bind,newVar,Jp,Result.andThen_ok,Sem.run_pure],g1,by simp only [Rel];exact ⟨_,g2,by simp⟩,Jq⟩ dO
 case build t bo=>
  obtain ⟨ej,rfl⟩:=a'.iM he;clear he;obtain ⟨Z,eZ,cQ⟩:=ZX (P:=P) (Gy k bo.toList) ej w;refine f' (m:=Instr.build t (bo.map fun (i,x)=>(i,a.eval x))) rfl (dd.plain (Z:=Z) s ?_ cQ) dO;rw [L8];exact eZ
 case buildSlice t n bo=>
  refine f' (m:=Instr.buildSlice t n (bo.map fun (i,x)=>(i,a.eval x))) rfl ?_ dO;rw [L8];exact ZZ s (Gy k bo.toList) he
 case load t x=>
  obtain ⟨ej,rfl⟩:=a'.iM he;clear he;obtain ⟨Y,fr,cQ,_⟩:=Ur (P:=P) s (dH k x) ej;exact f' (m:=Instr.loadAt t (a.eval x)) rfl (dd.plain s fr cQ) dO
 case store t x y=>
  cases cE:(tG P t).run h ((bV x).run r) ((bV y).run r) with
  | none=>rw [cE] at he;cases he
  | some aa=>
    rw [cE] at he;simp only [gY,a'.val.injEq] at he;obtain ⟨rfl,rfl⟩:=he;obtain ⟨w',cV,iU⟩:=anY (P:=P) s (dH k x) (dH k y) cE;refine ⟨fun _ _=>trivial,?_⟩;rw [qP (by intro c h;cases h)];have:execOp a.eval ⟨dst,.store t x y,type,pos,after,guard⟩=(do Instr.storeAt t (a.eval x) (a.eval y);pure .skip):=rfl;rw [this,Sem.run_bind,cV];exact dO E undef w' (Env.le.refl E) (by simp [Rel]) iU
 case nilCheck x=>
  obtain ⟨ej,rfl⟩:=a'.iM he;clear he;have ak:=dH k x;generalize (bV x).run r=vA at ej ak
  have ct:∀X,Rel E vA X->(match X with
   | .pointer none | .nilIface | .nilFunc=>(runtimePanic .nilDeref:Sem Next)
   | .func (.method name) first captured=>
     match (first[0]? :Option Value) with
     | some .nilIface=>runtimePanic .nilDeref
     | some (.iface t w)=>do
       if (<-nilAhead ((<-program).types.size+Made.depth) t w name) != some false then
        unsupported (.noEntry "op/nilCheck.the method's receiver behind this interface value is a nil pointer, or cannot be seen to be none, and the arguments act or may panic (ledger 612)")
       pure (.value (.func (.method name) first captured))
     | _=>pure (.value (.func (.method name) first captured))
   | x=>pure (.value x))=pure (.value X)/\v=vA:=by
   intro X dr;cases vA<;>simp only [vb] at ej<;>try (cases ej;done)
   all_goals simp only [arq] at ej
   all_goals simp only [Rel] at dr
   . obtain ⟨p,_,rfl⟩:=dr;exact ⟨rfl,ej.symm⟩
   . rcases dr with ⟨_,_,rfl,_⟩ | ⟨_,_,_,_,_,rfl⟩<;>exact ⟨rfl,ej.symm⟩
   . obtain ⟨p,rfl,_⟩:=dr;exact ⟨rfl,ej.symm⟩
   . obtain ⟨_,p,rfl,_⟩:=dr;exact ⟨rfl,ej.symm⟩
  obtain ⟨aa,rfl⟩:=ct _ ak;exact f' (m:=pure (a.eval x)) (by simp only [execOp];rw [pure_bind];exact aa) (dd.plain s rfl ak) dO
 case binOp op t x y u=>
  obtain ⟨ej,rfl⟩:=a'.iM he;clear he;obtain ⟨Z,eZ,cQ⟩:=ZQ (P:=P) (ji:=x) (jj:=y) ej (dH k x) (dH k y) w;exact f' rfl (dd.plain s eZ cQ) dO
 case unOp op t x=>
  obtain ⟨ej,rfl⟩:=a'.iM he;clear he;obtain ⟨Z,eZ,cQ⟩:=aoI (P:=P) ej (dH k x) w;exact f' (m:=Op.unary op (a.eval x)) rfl (dd.plain s eZ cQ) dO
 case convert t u x=>exact f' (m:=convert t u (a.eval x)) rfl (abU s he (dH k x)) dO
 case makeInterface t x=>
  cases aG:bd P t with
  | none=>rw [aG] at he;simp [dy.none] at he
  | some aP=>
    rw [aG] at he;simp only at he;cases ah:Nat.beq (e2 aP.bl) 5 with
    | true=>rw [ah] at he;simp [dy.none] at he
    | false=>
      rw [ah] at he;simp only [arB,a'.val.injEq] at he;obtain ⟨rfl,rfl⟩:=he;refine f' (m:=Instr.makeInterface t (a.eval x)) rfl (dd.plain (Z:=.iface t (a.eval x)) s ?_ ?_) dO
      . have hu:=fv aG w;simp only [Instr.makeInterface,Sem.run_bind,hu,Result.andThen_ok];cases bW:aP.bl<;>first
         | rfl
         | (rw [bW] at ah;simp [e2] at ah)
      . simp only [Rel];exact ⟨_,rfl,dH k x⟩
 case makeFunc fn first eM=>
  cases fn<;>simp only at he<;>try (simp [dy.none] at he;done)
  rename_i f;cases av:(first.isEmpty&&!Nat.beq f dB) with
  | false=>
    rw [av] at he;simp only [arB] at he;cases jI:(eM.isEmpty&&!Nat.beq f dB) with
    | false=>rw [jI] at he;simp [dy.none] at he
    | true=>
      rw [jI] at he;simp only [aru,a'.val.injEq] at he;obtain ⟨rfl,rfl⟩:=he;simp only [arp,aso] at jI;have J4:f≠dB:=fun e=>by rw [e] at jI;exact absurd jI.2 (by decide)
      have J2:eM=#[]:=by simpa using jI.1
      subst J2;refine f' (m:=Instr.makeFunc (.func f) (first.map a.eval) #[]) (by simp [execOp]) (dd.plain s rfl ?_) dO;simp only [Rel];exact ⟨J4,_,rfl,by rw [Lx];simpa using rn k first.toList⟩
  | true=>
    rw [av] at he;simp only [aru,a'.val.injEq] at he;obtain ⟨rfl,rfl⟩:=he;simp only [arp,aso] at av;have J4:f≠dB:=fun e=>by rw [e] at av;exact absurd av.2 (by decide)
    have J2:first=#[]:=by simpa using av.1
    subst J2;refine f' (m:=Instr.makeFunc (.func f) #[] (eM.map a.eval)) (by simp [execOp]) (dd.plain s rfl ?_) dO;simp only [Rel];exact .inl ⟨J4,_,rfl,by rw [Lx];simpa using rn k eM.toList⟩
 case makeSlice t l c=>exact f' (m:=Instr.makeSlice t (a.eval l) (a.eval c)) rfl (aky s (dH k l) (dH k c) he) dO
 case slice t x bS aw en=>
  obtain ⟨ej,rfl⟩:=a'.iM he;clear he;obtain ⟨Z,eZ,cQ⟩:=anL (P:=P) ej (dH k x) (Gw k bS) (Gw k aw) (Gw k en) w;exact f' (m:=Instr.sliceAt t (a.eval x) (bS.map a.eval) (aw.map a.eval) (en.map a.eval)) rfl (dd.plain s eZ cQ) dO
 case fieldAddr t x i=>
  obtain ⟨ej,rfl⟩:=a'.iM he;clear he;obtain ⟨Z,eZ,cQ⟩:=adk (P:=P) ej (dH k x) w;exact f' (m:=Instr.fieldAt t (a.eval x) i) rfl (dd.plain s eZ cQ) dO
 case field t x i=>
  obtain ⟨ej,rfl⟩:=a'.iM he;clear he;obtain ⟨Z,eZ,cQ⟩:=adl (P:=P) ej (dH k x) w;exact f' (m:=Instr.field t (a.eval x) i) rfl (dd.plain s eZ cQ) dO
 case indexAddr t x i=>
  obtain ⟨ej,rfl⟩:=a'.iM he;clear he;obtain ⟨Z,eZ,cQ⟩:=ahb (P:=P) ej (dH k x) (dH k i) w;exact f' (m:=Instr.indexAt t (a.eval x) (a.eval i)) rfl (dd.plain s eZ cQ) dO
 case index t x i=>
  obtain ⟨ej,rfl⟩:=a'.iM he;clear he;obtain ⟨Z,eZ,cQ⟩:=ahd (P:=P) ej (dH k x) (dH k i) w;exact f' (m:=Instr.index t (a.eval x) (a.eval i)) rfl (dd.plain s eZ cQ) dO
 case range t x=>exact f' (m:=Instr.range t (a.eval x)) rfl (amO s (dH k x) he) dO
 case next it zb=>
  cases zb with
  | true=>exact f' (m:=Instr.next (a.eval it) true type) rfl (ak5 s (dH k it) he) dO
  | false=>exact f' (m:=Instr.next (a.eval it) false type) rfl (ak3 s (dH k it) he) dO
 case entry it=>exact f' (m:=Instr.entry (a.eval it)) rfl (acT s (dH k it) he) dO
 case lookup t x y ok=>
  obtain ⟨ej,rfl⟩:=a'.iM he;clear he;obtain ⟨Z,eZ,cQ⟩:=akr (P:=P) s (dH k x) (dH k y) ej;exact f' (m:=Instr.lookup t (a.eval x) (a.eval y) ok) rfl (dd.plain s eZ cQ) dO
 case mapEntry t m y=>exact f' (m:=Instr.mapEntry t (a.eval m) (a.eval y)) rfl (akB s (dH k m) (dH k y) he) dO
 case entryStore t m st x=>
  cases cE:ri h ((bV m).run r) ((bV st).run r) ((bV x).run r) with
  | none=>rw [cE] at he;cases he
  | some aa=>
    rw [cE] at he;simp only [gY,a'.val.injEq] at he;obtain ⟨rfl,rfl⟩:=he;obtain ⟨w',cV,iU⟩:=acS (P:=P) (t:=t) s (dH k m) (dH k st) (dH k x) cE;refine ⟨fun _ _=>trivial,?_⟩;rw [qP (by intro c h;cases h)];have:execOp a.eval ⟨dst,.entryStore t m st x,type,pos,after,guard⟩=(do Instr.entryStore t (a.eval m) (a.eval st) (a.eval x);pure .skip):=rfl;rw [this,Sem.run_bind,cV];exact dO E undef w' (Env.le.refl E) (by simp [Rel]) iU
 case mapUpdate t m y x=>
  cases cE:(pO P t).run h ((bV m).run r) ((bV y).run r) ((bV x).run r) with
  | none=>rw [cE] at he;cases he
  | some aa=>
    rw [cE] at he;simp only [gY,a'.val.injEq] at he;obtain ⟨rfl,rfl⟩:=he;obtain ⟨w',cV,iU⟩:=Xg (P:=P) s (dH k m) (dH k y) (dH k x) cE;refine ⟨fun _ _=>trivial,?_⟩;rw [qP (by intro c h;cases h)];have:execOp a.eval ⟨dst,.mapUpdate t m y x,type,pos,after,guard⟩=(do Instr.mapUpdate t (a.eval m) (a.eval y) (a.eval x);pure .skip):=rfl;rw [this,Sem.run_bind,cV];exact dO E undef w' (Env.le.refl E) (by simp [Rel]) iU
 case insert t m y x=>
  cases cE:(pO P t).run h ((bV m).run r) ((bV y).run r) ((bV x).run r) with
  | none=>rw [cE] at he;cases he
  | some aa=>
    rw [cE] at he;simp only [gY,a'.val.injEq] at he;obtain ⟨rfl,rfl⟩:=he;obtain ⟨w',cV,iU⟩:=Xg (P:=P) s (dH k m) (dH k y) (dH k x) cE;refine ⟨fun _ _=>trivial,?_⟩;rw [qP (by intro c h;cases h)];have:execOp a.eval ⟨dst,.insert t m y x,type,pos,after,guard⟩=(do Instr.mapUpdate t (a.eval m) (a.eval y) (a.eval x);pure .skip):=rfl;rw [this,Sem.run_bind,cV];exact dO E undef w' (Env.le.refl E) (by simp [Rel]) iU
 case makeMap t x=>exact f' (m:=Instr.makeMap t (x.map a.eval)) rfl (akx s (Gw k x) he) dO
 case panic x=>
  exfalso;unfold L7 at he
  split at he<;>cases he
 case typeAssert x vC t ok=>
  cases aG:bd P t with
  | none=>rw [aG] at he;simp [dy.none] at he
  | some aP=>
    rw [aG] at he;simp only at he;cases ah:Nat.beq (e2 aP.bl) 5 with
    | true=>rw [ah] at he;simp [dy.none] at he
    | false=>
      rw [ah] at he;simp only [arB] at he;obtain ⟨ej,rfl⟩:=a'.iM he;clear he;obtain ⟨Z,eZ,cQ⟩:=Zx aG ah (vC:=vC) (dH k x) ej w;exact f' (m:=Instr.typeAssert (a.eval x) vC t ok) rfl (dd.plain s eZ cQ) dO
 case extract x i=>
  have ak:=dH k x;generalize (bV x).run r=vA at he ak;cases vA<;>simp only at he<;>try (cases he;done)
  obtain ⟨ej,rfl⟩:=a'.iM he;clear he;simp only [Rel] at ak;obtain ⟨arr,dr,ax⟩:=ak;obtain ⟨y,a6,cQ⟩:=ax.get i v ej;refine f' (m:=Instr.extract (a.eval x) i) rfl (dd.plain (Z:=y) s ?_ cQ) dO;rw [dr];have:arr[i]? =some y:=by simpa using a6
  simp only [Instr.extract,this,Sem.run_pure]
 case call c=>
  obtain ⟨callee,args,types⟩:=c;cases callee with
  | invoke _ _=>simp [sD,dy.none] at he
  | builtin b=>
    simp only [sD] at he;obtain ⟨cs,iG⟩:∃cs,execOp a.eval ⟨dst,.call ⟨.builtin b,args,types⟩,type,pos,after,guard⟩=Go.builtin b types type cs (args.map a.eval):=by simp only [execOp,resolve,pure_bind,invoke];exact ⟨_,rfl⟩
    obtain ⟨m,hm,aF⟩:=Z1 (P:=P) (ty:=type) (cs:=cs) s (rn k args.toList) he;refine f' (m:=m) ?_ aF dO;rw [iG,<-hm,Lx]
  | value f=>
    simp only [sD] at he;have av:=dH k f;generalize agJ:(bV f).run r=xG at he av;cases xG<;>simp only [V.zw] at he<;>try (cases he;done)
    rotate_left
    . rename_i g cs;simp only [Rel] at av;refine ⟨fun _ _=>trivial,?_⟩;rw [qP (by intro c h;cases h)];obtain ⟨aF,first,dr,ax⟩:=av;have p8:=bh.append ax (rn k args.toList);have pq:=cf.fn _ _ _ _ _ _ aF he E w _ p8 s;have hex:execOp a.eval ⟨dst,.call ⟨.value f,args,types⟩,type,pos,after,guard⟩=callFunc g (first++args.map a.eval):=by
       simp only [execOp,resolve,dr,Deferred.ofValue,pure_bind,invoke];simp
      have e:first++args.map a.eval=(first.toList++args.toList.map a.eval).toArray:=by apply ati;simp
      rw [hex,e];rcases pq with ⟨⟨fn,ik,ah⟩,aq⟩ | ⟨au,x,w',aD,al,ao,aK⟩
      case inr=>
       rw [aD];exact dO au x w' al ao aK
      rw [vp bF ik ah];refine ⟨fun h=>by simp at h,sG.2 (aq.mono fun e w' ay=>?_)⟩;obtain ⟨au,x,rfl,al,ao,aK⟩:=ay;exact dO au x w' al ao aK
    rename_i g cs;simp only [Rel] at av;refine ⟨fun _ _=>trivial,?_⟩;rw [qP (by intro c h;cases h)];rcases av with ⟨aF,eM,dr,ax⟩ | ⟨aF,b,p,iG,ag,dr⟩
    . have p8:=(rn k args.toList).append ax;have pq:=cf.fn _ _ _ _ _ _ aF he E w _ p8 s;have hex:execOp a.eval ⟨dst,.call ⟨.value f,args,types⟩,type,pos,after,guard⟩=callFunc g (args.map a.eval++eM):=by
       simp only [execOp,resolve,dr,Deferred.ofValue,pure_bind,invoke];simp
      have e:args.map a.eval++eM=(args.toList.map a.eval++eM.toList).toArray:=by apply ati;simp
      rw [hex,e];rcases pq with ⟨⟨fn,ik,ah⟩,aq⟩ | ⟨au,x,w',aD,al,ao,aK⟩
      case inr=>
       rw [aD];exact dO au x w' al ao aK
      rw [vp bF ik ah];refine ⟨fun h=>by simp at h,sG.2 (aq.mono fun e w' ay=>?_)⟩;obtain ⟨au,x,rfl,al,ao,aK⟩:=ay;exact dO au x w' al ao aK
    . subst aF iG;obtain ⟨kj,tmps,assign,body,al,ao⟩:=cf.Xz _ _ _ _ _ _ he E w _ p (rn k args.toList) s ag;have hex:execOp a.eval ⟨dst,.call ⟨.value f,args,types⟩,type,pos,after,guard⟩=Instr.yield p.aZ (args.map a.eval):=by
       simp only [execOp,resolve,dr,Deferred.ofValue,pure_bind,invoke];simp
      have e:args.map a.eval=(args.toList.map a.eval).toArray:=by apply ati;simp
      rw [hex,e,al];refine ⟨fun h=>by simp at h,RoundIn.mono ao fun e w' ay=>?_⟩;obtain ⟨au,x,rfl,bH,c2,cz⟩:=ay;exact dO au x w' bH c2 cz
end
section
variable {P:Program}
theorem Ju {E:Env} {ar:Nat} {r:bI} {a:Act} (k:RegRel0 E ar r a) {all:Array Oper} {j:Nat} {g:Oper} {d:Nat} (bp:all[j]? =some g) (aI:g.dst=some d) (afa:d<ar) (wA:d<=top):
 (∀b,T.get .bad (az d) r=.bool b->yielded all a.tmps j=some b)/\(∀af,T.get .bad (az d) r=.tuple af->yielded all a.tmps j=none):=by
 have aD:=k.an d wA;have aS:d<a.tmps.size:=by rw [k.size];exact afa
 have he:a.tmps[d]? =some (a.tmps.getD d undef):=by simp [arQ,aS]
 refine ⟨fun b ah=>?_,fun af ah=>?_⟩
 . rw [ah] at aD;simp only [Rel] at aD;simp only [yielded,bp,Option.bind,aI,he,aD]
 . rw [ah] at aD;simp only [Rel] at aD;obtain ⟨arr,aD,_⟩:=aD;simp only [yielded,bp,Option.bind,aI,he,aD]
theorem QO {rd:Option Nat} {aA:Fr} {E:Env} {h ab:ae} {w:World} {call:dT} (bF:eg P) (cf:gN P call) {o:Oper} {ar:Nat} {r:bI} {a:Act} {v:V} (hm:mc o.op=true)
 (he:(fh P o).run call r h=.cP v ab) (k:RegRel0 E ar r a) (s:ba aA E h w) {K:Act->World->Prop} {Q:Exit->Act->World->Prop}
 (cD:∀au x w',E.le au->Rel au v x->ba aA au ab w'->Q (.panic (qF x)) a w'):o.wpIn (ca rd) 0 P a w K Q:=by
 obtain ⟨dst,op,type,pos,after,guard⟩:=o;cases op<;>simp only [mc] at hm<;>try (cases hm;done)
 all_goals simp only [fh] at he
 case panic x=>
  have ak:=dH k x;generalize (bV x).run r=vA at he ak;unfold L7 at he;cases vA<;>simp only at he<;>try (cases he;done)
  simp only [a'.cP.injEq] at he;obtain ⟨rfl,rfl⟩:=he;have B9:=ak;simp only [Rel] at ak;obtain ⟨Y,dr,fr⟩:=ak;refine ⟨fun _ _=>trivial,?_⟩;rw [qP (by intro c h;cases h)];have hex:(execOp a.eval ⟨dst,.panic x,type,pos,after,guard⟩).run P w=.halt (.panic (a.eval x)) w:=by simp only [execOp,dr,Instr.panic,Sem.run_bind];rfl
  rw [hex];exact cD E _ w (Env.le.refl E) B9 s
 case call c=>
  obtain ⟨callee,args,types⟩:=c;cases callee<;>simp only at hm<;>try (cases hm;done)
  rename_i f;simp only [sD] at he;have av:=dH k f;generalize agJ:(bV f).run r=xG at he av;cases xG<;>simp only [V.zw] at he<;>try (cases he;done)
  rotate_left
  . rename_i g cs;simp only [Rel] at av;refine ⟨fun _ _=>trivial,?_⟩;rw [qP (by intro c h;cases h)];obtain ⟨aF,first,dr,ax⟩:=av;have p8:=bh.append ax (rn k args.toList);obtain ⟨⟨fn,ik,ah⟩,aq⟩:=cf.cP _ _ _ _ _ _ aF he E w _ p8 s;have hex:execOp a.eval ⟨dst,.call ⟨.value f,args,types⟩,type,pos,after,guard⟩=callFunc g (first++args.map a.eval):=by
     simp only [execOp,resolve,dr,Deferred.ofValue,pure_bind,invoke];simp
    have e:first++args.map a.eval=(first.toList++args.toList.map a.eval).toArray:=by apply ati;simp
    rw [hex,e,vp bF ik ah];refine ⟨fun h=>by simp at h,sG.2 (aq.mono fun e w' ay=>?_)⟩;obtain ⟨au,x,rfl,al,ao,aK⟩:=ay;exact cD au x w' al ao aK
  rename_i g cs;simp only [Rel] at av;refine ⟨fun _ _=>trivial,?_⟩;rw [qP (by intro c h;cases h)];rcases av with ⟨aF,eM,dr,ax⟩ | ⟨aF,b,p,iG,ag,dr⟩
  . have p8:=(rn k args.toList).append ax;obtain ⟨⟨fn,ik,ah⟩,aq⟩:=cf.cP _ _ _ _ _ _ aF he E w _ p8 s;have hex:execOp a.eval ⟨dst,.call ⟨.value f,args,types⟩,type,pos,after,guard⟩=callFunc g (args.map a.eval++eM):=by
     simp only [execOp,resolve,dr,Deferred.ofValue,pure_bind,invoke];simp
    have e:args.map a.eval++eM=(args.toList.map a.eval++eM.toList).toArray:=by apply ati;simp
    rw [hex,e,vp bF ik ah];refine ⟨fun h=>by simp at h,sG.2 (aq.mono fun e w' ay=>?_)⟩;obtain ⟨au,x,rfl,al,ao,aK⟩:=ay;exact cD au x w' al ao aK
  . subst aF;exact absurd he (cf.XA _ _ _ _)
def oc (aA:Fr) (E:Env) (ar:Nat) (K:Act->World->Prop) (Q:Exit->Act->World->Prop):o3->Prop
 | .ok r h=>∀au bm w',E.le au->fg au ar r bm->ba aA au h w'->K bm w'
 | .cP v r h=>∀au bm w' x,E.le au->fg au ar r bm->Rel au v x->ba aA au h w'->Q (.panic (qF x)) bm w'
 | .fail=>False
theorem oc.up {aA:Fr} {E au:Env} (h:E.le au) {ar:Nat} {K:Act->World->Prop} {Q:Exit->Act->World->Prop} {x:o3} (k:oc aA E ar K Q x):oc aA au ar K Q x:=by
 cases x with
 | ok r a8=>exact fun bC a w ad=>k bC a w (h.trans ad)
 | cP v r a8=>exact fun bC a w x ad=>k bC a w x (h.trans ad)
 | fail=>exact k
theorem Vj {rd:Option Nat} {aA:Fr} {E:Env} {h:ae} {w:World} {call:dT} (bF:eg P) (cf:gN P call) (dL:g_ P call) {all:Array Oper} {i:Nat} {o:Oper} (aw:all[i]? =some o) {ar:Nat} {r:bI} {a:Act}
 (aI:eO ar o.dst=true) (k:fg E ar r a) (s:ba aA E h w) {K:Act->World->Prop} {Q:Exit->Act->World->Prop} (hw:Region.wanted o (yielded all a.tmps)=true)
 (ag:oc aA E ar K Q (Gv (mc o.op) (fh P o) (fD o.dst) call r h)):wpOpIn (ca rd) 0 P all Q i K a w:=by
 simp only [wpOpIn,aw,hw,ar2];unfold Gv at ag;cases aW:(fh P o).run call r h with
 | fail=>rw [aW] at ag;exact ag.elim
 | val v aa=>
   rw [aW] at ag;exact QR bF cf dL aW k.toRegRel0 s fun au x w' al ao aK=>ag au _ w' al ((k.mono al).put aI ao) aK
 | cP v aa=>
   rw [aW] at ag;simp only at ag;cases hm:mc o.op with
   | false=>rw [hm] at ag;exact ag.elim
   | true=>
     rw [hm] at ag;exact QO bF cf hm aW k.toRegRel0 s fun au x w' al ao aK=>ag au a w' x al (k.mono al) ao aK
theorem Xe {rd:Option Nat} {aA:Fr} {E:Env} {h:ae} {w:World} {all:Array Oper} {i:Nat} {o:Oper} (aw:all[i]? =some o) {ar:Nat} {r:bI} {a:Act}
 (aI:eO ar o.dst=true) (k:fg E ar r a) (s:ba aA E h w) {K:Act->World->Prop} {Q:Exit->Act->World->Prop} (hw:Region.wanted o (yielded all a.tmps)=false)
 (ag:oc aA E ar K Q (.ok ((fD o.dst).run r (.tuple [])) h)):wpOpIn (ca rd) 0 P all Q i K a w:=by
 simp only [wpOpIn,aw,hw,arK,ar5];exact ⟨fun _ _=>trivial,ag E _ w (Env.le.refl E) (k.put aI (by simp only [Rel];exact ⟨#[],rfl,rfl⟩)) s⟩
theorem Gu {rd:Option Nat} {aA:Fr} {E:Env} {h:ae} {w:World} {call:dT} (bF:eg P) (cf:gN P call) (dL:g_ P call) {all:Array Oper} {i:Nat} {o:Oper} (aw:all[i]? =some o) {ar:Nat} {r:bI} {a:Act}
 (aI:eO ar o.dst=true) (k:fg E ar r a) (s:ba aA E h w) {K:Act->World->Prop} {Q:Exit->Act->World->Prop}
 (ag:oc aA E ar K Q ((zy P ar all o).run call r h)):wpOpIn (ca rd) 0 P all Q i K a w:=by
 unfold zy at ag;cases aF:o.guard with
 | none=>
   rw [aF] at ag;exact Vj bF cf dL aw aI k s (by simp [Region.wanted,aF]) ag
 | some oI=>
   obtain ⟨j,want⟩:=oI;rw [aF] at ag;simp only at ag;cases bp:all[j]? with
   | none=>rw [bp] at ag;exact ag.elim
   | some g=>
     rw [bp] at ag;simp only at ag;cases iT:g.dst with
     | none=>rw [iT] at ag;exact ag.elim
     | some d=>
       rw [iT] at ag;simp only at ag;cases aq:(Nat.blt d ar&&Nat.ble d top) with
       | false=>rw [aq] at ag;exact ag.elim
       | true=>
         rw [aq] at ag;simp only [aru,Sf,pe] at ag;simp only [arp,arS,arH] at aq;obtain ⟨g1,g2⟩:=Ju k.toRegRel0 bp iT aq.1 aq.2;cases bt:T.get .bad (az d) r<;>rw [bt] at ag<;>simp only at ag<;>try (exact ag.elim)
         . rename_i b;have a6:=g1 b bt;cases ah:(bif want then b else !b) with
           | true=>
             rw [ah] at ag;simp only [aru] at ag;refine Vj bF cf dL aw aI k s ?_ ag;simp only [Region.wanted,aF,a6];cases want<;>cases b<;>simp_all
           | false=>
             rw [ah] at ag;simp only [arB] at ag;refine Xe aw aI k s ?_ ag;simp only [Region.wanted,aF,a6];cases want<;>cases b<;>simp_all
         . rename_i af;have a6:=g2 af bt;refine Xe aw aI k s ?_ ag;simp only [Region.wanted,aF,a6];rfl
theorem lY.list {E:Env} {v:V} {ds:List Deferred} (k:lY E v ds):n1 E v.list ds:=by
 cases v<;>first
  | exact k
theorem alW {rd:Option Nat} {aA:Fr} {E:Env} {h:ae} {w:World} {call:dT} (bF:eg P) (cf:gN P call) (dL:g_ P call) {all:Array Oper} {i:Nat} {o:Oper} (aw:all[i]? =some o) {ar:Nat} {r:bI} {a:Act}
 (aD:rd=none\/LN o=true) (k:fg E ar r a) (s:ba aA E h w) {K:Act->World->Prop} {Q:Exit->Act->World->Prop}
 (ag:oc aA E ar K Q ((Gt P ar all o).run call r h)):wpOpIn (ca rd) 0 P all Q i K a w:=by
 unfold Gt at ag;cases aI:eO ar o.dst with
 | false=>rw [aI] at ag;exact ag.elim
 | true=>
   rw [aI] at ag;simp only [aru] at ag;obtain ⟨dst,op,type,pos,after,guard⟩:=o;cases op with
   | defer c=>
     rcases aD with rfl | aD
     case inr=>cases aD
     simp only at ag;cases guard with
     | some _=>exact ag.elim
     | none=>
       simp only at ag;obtain ⟨callee,args,types⟩:=c;simp only [QX] at ag;cases callee<;>simp only at ag<;>try (exact ag.elim)
       rename_i f;unfold QY at ag;have av:=dH k.toRegRel0 f;generalize (bV f).run r=xG at ag av;cases xG<;>simp only at ag<;>try (exact ag.elim)
       rename_i g cs;cases a6:Nat.beq g dB with
       | true=>rw [a6] at ag;exact ag.elim
       | false=>
         rw [a6] at ag;simp only [arB] at ag;have SQ:g≠dB:=fun e=>by rw [e] at a6;exact absurd a6 (by decide)
         simp only [Rel] at av;rcases av with ⟨_,eM,dr,ax⟩ | ⟨aF,_⟩
         case inr=>exact absurd aF SQ
         simp only [wpOpIn,aw,Region.wanted,ar2];refine ⟨fun _ _=>trivial,?_⟩;have hex:((Oper.mk dst (.defer ⟨.value f,args,types⟩) type pos after none).semAt (ca none).round a.eval).run P w=.ok (.defer {target:=.fn (.func g) eM,args:=#[]++args.map a.eval}) w:=by simp only [Oper.semAt_none,execOp,resolve,dr,Deferred.ofValue,pure_bind];rfl
         rw [hex];refine ag E _ w (Env.le.refl E) (fg.put ?_ aI (by simp only [Rel];exact ⟨#[],rfl,rfl⟩)) s;refine ⟨⟨k.size,fun t aG=>?_⟩,?_⟩
         rotate_left
         . rw [T.ih,arz rfl];simp only [lY,n1];refine ⟨_,_,rfl,⟨SQ,eM,rfl,?_⟩,k.defers.list⟩;have:=(rn k.toRegRel0 args.toList).append ax;simpa using this
         . rw [T.ih,arw (fun e=>xm aG e.symm)];exact k.an t aG
   | binOp op t x y u=>
     simp only at ag;cases guard with
     | some g=>exact Gu bF cf dL aw aI k s ag
     | none=>
       simp only at ag;cases l7:xq P op t with
       | none=>rw [l7] at ag;exact Gu bF cf dL aw aI k s ag
       | some neg=>
         rw [l7] at ag;simp only [VL] at ag;cases ay:jL h ((bV x).run r) ((bV y).run r) with
         | none=>rw [ay] at ag;exact Gu bF cf dL aw aI k s ag
         | some b=>
           rw [ay] at ag;simp only [wpOpIn,aw,Region.wanted,ar2];obtain ⟨Z,eZ,cQ⟩:=VJ (P:=P) (ji:=x) (jj:=y) s l7 ay (dH k.toRegRel0 x) (dH k.toRegRel0 y);exact f' rfl (dd.plain s eZ cQ) fun au v w' al ao aK=>ag au _ w' al ((k.mono al).put aI ao) aK
   | _=>exact Gu bF cf dL aw aI k s ag
theorem Vk {rd:Option Nat} {aA:Fr} {call:dT} (bF:eg P) (cf:gN P call) (dL:g_ P call) {all:Array Oper} {ar:Nat} {Q:Exit->Act->World->Prop}:∀(l:List Oper) (i:Nat),(∀j,l[j]? =all[i+j]?)->(rd=none\/∀o ∈ l,LN o=true)->
 ∀(E:Env) (r:bI) (h:ae) (a:Act) (w:World),oc aA E ar (Q .normal) Q ((CM P ar all l).run call r h)->fg E ar r a->ba aA E h w->
 wpOpsIn (ca rd) 0 P all Q (List.range' i l.length) a w
 | [],i,_,_,E,r,h,a,w,ag,k,s=>by simp only [CM] at ag;simp only [asd,List.range'_zero,wpOpsIn];exact ag E a w (Env.le.refl E) k s
 | o::os,i,ax,aD,E,r,h,a,w,ag,k,s=>by
   simp only [CM,Wr] at ag;have aw:all[i]? =some o:=by have:=ax 0;simpa using this.symm
   rw [arA,List.range'_succ,wpOpsIn_cons];refine alW bF cf dL aw (aD.imp id fun h=>h o (by simp)) k s ?_;cases aa:(Gt P ar all o).run call r h with
   | fail=>rw [aa] at ag;exact ag
   | cP v bH rC=>rw [aa] at ag;exact ag
   | ok bH rC=>
     rw [aa] at ag;simp only at ag;intro au bm w' al ao aK;refine Vk bF cf dL os (i+1) (fun j=>?_) (aD.imp id fun h b9 hq=>h b9 (by simp [hq])) au bH rC bm w' (ag.up al) ao aK;have:=ax (j+1);simp only [ash] at this;rw [this];congr 1;omega
end
theorem Rw {a b:V} (h:EF a b=true):a=b:=by
 cases a<;>cases b<;>simp only [EF] at h<;>first
  | rfl
  | (cases h;done)
  | (rename_i x y;cases x<;>cases y<;>simp_all;done)
  | (rename_i k x l y
     simp only [arp] at h;have aa:=ux h.1;have ad:=h.2;rw [mE,as3] at ad;rw [aa,ad];done)
  | (rw [vX,as3] at h;rw [h];done)
  | (simp only [arp,arZ] at h
     obtain ⟨aa,ad,aH,bw⟩:=h;rw [aM.mE aa,ad,aH,bw];done)
  | (simp only [arp,arZ] at h
     rw [aM.mE h.1,h.2];done)
  | (rw [aM.mE h];done)
  | (simp only [arp,arZ,List.isEmpty_iff] at h
     obtain ⟨aa,ad,aH⟩:=h;rw [aa,ad,aH];done)
  | (simp only [arp,List.isEmpty_iff] at h
     rw [h.1,h.2];done)
theorem Jg {f:V->V->Bool} (av:∀a b,f a b=true->a=b):∀{a b:List V},yo f a b=true->a=b
 | [],[],_=>rfl
 | [],_::_,h=>by cases h
 | _::_,[],h=>by cases h
 | a::x,b::y,h=>by
   simp only [yo] at h;cases aa:f a b with
   | false=>rw [aa] at h;cases h
   | true=>
     rw [aa] at h;rw [av a b aa,Jg av h]
theorem ZN {c x:Bool} (h:(bif c then x else false)=true):c=true/\x=true:=by
 cases c with
 | false=>cases h
 | true=>exact ⟨rfl,h⟩
theorem Rx:∀(d:Nat) (a b:V),we d a b=true->a=b
 | 0,a,b,h=>Rw h
 | d+1,a,b,h=>by
   have bc:=Rx d;cases a<;>simp only [we] at h<;>first
    | exact Rw h
    | (cases b<;>simp only at h<;>first
        | (cases h;done)
        | rfl
        | (rw [Jg bc h];done)
        | (obtain ⟨aa,ad⟩:=ZN h
           rw [arZ] at aa;rw [aa]
           first
            | rw [Jg bc ad]
            | rw [bc _ _ ad]))
theorem Jh {a b:V} (h:Bj a b=true):a=b:=Rx 5 a b h
theorem A0 (m i:Nat):fO m i=m.testBit i:=by
 rw [Nat.testBit_eq_decide_div_mod_eq];unfold fO;have e:Nat.mod (Nat.shiftRight m i) 2=m / 2 ^ i % 2:=by show (m >>> i) % 2=_;rw [Nat.shiftRight_eq_div_pow]
 rw [e,ass,arZ,arF]
theorem Ly {d_:List Nat} {i:Nat}:∀{es:List Edge},fO (u' d_ es) i=true->∃e ∈ es,vY e=true/\(e.on=i\/fO ((d_[e.on]?).getD 0) i=true)
 | [],h=>by simp [u',A0] at h
 | e::es,h=>by
   simp only [u'] at h;cases ah:vY e with
   | false=>
     rw [ah] at h;obtain ⟨cF,aa,ad⟩:=Ly (es:=es) h;exact ⟨cF,by simp [aa],ad⟩
   | true=>
     rw [ah] at h;simp only [aru,A0] at h;have ab:((1 <<< e.on||| (d_[e.on]?).getD 0)||| u' d_ es).testBit i=true:=h;rw [Nat.testBit_or,Nat.testBit_or,asF,asF] at ab;rcases ab with (aa | aa) | aa
     . refine ⟨e,by simp,ah,.inl ?_⟩;rw [Nat.testBit_shiftLeft] at aa;simp only [arp,arF] at aa;have:=aa.2;rw [Nat.testBit_one_eq_true_iff_self_eq_zero] at this;omega
     . exact ⟨e,by simp,ah,.inr (by rw [A0];exact aa)⟩
     . rw [<-A0] at aa;obtain ⟨cF,al,ao⟩:=Ly (es:=es) aa;exact ⟨cF,by simp [al],ao⟩
def q0 (ops:Array Oper) (L:Nat->Prop):Prop:=∀k o e,L k->ops[k]? =some o->e ∈ o.after.toList->vY e=true->L e.on
theorem Cz {ops:Array Oper} {L:Nat->Prop} (Bx:q0 ops L):∀(os:List Oper) (d_:List Nat),(∀j,os[j]? =ops[d_.length+j]?)->
 (∀k m i,d_[k]? =some m->fO m i=true->L k->L i)->∀k m i,(eK d_ os)[k]? =some m->fO m i=true->L k->L i
 | [],d_,_,h,k,m,i,aB,ah,c'=>h k m i aB ah c'
 | o::os,d_,pv,h,k,m,i,aB,ah,c'=>by
   simp only [eK] at aB;refine Cz Bx os (d_++[u' d_ o.after.toList]) (fun j=>?_) (fun k m i aB ah c'=>?_) k m i aB ah c'
   . have:=pv (j+1);simp only [ash] at this;rw [this];congr 1;simp;omega
   . by_cases aS:k<d_.length
     . rw [arI aS] at aB;exact h k m i aB ah c'
     . rw [arJ (by omega)] at aB;have uJ:k-d_.length=0:=by
        cases bk:k-d_.length with
        | zero=>rfl
        | succ n=>rw [bk] at aB;simp at aB
       rw [uJ] at aB;simp only [arG,arq] at aB;subst aB;have Fu:k=d_.length:=by omega
       have aW:ops[k]? =some o:=by have:=pv 0;simp only [arG,asB] at this;rw [Fu];exact this.symm
       obtain ⟨e,he,JL,hY⟩:=Ly ah;have St:=Bx k o e c' aW he JL;rcases hY with rfl | hY
       . exact St
       . cases hm:d_[e.on]? with
         | none=>rw [hm] at hY;simp [A0] at hY
         | some dj=>rw [hm] at hY;exact h e.on dj i hm hY St
theorem qW {f:Nat->Nat->Oper->Bool}:∀{k:Nat} {ms:List Nat} {os:List Oper},nZ f k ms os=true->∀j o,os[j]? =some o->∃m,ms[j]? =some m/\f (k+j) m o=true
 | _,_,[],_,j,o,h=>by simp at h
 | _,[],_::_,h,_,_,_=>by cases h
 | k,m::ms,b9::os,h,j,o,aW=>by
   simp only [nZ,arp] at h;cases j with
   | zero=>simp only [arG,arq] at aW;subst aW;exact ⟨m,rfl,h.1⟩
   | succ j=>
     obtain ⟨dj,aa,ad⟩:=qW h.2 j o (by simpa using aW);exact ⟨dj,by simpa using aa,by rw [show k + (j+1)=k+1+j from by omega];exact ad⟩
theorem Nk {f:Nat->Nat->Oper->Bool}:∀{k:Nat} {ms:List Nat} {os:List Oper},ms.length=os.length->(∀j m o,ms[j]? =some m->os[j]? =some o->f (k+j) m o=true)->nZ f k ms os=true
 | _,[],[],_,_=>rfl
 | _,[],_::_,h,_=>by simp at h
 | _,_::_,[],h,_=>by simp at h
 | k,m::ms,o::os,h,av=>by simp only [nZ,arp];refine ⟨av 0 m o rfl rfl,Nk (by simpa using h) fun j dj b9 aa ad=>?_⟩;have:=av (j+1) dj b9 (by simpa using aa) (by simpa using ad);rw [show k+1+j=k + (j+1) from by omega];exact this
theorem Lz:∀(os:List Oper) (d_:List Nat),(eK d_ os).length=d_.length+os.length
 | [],d_=>rfl
 | o::os,d_=>by simp [eK,Lz os];omega
section
variable {P:Program}
theorem QQ {o:Oper} {call:dT} {r:bI} {h ab:ae} {v:V} (ay:eV P o.op=false) (he:(fh P o).run call r h=.val v ab):ab=h:=by
 obtain ⟨dst,op,type,pos,after,guard⟩:=o;cases op<;>simp only [eV] at ay<;>try (cases ay;done)
 all_goals simp only [fh] at he
 case convert s d x=>
  unfold re at he;cases aU:bd P s with
  | none=>rw [aU] at he;cases he
  | some vq=>
    cases aI:bd P d with
    | none=>rw [aI] at ay;cases ay
    | some pa=>
      rw [aU,aI] at he;rw [aI] at ay;simp only at he ay;cases hu:pa.bl with
      | int k=>
        rw [hu] at he;obtain ⟨br,n,_,aa⟩:=tt he;simp only [a'.val.injEq] at aa;exact aa.2.symm
      | slice e=>rw [hu] at ay;cases ay
      | string=>
        rw [hu] at he;simp only at he
        have other:∀x:V,(match x with
         | .str s=>a'.val (.str s) h
         | .int _ n=>.val (.str (Utf8.encode n).data.toList) h
         | _=>.fail)=.val v ab->ab=h:=by
         intro x he;cases x<;>simp only at he<;>first
          | (cases he;done)
          | (simp only [a'.val.injEq] at he;exact he.2.symm)
        cases mP:vq.bl with
        | slice e=>
          rw [mP] at he;simp only at he;cases cq:bd P e with
          | none=>rw [cq] at he;cases he
          | some bg=>
            rw [cq] at he;simp only at he;have an1:∀b off len,vu b off len h=.val v ab->ab=h:=by
             intro b off len he;unfold vu at he;cases aF:h.get b<;>rw [aF] at he<;>simp only [b6.pL] at he<;>try (cases he;done)
             all_goals
              obtain ⟨_,ad⟩:=kh he;cases agE:oU (hK _ off len)<;>rw [agE] at ad<;>first
               | (cases ad;done)
               | (simp only [a'.val.injEq] at ad;exact ad.2.symm)
            cases eJ:bg.bl with
            | int Ck=>
              rw [eJ] at he;cases Ck<;>simp only at he<;>try (cases he;done)
              simp only [uu] at he;cases ak:(bV x).run r<;>rw [ak] at he<;>simp only at he<;>first
               | (cases he;done)
               | exact an1 _ _ _ he
               | (simp only [a'.val.injEq] at he;exact he.2.symm)
            | _=>rw [eJ] at he;cases he
        | _=>rw [mP] at he;exact other _ he
      | _=>rw [hu] at he;cases he
 case call c=>
  obtain ⟨callee,args,types⟩:=c;cases callee<;>simp only at ay<;>try (cases ay;done)
  rename_i b;simp only [sD] at he;cases b<;>simp only at ay<;>try (cases ay;done)
  . simp only [q_] at he;cases fl:types.toList with
    | nil=>rw [fl] at he;simp [fW.none] at he
    | cons t bn=>
      cases bn with
      | cons _ _=>rw [fl] at he;simp [fW.none] at he
      | nil=>
        rw [fl] at he;simp only at he;cases aG:bd P t with
        | none=>rw [aG] at he;simp [fW.none] at he
        | some aP=>
          rw [aG] at he;rw [fl] at ay;simp only [K9,aG] at ay;simp only [ay,arB] at he
          split at he
          . exact (a'.iM he).2
          . cases he
  . exact (a'.iM he).2
  . exact (a'.iM he).2
 case move=>simp only [a'.val.injEq] at he;exact he.2.symm
 case assign=>simp only [a'.val.injEq] at he;exact he.2.symm
 case pick c a b=>
  split at he
  . simp only [a'.val.injEq] at he;exact he.2.symm
  . cases he
 case makeFunc fn first eM=>
  cases fn<;>simp only at he<;>try (simp [dy.none] at he;done)
  rename_i f;cases av:(first.isEmpty&&!Nat.beq f dB)<;>rw [av] at he
  . simp only [arB] at he;cases jI:(eM.isEmpty&&!Nat.beq f dB)<;>rw [jI] at he
    . simp [dy.none] at he
    . simp only [aru,a'.val.injEq] at he;exact he.2.symm
  . simp only [aru,a'.val.injEq] at he;exact he.2.symm
 case typeAssert x vC t ok=>
  cases aG:bd P t with
  | none=>rw [aG] at he;simp [dy.none] at he
  | some aP=>
    rw [aG] at he;simp only at he;cases ah:Nat.beq (e2 aP.bl) 5<;>rw [ah] at he
    . exact (a'.iM he).2
    . simp [dy.none] at he
 case makeInterface t x=>
  cases aG:bd P t with
  | none=>rw [aG] at he;simp [dy.none] at he
  | some aP=>
    rw [aG] at he;simp only at he;cases ah:Nat.beq (e2 aP.bl) 5<;>rw [ah] at he
    . simp only [arB,a'.val.injEq] at he;exact he.2.symm
    . simp [dy.none] at he
 case extract x i=>
  split at he
  . exact (a'.iM he).2
  . cases he
 all_goals exact (a'.iM he).2
theorem a'.xk {h ab:ae} {x:Option V} {v:V} (he:a'.of h x=.val v ab) (H:ae):a'.of H x=.val v H:=by rw [(a'.iM he).1];rfl
theorem QP {o:Oper} {call:dT} {r:bI} {h ab:ae} {v:V} (ay:eV P o.op=false) (ax:looks o.op=false) (he:(fh P o).run call r h=.val v ab) (H:ae):(fh P o).run call r H=.val v H:=by
 obtain ⟨dst,op,type,pos,after,guard⟩:=o;cases op<;>simp only [eV] at ay<;>try (cases ay;done)
 all_goals simp only [looks] at ax<;>try (cases ax;done)
 all_goals simp only [fh] at he ⊢
 case call c=>
  obtain ⟨callee,args,types⟩:=c;cases callee<;>simp only at ay<;>try (cases ay;done)
  rename_i b;simp only [sD] at he ⊢;cases b<;>simp only at ay<;>try (cases ay;done)
  . simp only [q_] at he ⊢;cases fl:types.toList with
    | nil=>rw [fl] at he;simp [fW.none] at he
    | cons t bn=>
      cases bn with
      | cons _ _=>rw [fl] at he;simp [fW.none] at he
      | nil=>
        rw [fl] at he;simp only at he ⊢;cases aG:bd P t with
        | none=>rw [aG] at he;simp [fW.none] at he
        | some aP=>
          rw [aG] at he;rw [fl] at ay;simp only [K9,aG] at ay;simp only [ay,arB] at he ⊢
          split at he
          . exact a'.xk he H
          . cases he
  . exact a'.xk he H
  . exact a'.xk he H
 case move=>simp only [a'.val.injEq] at he;rw [he.1]
 case assign=>simp only [a'.val.injEq] at he;rw [he.1]
 case pick c a b=>
  split at he
  . simp only [a'.val.injEq] at he;rw [he.1]
  . cases he
 case makeFunc fn first eM=>
  cases fn<;>simp only at he ⊢<;>try (simp [dy.none] at he;done)
  rename_i f;cases av:(first.isEmpty&&!Nat.beq f dB)<;>rw [av] at he
  . simp only [arB] at he ⊢;cases jI:(eM.isEmpty&&!Nat.beq f dB)<;>rw [jI] at he
    . simp [dy.none] at he
    . simp only [aru,a'.val.injEq] at he ⊢;exact ⟨he.1,trivial⟩
  . simp only [aru,a'.val.injEq] at he ⊢;exact ⟨he.1,trivial⟩
 case typeAssert x vC t ok=>
  cases aG:bd P t with
  | none=>rw [aG] at he;simp [dy.none] at he
  | some aP=>
    rw [aG] at he;simp only at he ⊢;cases ah:Nat.beq (e2 aP.bl) 5<;>rw [ah] at he
    . exact a'.xk he H
    . simp [dy.none] at he
 case makeInterface t x=>
  cases aG:bd P t with
  | none=>rw [aG] at he;simp [dy.none] at he
  | some aP=>
    rw [aG] at he;simp only at he ⊢;cases ah:Nat.beq (e2 aP.bl) 5<;>rw [ah] at he
    . simp only [arB,a'.val.injEq] at he ⊢;exact ⟨he.1,trivial⟩
    . simp [dy.none] at he
 case extract x i=>
  split at he
  . exact a'.xk he H
  . cases he
 all_goals exact a'.xk he H
end
section
variable {P:Program}
def H2 (P:Program) (E:Env) (m:Sem Value) (v:V) (h ab:ae):Prop:=
 ∃k,ab=h.new k/\True/\∀w,∃X cJ,m.run P w=.ok X {w with heap:=w.heap.push cJ}/\
  ∀au,E.le au->au (az h.next)=some ⟨w.heap.size,0,0⟩->Rel au v X/\∀B,B<=w.heap.size->fF B au {w with heap:=w.heap.push cJ} (az h.next) k
theorem Gc {E:Env} {h ab:ae} {af:List V} {l:List Value} (ax:bh E af l) (he:gh h af=some ab) (t:TypeId):
 ∃k,ab=h.new k/\True/\∀w,(newRow t l.toArray).run P w=.ok ⟨w.heap.size,0,none⟩ {w with heap:=w.heap.push (.cells l.toArray t)}/\
  ∀au,E.le au->au (az h.next)=some ⟨w.heap.size,0,0⟩->∀B,B<=w.heap.size->fF B au {w with heap:=w.heap.push (.cells l.toArray t)} (az h.next) k:=by
 unfold gh at he;obtain ⟨aq,he⟩:=eD he;rw [arH] at aq;cases he;refine ⟨_,rfl,trivial,fun w=>⟨by simp [newRow],fun au hle dP B cG=>?_⟩⟩;have:=Jo (bh.mono hle _ _ ax) aq #[]
 rw [Array.append_empty] at this;exact ⟨aq,_,_,t,(0,0),dP,cG,by simp,.inr (arv _),fun _=>rfl,fun h=>absurd rfl h,this⟩
theorem Z0 {E:Env} {h ab:ae} {t:TypeId} {n:Nat} {bo:List (Nat × V)} {j_:List (Nat × Value)} {v:V} (ag:sq E bo j_) (he:(vZ P t n).run bo h=.val v ab):
 H2 P E (Instr.buildSlice t n j_.toArray) v h ab:=by
 unfold vZ at he;cases aG:bd P t with
 | none=>rw [aG] at he;cases he
 | some aP=>
   rw [aG] at he;simp only at he;have hu:=fv aG;cases bW:aP.bl with
   | slice e=>
     rw [bW] at he hu;simp only at he;cases cq:bd P e with
     | none=>rw [cq] at he;cases he
     | some bg=>
       rw [cq] at he;simp only at he;cases bk:bg.zero with
       | none=>rw [bk] at he;cases he
       | some z=>
         rw [bk] at he;simp only at he;cases aq:(Nat.ble (n * bg.size) 1000000&&Nat.beq z.cells.length bg.size) with
         | false=>rw [aq] at he;cases he
         | true=>
           rw [aq] at he;simp only [aru] at he;simp only [arp,arH,arZ] at aq;cases av:nt (fun i=>some (i * bg.size,bg.size)) (iN z.cells n) bo with
           | none=>rw [av] at he;cases he
           | some cs=>
             rw [av] at he;simp only at he;cases aV:gh h cs with
             | none=>rw [aV] at he;cases he
             | some aa=>
               rw [aV] at he;simp only [a'.val.injEq] at he;obtain ⟨rfl,rfl⟩:=he;obtain ⟨x,ak,px,py⟩:=tS (P:=P) (E:=E) cq bk ⟨#[],fun _ _=>0,0,default,#[]⟩;have s9:x.cells.size=bg.size:=by rw [py,aq.2]
               have s7:=zK px n;rw [s9] at s7;obtain ⟨b,kT,p_⟩:=Bo (a:=(Array.range (n * bg.size)).map (x.cells[· % x.cells.size]!)) ag (by rw [s9];exact s7) av;obtain ⟨k,g1,g2,g3⟩:=Gc (P:=P) p_ aV e;refine ⟨k,g1,g2,fun w=>⟨.slice (some ⟨w.heap.size,0,none⟩) n n,.cells b e,?_,fun au hle dP=>⟨?_,?_⟩⟩⟩
               . have wO:¬16777216<n * bg.size:=by omega
                 have kW:(newRow e b).run P w=.ok ⟨w.heap.size,0,none⟩ {w with heap:=w.heap.push (.cells b e)}:=by simpa using (g3 w).1
                 by_cases aY:n * bg.size=0
                 . have JJ:Instr.fill (fun i=>some (i * bg.size,bg.size)) ((Array.range (n * bg.size)).map ((#[]:Array Value)[· % 0]!)) j_=some b:=by
                    have aJ:(Array.range (n * bg.size)).map ((#[]:Array Value)[· % 0]!)=(Array.range (n * bg.size)).map (x.cells[· % x.cells.size]!):=by rw [aY];simp
                    rw [aJ];exact kT
                   have JK:Instr.fill (fun i=>some (i * bg.size,bg.size)) ((Array.range (n * bg.size)).map (fun x=>(#[]:Array Value)[x % (#[]:Array Value).size]!)) j_=some b:=JJ;simp only [Instr.buildSlice,Sem.run_bind,hu,Result.andThen_ok,kb cq,Sem.run_ite];rw [arw wO];simp only [Sem.run_pure,Result.andThen_ok,arz aY];rw [JK];simp only [Sem.run_bind,kW,Result.andThen_ok,Sem.run_pure]
                 . simp only [Instr.buildSlice,Sem.run_bind,hu,Result.andThen_ok,kb cq,Sem.run_ite];rw [arw wO];simp only [Sem.run_pure,Result.andThen_ok,arw aY,ak];rw [kT];simp only [Sem.run_bind,kW,Result.andThen_ok,Sem.run_pure]
               . simp only [Rel];exact ⟨_,dP,arv _,by simp⟩
               . simpa using (g3 w).2 au hle dP
   | _=>rw [bW] at he;cases he
theorem akz {E:Env} {h ab:ae} {t:TypeId} {x y v:V} {X Y:Value} (ak:Rel E x X) (a6:Rel E y Y) (he:(xc P t).run x y h=.val v ab):
 H2 P E (Instr.makeSlice t X Y) v h ab:=by
 unfold xc at he;cases aG:bd P t with
 | none=>rw [aG] at he;cases he
 | some aP=>
   rw [aG] at he;simp only at he;have hu:=fv aG;cases bW:aP.bl with
   | slice e=>
     rw [bW] at he hu;simp only at he;cases cq:bd P e with
     | none=>rw [cq] at he;cases he
     | some bg=>
       rw [cq] at he;simp only at he;cases bk:bg.zero with
       | none=>rw [bk] at he;cases he
       | some z=>
         rw [bk] at he;simp only at he;cases wx:Nat.ble bg.bytes 4096 with
         | false=>rw [wx] at he;cases he
         | true=>
           rw [wx] at he;simp only [aru,u9] at he;obtain ⟨b3,l,rfl,yL⟩:=tt he;obtain ⟨b5,c,rfl,ej⟩:=tt yL;have:=ak.iW;subst this;have:=a6.iW;subst this;obtain ⟨aq,qc⟩:=kh ej;simp only [arp,pE,arF,arZ] at aq;obtain ⟨⟨aY,aa,ad⟩,aH⟩:=aq;rw [arH] at wx;cases aV:gh h (iN z.cells c.toNat) with
           | none=>rw [aV] at qc;cases qc
           | some a8=>
             rw [aV] at qc;simp only [a'.val.injEq] at qc;obtain ⟨rfl,rfl⟩:=qc;obtain ⟨lV,wZ,px,py⟩:=tS (P:=P) (E:=E) cq bk ⟨#[],fun _ _=>0,0,default,#[]⟩;have s9:lV.cells.size=bg.size:=by rw [py,aH]
             have s7:=zK px c.toNat;obtain ⟨k,g1,g2,g3⟩:=Gc (P:=P) s7 aV e;have qq:IntKind.i64.wrap l=l:=by simp only [IntKind.wrap,IntKind.bits,IntKind.signed];simp;omega
             have KW:IntKind.i64.wrap c=c:=by simp only [IntKind.wrap,IntKind.bits,IntKind.signed];simp;omega
             have hmul:(bg.bytes:Int) * c<=4096 * 1000000:=by
              have ah:(bg.bytes:Int)<=4096:=by omega
              have:=Int.mul_le_mul_of_nonneg_right (c:=c) ah (by omega);omega
             refine ⟨k,g1,g2,fun w=>?_⟩;obtain ⟨i,aw,rD⟩:=G2 (P:=P) cq w;refine ⟨.slice (some ⟨w.heap.size,0,none⟩) l.toNat c.toNat,_,?_,fun au hle dP=>⟨?_,(g3 w).2 au hle dP⟩⟩
             . have kW:=(g3 w).1;simp only [asN] at kW;have bJ:¬c<0:=by omega
               have bO:¬((bg.bytes:Int) * c>281474976710656):=by omega
               have c3:¬l<0:=by omega
               have hT:¬l>c:=by omega
               have same:(if c.toNat * bg.size=0 then (Array.range (c.toNat * bg.size)).map (fun x=>(#[]:Array Value)[x % (#[]:Array Value).size]!) else (Array.range (c.toNat * bg.size)).map (fun x=>lV.cells[x % lV.cells.size]!))=
                (Array.range (c.toNat * lV.cells.size)).map (lV.cells[· % lV.cells.size]!):=by
                rw [s9];by_cases ay:c.toNat * bg.size=0
                . rw [ay];simp
                . rw [arw ay]
               simp only [Instr.makeSlice,Sem.run_bind,hu,Result.andThen_ok,asInt,asIntOf,Sem.run_pure,aw,qq,KW,rD];rw [arw (by simp only [asF,arF,not_or];exact ⟨⟨⟨bJ,bO⟩,c3⟩,hT⟩)];simp only [Result.andThen_ok,Sem.run_bind,run_askRoom,kb cq];by_cases ay:c.toNat * bg.size=0
               . rw [arz ay] at same;rw [arz ay];simp only [Sem.run_pure,Result.andThen_ok,Sem.run_bind,same,kW,asN]
               . rw [arw ay] at same;rw [arw ay];simp only [Sem.run_pure,Result.andThen_ok,Sem.run_bind,wZ,same,kW,asN]
             . simp only [Rel];exact ⟨_,dP,by omega,by simp⟩
   | _=>rw [bW] at he;cases he
theorem abV {E:Env} {h ab:ae} {call:dT} {o:Oper} {ar:Nat} {r:bI} {a:Act} {v:V} (bs:gH o=true) (he:(fh P o).run call r h=.val v ab) (k:RegRel0 E ar r a):
 ∃m:Sem Value,execOp a.eval o=(do pure (.value (<-m)))/\H2 P E m v h ab:=by
 obtain ⟨dst,op,type,pos,after,guard⟩:=o;cases op<;>simp only [gH] at bs<;>try (cases bs;done)
 all_goals simp only [fh] at he
 case alloc t=>
  refine ⟨Instr.alloc t true (.tuple #[]),rfl,?_⟩;cases aG:bd P t with
  | none=>rw [aG] at he;simp [dy.none] at he
  | some aP=>
    rw [aG] at he;simp only at he;cases bk:aP.zero with
    | none=>rw [bk] at he;simp [dy.none] at he
    | some z=>
      rw [bk] at he;simp only at he;cases aV:gh h z.cells with
      | none=>rw [aV] at he;cases he
      | some aa=>
        rw [aV] at he;simp only [gY,a'.val.injEq] at he;obtain ⟨rfl,rfl⟩:=he;obtain ⟨x,ak,px,_⟩:=tS (P:=P) (E:=E) aG bk ⟨#[],fun _ _=>0,0,default,#[]⟩;obtain ⟨cZ,g1,g2,g3⟩:=Gc (P:=P) px aV t;refine ⟨cZ,g1,g2,fun w=>⟨.pointer (some ⟨w.heap.size,0,none⟩),.cells x.cells t,?_,fun au hle dP=>⟨?_,?_⟩⟩⟩
        . have:=(g3 w).1;simp only [asN] at this;simp only [Instr.alloc,Sem.run_bind,ak,Result.andThen_ok,newVar,this,Sem.run_pure]
        . simp only [Rel];exact ⟨_,dP,by simp⟩
        . simpa using (g3 w).2 au hle dP
 case box t x=>
  refine ⟨Instr.box t (a.eval x),rfl,?_⟩;obtain ⟨aF,he⟩:=kh he;cases aV:gh h ((bV x).run r).cells with
  | none=>rw [aV] at he;cases he
  | some aa=>
    rw [aV] at he;simp only [gY,a'.val.injEq] at he;obtain ⟨rfl,rfl⟩:=he;have ax:=(dH k x).cells (fun e=>by rw [e] at aF;cases aF);obtain ⟨cZ,g1,g2,g3⟩:=Gc (P:=P) ax aV t;refine ⟨cZ,g1,g2,fun w=>⟨.pointer (some ⟨w.heap.size,0,none⟩),.cells (a.eval x).cells t,?_,fun au hle dP=>⟨?_,?_⟩⟩⟩
    . have:=(g3 w).1;simp only [asN] at this;simp only [Instr.box,Sem.run_bind,newVar,this,Result.andThen_ok,Sem.run_pure]
    . simp only [Rel];exact ⟨_,dP,by simp⟩
    . simpa using (g3 w).2 au hle dP
 case buildSlice t n bo=>
  refine ⟨Instr.buildSlice t n (bo.map fun (i,x)=>(i,a.eval x)),rfl,?_⟩;rw [L8];exact Z0 (Gy k bo.toList) he
 case makeSlice t l c=>exact ⟨Instr.makeSlice t (a.eval l) (a.eval c),rfl,akz (dH k l) (dH k c) he⟩
 case makeMap t x=>
  cases x with
  | some _=>cases bs
  | none=>
    refine ⟨Instr.makeMap t none,rfl,?_⟩;simp only [rX,zk] at he;cases aG:bd P t with
    | none=>rw [aG] at he;cases he
    | some aP=>
      rw [aG] at he;simp only at he;cases ah:Nat.beq (e2 aP.bl) 3 with
      | false=>rw [ah] at he;cases he
      | true=>
        rw [ah] at he;simp only [aru,rS,tp] at he;simp only [a'.val.injEq] at he;obtain ⟨rfl,rfl⟩:=he;refine ⟨_,rfl,trivial,fun w=>⟨.map (some w.heap.size),.map #[] 0,?_,fun au hle dP=>⟨?_,fun B cG=>?_⟩⟩⟩
        . simp only [Instr.makeMap,Sem.run_bind,run_newObj,Result.andThen_ok,Sem.run_pure]
        . simp only [Rel];exact ⟨_,dP,rfl⟩
        . exact ⟨_,#[],dP,cG,by simp,rfl⟩
def Fr.hold (F:Fr) (b:aM) (k:b6):Fr:=⟨F.w,fun bR=>if bR=b then some k else F.hz bR⟩
def Fr.free (F:Fr) (b:aM):Fr:=⟨F.w,fun bR=>if bR=b then none else F.hz bR⟩
theorem ba.hold {F:Fr} {E:Env} {h:ae} {w:World} (s:ba F E h w) (k:b6):ba (F.hold (az h.next) k) E (h.new k) w:=by
 have dJ:=s.fresh h.next (arv _)
 refine ⟨fun b ah=>?_,fun b br aB=>?_,fun b bR p p' aa ad aJ aR jG=>?_,fun i aw=>s.fresh i (Nat.le_of_succ_le aw),s.frame,s.laid,fun b p n cs st aa aJ=>s.base b p n cs st (by
  have dp:az h.next≠b:=fun e=>by rw [<-e,dJ] at aJ;cases aJ
  rwa [ae.ig,arw dp] at aa) aJ⟩
 . simp only [Fr.hold] at ah;by_cases ay:b=az h.next
   . rw [arz ay] at ah;cases ah
   . rw [arw ay] at ah;rw [ae.ig,arw (fun e=>ay e.symm)];exact s.aZ b ah
 . simp only [Fr.hold] at aB;by_cases ay:b=az h.next
   . rw [arz ay] at aB;cases aB;exact ⟨by rw [ae.ig,arz ay.symm],by rw [ay];exact dJ,h.next,Nat.lt_succ_self _,ay⟩
   . rw [arw ay] at aB;obtain ⟨al,ao,i,aK,bG⟩:=s.oP b br aB;exact ⟨by rw [ae.ig,arw (fun e=>ay e.symm)];exact al,ao,i,Nat.lt_succ_of_lt aK,bG⟩
 . have dp:az h.next≠b:=fun e=>by rw [<-e,dJ] at aJ;cases aJ
   have fZ:az h.next≠bR:=fun e=>by rw [<-e,dJ] at aR;cases aR
   rw [ae.ig,arw dp] at aa;rw [ae.ig,arw fZ] at ad;exact s.inj b bR p p' aa ad aJ aR jG
theorem ba.link {F:Fr} {E:Env} {h:ae} {w:World} (s:ba F E h w) {b:aM} {k:b6} (ag:F.hz b=some k) {o:Obj}
 (mO:fF F.w.heap.size (E.put b ⟨w.heap.size,0,0⟩) {w with heap:=w.heap.push o} b k):
 E.le (E.put b ⟨w.heap.size,0,0⟩)/\ba (F.free b) (E.put b ⟨w.heap.size,0,0⟩) h {w with heap:=w.heap.push o}:=by
 obtain ⟨aB,dJ,i0,wI,wv⟩:=s.oP b k ag;have hle:E.le (E.put b ⟨w.heap.size,0,0⟩):=Env.mX dJ;have dP:E.put b ⟨w.heap.size,0,0⟩ b=some ⟨w.heap.size,0,0⟩:=by unfold Env.put;rw [arz rfl]
 have hold:∀bR,bR≠b->E.put b ⟨w.heap.size,0,0⟩ bR=E bR:=by intro bR ah;unfold Env.put;rw [arw ah]
 have po:∀bR q,E bR=some q->(h.get bR)≠.dead->q.aZ<w.heap.size:=by
  intro bR q ay aI;have ah:=s.at ay;cases aF:h.get bR with
  | dead=>exact absurd aF aI
  | view n cs=>rw [aF] at ah;obtain ⟨_,fc,c,el,b2,e,_,a8,_⟩:=ah;rw [e] at ay;cases ay;exact (art.1 a8).1
  | cells n cs cL st=>rw [aF] at ah;obtain ⟨_,fc,c,el,b2,e,_,a8,_⟩:=ah;rw [e] at ay;cases ay;exact (art.1 a8).1
  | iter st pos=>rw [aF] at ah;obtain ⟨fc,e,_,_,a8⟩:=ah;rw [e] at ay;cases ay;exact (art.1 a8).1
  | mp es clock=>rw [aF] at ah;obtain ⟨fc,a,e,_,a8,_⟩:=ah;rw [e] at ay;cases ay;exact (art.1 a8).1
  | ft l=>rw [aF] at ah;obtain ⟨fc,a,e,_,a8,_⟩:=ah;rw [e] at ay;cases ay;exact (art.1 a8).1
  | hH=>rw [aF] at ah;obtain ⟨fc,e,_,a8⟩:=ah;rw [e] at ay;cases ay;exact (art.1 a8).1
  | hO es=>rw [aF] at ah;obtain ⟨fc,a,c,l,e,_,a8,_⟩:=ah;rw [e] at ay;cases ay;exact (art.1 a8).1
  | gW src since seen last=>rw [aF] at ah;obtain ⟨fc,m,a,e,_,_,a8,_⟩:=ah;rw [e] at ay;cases ay;exact (art.1 a8).1
 refine ⟨hle,fun bR ho=>?_,fun bR br gn=>?_,fun cc cj ck cB aa ad aJ aR jG=>?_,fun i aw=>?_,⟨s.frame.os,s.frame.tape,s.frame.output,?_,fun j bp=>?_⟩,s.laid,fun cc ck n cs st aa aJ=>by
  by_cases bJ:cc=b
  . subst bJ;rw [dP] at aJ;cases aJ;rfl
  . rw [hold cc bJ] at aJ;exact s.base _ _ _ _ _ aa aJ⟩
 . by_cases ay:bR=b
   . subst ay;rw [aB];exact mO
   . simp only [Fr.free,arw ay] at ho;have aY:=(s.aZ bR ho).mono hle;by_cases aI:h.get bR=.dead
     . rw [aI];trivial
     . refine fF.e1 aY fun q pw=>?_;rw [hold bR ay] at pw;have:=po bR q pw aI;simp only [atv];rw [arw (by omega)]
 . simp only [Fr.free] at gn;by_cases ay:bR=b
   . rw [arz ay] at gn;cases gn
   . rw [arw ay] at gn;obtain ⟨al,ao,aK⟩:=s.oP bR br gn;exact ⟨al,by rw [hold bR ay];exact ao,aK⟩
 . by_cases bJ:cc=b<;>by_cases bO:cj=b
   . exact bJ.trans bO.symm
   . subst bJ;rw [dP] at aJ;cases aJ;rw [hold cj bO] at aR;have:=po cj cB aR (fun e=>by rw [e] at ad;cases ad);simp only at jG;omega
   . subst bO;rw [dP] at aR;cases aR;rw [hold cc bJ] at aJ;have:=po cc ck aJ (fun e=>by rw [e] at aa;cases aa);simp only at jG;omega
   . rw [hold cc bJ] at aJ;rw [hold cj bO] at aR;exact s.inj cc cj ck cB aa ad aJ aR jG
 . rw [hold _ (fun e=>?_)]
   . exact s.fresh i aw
   . rw [wv] at e;have:=h5 e;omega
 . have:=s.frame.size;simp only [Array.size_push,Fr.free];omega
 . have aa:=s.frame.size;simp only [Fr.free,atv];rw [arw (by simp only [Fr.free] at bp;omega)];exact s.frame.block j bp
end
section
variable {P:Program}
def eo (es:List eR) (c4:bI) (i:Nat):bI:=
 match es[i]? with
 | some e=>e.r
 | none=>c4
theorem yM (e:eR) (es:List eR) (av:ae) (i:Nat):cg (e::es) av (i+1)=cg es av i:=by simp [cg]
theorem zJ (e:eR) (es:List eR) (c4:bI) (i:Nat):eo (e::es) c4 (i+1)=eo es c4 i:=by simp [eo]
theorem vt {ar:Nat} {all:Array Oper} {call:dT}:∀{l:List Oper} {r c4:bI} {h av:ae} {es:List eR},(fx P ar all l).run call r h=.ok es c4 av->
 es.length=l.length/\cg es av 0=h/\eo es c4 0=r/\∀j o,l[j]? =some o->∃e,es[j]? =some e/\(cI P ar all o).run call e.r e.h=.val e.v (cg es av (j+1))/\eo es c4 (j+1)=(fD o.dst).run e.r e.v
 | [],r,c4,h,av,es,he=>by simp only [fx,qZ.ok.injEq] at he;obtain ⟨rfl,rfl,rfl⟩:=he;exact ⟨rfl,rfl,rfl,fun j o aW=>by simp at aW⟩
 | o::os,r,c4,h,av,es,he=>by
   simp only [fx,C7] at he;cases aa:(cI P ar all o).run call r h with
   | fail=>rw [aa] at he;cases he
   | cP _ _=>rw [aa] at he;simp only at he;cases hm:mc o.op<;>rw [hm] at he<;>cases he
   | val v a8=>
     rw [aa] at he;simp only at he;cases ad:(fx P ar all os).run call ((fD o.dst).run r v) a8 with
     | fail=>rw [ad] at he;cases he
     | cP _ _ _ _ _=>rw [ad] at he;cases he
     | ok hJ bH aH=>
       rw [ad] at he;simp only [qZ.ok.injEq] at he;obtain ⟨rfl,rfl,rfl⟩:=he;obtain ⟨al,ao,aK,bG⟩:=vt ad;refine ⟨by simp [al],by simp [cg],by simp [eo],fun j b9 aW=>?_⟩;cases j with
       | zero=>
         simp only [arG,arq] at aW;subst aW;exact ⟨⟨r,h,v⟩,rfl,by rw [yM,ao];exact aa,by rw [zJ,aK]⟩
       | succ j=>
         obtain ⟨e,ck,cB,eL⟩:=bG j b9 (by simpa using aW);exact ⟨e,by simpa using ck,by rw [yM];exact cB,by rw [zJ];exact eL⟩
theorem WK {ar:Nat} {all:Array Oper} {call:dT}:∀{l:List Oper} {r c4:bI} {h av ab:ae} {es:List eR} {v:V},(fx P ar all l).run call r h=.cP es c4 av v ab->
 cg es av 0=h/\eo es c4 0=r/\(∀j o,j<es.length->l[j]? =some o->∃e,es[j]? =some e/\(cI P ar all o).run call e.r e.h=.val e.v (cg es av (j+1))/\eo es c4 (j+1)=(fD o.dst).run e.r e.v)/\
  ∃o,l[es.length]? =some o/\mc o.op=true/\(cI P ar all o).run call c4 av=.cP v ab
 | [],r,c4,h,av,ab,es,v,he=>by simp [fx] at he
 | o::os,r,c4,h,av,ab,es,v,he=>by
   simp only [fx,C7] at he;cases aa:(cI P ar all o).run call r h with
   | fail=>rw [aa] at he;cases he
   | cP x ak=>
     rw [aa] at he;simp only at he;cases hm:mc o.op with
     | false=>rw [hm] at he;cases he
     | true=>
       rw [hm] at he;simp only [aru,qZ.cP.injEq] at he;obtain ⟨rfl,rfl,rfl,rfl,rfl⟩:=he;exact ⟨rfl,rfl,fun j b9 bp=>by simp at bp,o,rfl,hm,aa⟩
   | val x a8=>
     rw [aa] at he;simp only at he;cases ad:(fx P ar all os).run call ((fD o.dst).run r x) a8 with
     | fail=>rw [ad] at he;cases he
     | ok _ _ _=>rw [ad] at he;cases he
     | cP hJ bH aH v1 bw=>
       rw [ad] at he;simp only [qZ.cP.injEq] at he;obtain ⟨rfl,rfl,rfl,rfl,rfl⟩:=he;obtain ⟨ao,aK,bG,da,cK,ev,h6⟩:=WK ad;refine ⟨by simp [cg],by simp [eo],fun j b9 bp aW=>?_,da,by simpa using cK,ev,h6⟩;cases j with
       | zero=>
         simp only [arG,arq] at aW;subst aW;exact ⟨⟨r,h,x⟩,rfl,by rw [yM,ao];exact aa,by rw [zJ,aK]⟩
       | succ j=>
         obtain ⟨e,ck,cB,eL⟩:=bG j b9 (by simpa using bp) (by simpa using aW);exact ⟨e,by simpa using ck,by rw [yM];exact cB,by rw [zJ];exact eL⟩
theorem R9 {ar:Nat} {d:Option Nat} (aI:eO ar d=true) {r:bI} {v:V} {t:Nat} (aG:t<=top):T.get .bad (az t) ((fD d).run r v)=if d=some t then v else T.get .bad (az t) r:=by
 cases d with
 | none=>simp [fD]
 | some d=>
   simp only [eO,arp,arS,arH] at aI;simp only [fD,T.ih,arq];by_cases h:d=t
   . subst h;simp
   . rw [arw (fun e=>h (h5 e)),arw h]
theorem kO {ar:Nat} {all:Array Oper} {o:Oper} {call:dT} {r:bI} {h ab:ae} {v:V} (he:(cI P ar all o).run call r h=.val v ab):eO ar o.dst=true/\iX (b1 all o)=true:=by
 unfold cI at he;cases aq:(eO ar o.dst&&iX (b1 all o)) with
 | false=>rw [aq] at he;simp [dy.none] at he
 | true=>simpa using aq
theorem Hl {r:bI} {rs:List Nat} (aU:iX rs=true) {t:Nat} (aG:t<=top):T.get .bad (az t) (dt r rs)=if t ∈ rs then T.get .bad (az t) r else .bad:=by
 induction rs with
 | nil=>simp [dt]
 | cons u rs bc=>
   simp only [iX,as_,arp,arH] at aU;simp only [dt,T.ih,arM];by_cases h:u=t
   . subst h;simp
   . rw [arw (fun e=>h (h5 e)),bc aU.2];have ab:¬t=u:=fun e=>h e.symm;simp [ab]
theorem Q1 {ar:Nat} {all:Array Oper} {o:Oper} {call:dT} {r:bI} {h ab:ae} {v:V} (he:(cI P ar all o).run call r h=.cP v ab):eO ar o.dst=true/\iX (b1 all o)=true:=by
 unfold cI at he;cases aq:(eO ar o.dst&&iX (b1 all o)) with
 | false=>rw [aq] at he;simp [dy.none] at he
 | true=>simpa using aq
def H6 (aA:Fr) (E:Env) (o:Oper) (a:Act) (K:Act->World->Prop) (Q:Exit->Act->World->Prop):a'->Prop
 | .val v ab=>∀au x w',E.le au->Rel au v x->ba aA au ab w'->K (a.put o.dst x) w'
 | .cP v ab=>mc o.op=true/\∀au x w',E.le au->Rel au v x->ba aA au ab w'->Q (.panic (qF x)) a w'
 | .fail=>False
theorem Q2 {rd:Option Nat} {aA:Fr} {E:Env} {h:ae} {w:World} {call:dT} (bF:eg P) (cf:gN P call) (dL:g_ P call) {all:Array Oper} {i:Nat} {o:Oper} (aw:all[i]? =some o) {ar:Nat} {r:bI} {a:Act}
 (hp:eO ar o.dst=true/\iX (b1 all o)=true) (qn:a.tmps.size=ar) (k1:∀t ∈ b1 all o,Rel E (T.get .bad (az t) r) (a.tmps.getD t undef)) (s:ba aA E h w)
 {K:Act->World->Prop} {Q:Exit->Act->World->Prop} (ag:H6 aA E o a K Q ((cI P ar all o).run call r h)):wpOpIn (ca rd) 0 P all Q i K a w:=by
 obtain ⟨aI,aU⟩:=hp
 have k:RegRel0 E ar (dt r (b1 all o)) a:=⟨qn,fun t aG=>by
  rw [Hl aU aG];by_cases hm:t ∈ b1 all o
  . rw [arz hm];exact k1 t hm
  . rw [arw hm];simp [Rel]⟩
 unfold cI at ag;rw [show (eO ar o.dst&&iX (b1 all o))=true from by rw [aI,aU];rfl] at ag;simp only [aru] at ag;have wanted:H6 aA E o a K Q ((fh P o).run call (dt r (b1 all o)) h)->Region.wanted o (yielded all a.tmps)=true->wpOpIn (ca rd) 0 P all Q i K a w:=by
  intro aa hw;simp only [wpOpIn,aw,hw,ar2];cases aD:(fh P o).run call (dt r (b1 all o)) h with
  | fail=>rw [aD] at aa;exact aa.elim
  | val v ab=>rw [aD] at aa;exact QR bF cf dL aD k s aa
  | cP v ab=>rw [aD] at aa;exact QO bF cf aa.1 aD k s aa.2
 have Xd:H6 aA E o a K Q (.val (.tuple []) h)->Region.wanted o (yielded all a.tmps)=false->wpOpIn (ca rd) 0 P all Q i K a w:=by intro aa hw;simp only [wpOpIn,aw,hw,arK,ar5];exact ⟨fun _ _=>trivial,aa E undef w (Env.le.refl E) (by simp only [Rel];exact ⟨#[],rfl,rfl⟩) s⟩
 cases aF:o.guard with
 | none=>
   rw [aF] at ag;exact wanted ag (by simp [Region.wanted,aF])
 | some oI=>
   obtain ⟨j,want⟩:=oI;rw [aF] at ag;simp only at ag;cases bp:all[j]? with
   | none=>rw [bp] at ag;exact ag.elim
   | some g=>
     rw [bp] at ag;simp only at ag;cases iT:g.dst with
     | none=>rw [iT] at ag;exact ag.elim
     | some d=>
       rw [iT] at ag;simp only at ag;cases aq:(Nat.blt d ar&&Nat.ble d top) with
       | false=>rw [aq] at ag;exact ag.elim
       | true=>
         rw [aq] at ag;simp only [aru,jb,pe] at ag;simp only [arp,arS,arH] at aq;obtain ⟨g1,g2⟩:=Ju k bp iT aq.1 aq.2;cases bt:T.get .bad (az d) (dt r (b1 all o))<;>rw [bt] at ag<;>simp only at ag<;>try (exact ag.elim)
         . rename_i b;have a6:=g1 b bt;cases ah:(bif want then b else !b) with
           | true=>
             rw [ah] at ag;simp only [aru] at ag;refine wanted ag ?_;simp only [Region.wanted,aF,a6];cases want<;>cases b<;>simp_all
           | false=>
             rw [ah] at ag;simp only [arB] at ag;refine Xd ag ?_;simp only [Region.wanted,aF,a6];cases want<;>cases b<;>simp_all
         . rename_i af;have a6:=g2 af bt;refine Xd ag ?_;simp only [Region.wanted,aF,a6];rfl
theorem rh {rd:Option Nat} {aA:Fr} {E:Env} {h ab:ae} {w:World} {call:dT} (bF:eg P) (cf:gN P call) (dL:g_ P call) {all:Array Oper} {i:Nat} {o:Oper} (aw:all[i]? =some o) {ar:Nat} {r:bI} {a:Act} {v:V}
 (he:(cI P ar all o).run call r h=.val v ab) (qn:a.tmps.size=ar) (k1:∀t ∈ b1 all o,Rel E (T.get .bad (az t) r) (a.tmps.getD t undef)) (s:ba aA E h w)
 {K:Act->World->Prop} {Q:Exit->Act->World->Prop} (dO:∀au x w',E.le au->Rel au v x->ba aA au ab w'->K (a.put o.dst x) w'):wpOpIn (ca rd) 0 P all Q i K a w:=
 Q2 bF cf dL aw (kO he) qn k1 s (by rw [he];exact dO)
theorem acr {rd:Option Nat} {aA:Fr} {E:Env} {h ab:ae} {w:World} {call:dT} (bF:eg P) (cf:gN P call) (dL:g_ P call) {all:Array Oper} {i:Nat} {o:Oper} (aw:all[i]? =some o) {ar:Nat} {r:bI} {a:Act} {v:V}
 (he:(cI P ar all o).run call r h=.cP v ab) (hm:mc o.op=true) (qn:a.tmps.size=ar) (k1:∀t ∈ b1 all o,Rel E (T.get .bad (az t) r) (a.tmps.getD t undef)) (s:ba aA E h w)
 {K:Act->World->Prop} {Q:Exit->Act->World->Prop} (cD:∀au x w',E.le au->Rel au v x->ba aA au ab w'->Q (.panic (qF x)) a w'):wpOpIn (ca rd) 0 P all Q i K a w:=
 Q2 bF cf dL aw (Q1 he) qn k1 s (by rw [he];exact ⟨hm,cD⟩)
theorem v_ {ar:Nat} {all:Array Oper} {o:Oper} {call:dT} {r:bI} {h ab:ae} {v:V} (ay:eV P o.op=false) (he:(cI P ar all o).run call r h=.val v ab):
 ab=h/\(looks o.op=false->∀H,(cI P ar all o).run call r H=.val v H):=by
 obtain ⟨aI,aU⟩:=kO he;have c9:(eO ar o.dst&&iX (b1 all o))=true:=by rw [aI,aU];rfl
 have key:cI P ar all o=(match o.guard with
  | none=>⟨jb none (fh P o) (b1 all o)⟩
  | some (j,want)=>match all[j]? with
    | some g=>match g.dst with
      | some d=>bif Nat.blt d ar&&Nat.ble d top then ⟨jb (some (pe (az d),want)) (fh P o) (b1 all o)⟩ else dy.none
      | none=>dy.none
    | none=>dy.none):=by
  unfold cI;rw [c9];rfl
 rw [key] at he ⊢;cases aF:o.guard with
 | none=>
   rw [aF] at he;exact ⟨QQ ay he,fun ax H=>QP ay ax he H⟩
 | some oI=>
   obtain ⟨j,want⟩:=oI;rw [aF] at he;simp only at he ⊢;cases bp:all[j]? with
   | none=>rw [bp] at he;simp [dy.none] at he
   | some g=>
     rw [bp] at he;simp only at he ⊢;cases iT:g.dst with
     | none=>rw [iT] at he;simp [dy.none] at he
     | some d=>
       rw [iT] at he;simp only at he ⊢;cases aq:(Nat.blt d ar&&Nat.ble d top) with
       | false=>rw [aq] at he;simp [dy.none] at he
       | true=>
         rw [aq] at he;simp only [aru,jb] at he ⊢;cases bt:(pe (az d)).run (dt r (b1 all o))<;>rw [bt] at he<;>simp only at he ⊢<;>try (cases he;done)
         . rename_i b;cases ah:(bif want then b else !b)<;>rw [ah] at he<;>simp only [aru,arB] at he ⊢
           . simp only [a'.val.injEq] at he ⊢;exact ⟨he.2.symm,fun _ H=>⟨he.1,trivial⟩⟩
           . exact ⟨QQ ay he,fun ax H=>QP ay ax he H⟩
         . simp only [a'.val.injEq] at he ⊢;exact ⟨he.2.symm,fun _ H=>⟨he.1,trivial⟩⟩
theorem Oj {op:dy} {call:dT} {es:List eR} {av:ae} {r:bI} {v:V}:∀{ch:List Nat},D4 op call es av r v ch=true->∀s ∈ ch,∃ab,op.run call r (cg es av s)=.val v ab
 | [],_,s,h=>by simp at h
 | fU::ch,he,s,hm=>by
   simp only [D4,arp] at he;simp only [arM] at hm;rcases hm with rfl | hm
   . have aa:=he.1;cases aD:op.run call r (cg es av s) with
     | fail=>rw [aD] at aa;cases aa
     | cP _ _=>rw [aD] at aa;cases aa
     | val cl ab=>
       rw [aD] at aa;rw [Jh aa];exact ⟨ab,rfl⟩
   . exact Oj he.2 s hm
theorem Ir {ar:Nat} {all:Array Oper} {d_ aE ey:List Nat} {call:dT} {es:List eR} {av:ae}:∀{l:List Oper} {i:Nat},(sz P ar all d_ aE ey i l).run call es av=true->
 ∀j o,l[j]? =some o->looks o.op=true->eV P o.op=false->∀e,es[posOf aE (i+j)]? =some e->∀s ∈ ey,tm P d_ all.toList aE (i+j) ((d_[i+j]?).getD 0) s=true->∃ab,(cI P ar all o).run call e.r (cg es av s)=.val e.v ab
 | [],_,_,j,o,aW,_,_=>by simp at aW
 | b9::os,i,he,j,o,aW,ax,ay=>by
   simp only [sz] at he;cases j with
   | zero=>
     simp only [arG,arq] at aW;subst aW;rw [ax,ay] at he;simp only [Bool.not_false,asx,aru,arp,Ok] at he;have aa:=he.1;intro e ry s aU hm
     . rw [asB] at ry;rw [ry] at aa;exact Oj aa s (atq.2 ⟨aU,by simpa using hm⟩)
   | succ j=>
     have rest:(sz P ar all d_ aE ey (i+1) os).run call es av=true:=by
      cases aq:(looks b9.op&&!eV P b9.op) with
      | false=>rw [aq] at he;exact he
      | true=>rw [aq] at he;simp only [aru,arp] at he;exact he.2
     have:=Ir rest j o (by simpa using aW) ax ay;rw [show i + (j+1)=i+1+j from by omega];exact this
theorem zf {aE:List Nat}:∀{l:List Oper} {i j:Nat} {o:Oper},l[j]? =some o->ee P o=true->posOf aE (i+j) ∈ hN P aE i l
 | [],_,j,o,h,_=>by simp at h
 | b9::os,i,j,o,h,he=>by
   simp only [hN];cases j with
   | zero=>
     simp only [arG,arq] at h;subst h;rw [he];simp
   | succ j=>
     have:=zf (aE:=aE) (i:=i+1) (by simpa using h) he;rw [show i + (j+1)=i+1+j from by omega];cases ee P b9 with
     | true=>simp [this]
     | false=>exact this
theorem F2 {aE:List Nat}:∀{l:List Oper} {i:Nat},i+l.length ∈ hN P aE i l
 | [],_=>by simp [hN]
 | o::os,i=>by
   have:=F2 (aE:=aE) (l:=os) (i:=i+1);simp only [hN,arA];rw [show i + (os.length+1)=i+1+os.length from by omega];cases ee P o with
   | true=>simp [this]
   | false=>exact this
theorem u6 {aE:List Nat}:∀{l:List Oper} {i s:Nat},s ∈ hN P aE i l->s=i+l.length\/∃j o,l[j]? =some o/\ee P o=true/\s=posOf aE (i+j)
 | [],i,s,h=>by simp only [hN,asl] at h;exact .inl (by simpa using h)
 | o::os,i,s,h=>by
   simp only [hN] at h;have rest:s ∈ hN P aE (i+1) os->s=i + (o::os).length\/∃j b9,(o::os)[j]? =some b9/\ee P b9=true/\s=posOf aE (i+j):=by
    intro h;rcases u6 h with h | ⟨j,b9,aa,ad,aH⟩
    . exact .inl (by simp only [arA];omega)
    . exact .inr ⟨j+1,b9,by simpa using aa,ad,by rw [aH];congr 1;omega⟩
   cases aq:ee P o with
   | true=>
     rw [aq] at h;simp only [aru,arM] at h;rcases h with h | h
     . exact .inr ⟨0,o,rfl,aq,h⟩
     . exact rest h
   | false=>rw [aq] at h;exact rest h
theorem abO {c:Bool} {f:V->V->ae->a'} {x y v:V} {h ab:ae} (he:(bif c then (⟨f⟩:Af) else ⟨fun _ _ _=>.fail⟩).run x y h=.val v ab):c=true/\f x y h=.val v ab:=by
 cases c with
 | true=>exact ⟨rfl,he⟩
 | false=>cases he
theorem abW {o:Oper} {call:dT} {r:bI} {h ab:ae} {v:V} (bs:gH o=true) (he:(fh P o).run call r h=.val v ab):∃k,ab=h.new k/\True:=by
 have cells:∀{af:List V} {aa:ae},gh h af=some aa->∃k,aa=h.new k/\True:=by intro af aa he;unfold gh at he;obtain ⟨aq,he⟩:=eD he;cases he;exact ⟨_,rfl,trivial⟩
 obtain ⟨dst,op,type,pos,after,guard⟩:=o;cases op<;>simp only [gH] at bs<;>try (cases bs;done)
 all_goals simp only [fh] at he
 case alloc t=>
  cases aG:bd P t with
  | none=>rw [aG] at he;simp [dy.none] at he
  | some aP=>
    rw [aG] at he;simp only at he;cases bk:aP.zero with
    | none=>rw [bk] at he;simp [dy.none] at he
    | some z=>
      rw [bk] at he;simp only at he;cases aV:gh h z.cells with
      | none=>rw [aV] at he;cases he
      | some aa=>
        rw [aV] at he;simp only [gY,a'.val.injEq] at he;obtain ⟨_,rfl⟩:=he;exact cells aV
 case box t x=>
  obtain ⟨aF,he⟩:=kh he;cases aV:gh h ((bV x).run r).cells with
  | none=>rw [aV] at he;cases he
  | some aa=>
    rw [aV] at he;simp only [gY,a'.val.injEq] at he;obtain ⟨_,rfl⟩:=he;exact cells aV
 case buildSlice t n bo=>
  unfold vZ at he;cases aG:bd P t with
  | none=>rw [aG] at he;cases he
  | some aP=>
    rw [aG] at he;simp only at he;cases bW:aP.bl<;>rw [bW] at he<;>simp only at he<;>try (cases he;done)
    rename_i e;cases cq:bd P e with
    | none=>rw [cq] at he;cases he
    | some bg=>
      rw [cq] at he;simp only at he;cases bk:bg.zero with
      | none=>rw [bk] at he;cases he
      | some z=>
        rw [bk] at he;simp only at he;cases aq:(Nat.ble (n * bg.size) 1000000&&Nat.beq z.cells.length bg.size) with
        | false=>rw [aq] at he;cases he
        | true=>
          rw [aq] at he;simp only [aru] at he;cases av:nt (fun i=>some (i * bg.size,bg.size)) (iN z.cells n) ((vg bo.toList).run r) with
          | none=>rw [av] at he;cases he
          | some cs=>
            rw [av] at he;simp only at he;cases aV:gh h cs with
            | none=>rw [aV] at he;cases he
            | some aa=>
              rw [aV] at he;simp only [a'.val.injEq] at he;obtain ⟨_,rfl⟩:=he;exact cells aV
 case makeSlice t l c=>
  unfold xc at he
  split at he
  rotate_left
  . cases he
  split at he
  rotate_left
  . cases he
  split at he
  rotate_left
  . cases he
  split at he
  rotate_left
  . cases he
  obtain ⟨_,he⟩:=abO he;simp only [u9] at he;obtain ⟨_,_,_,he⟩:=tt he;obtain ⟨_,_,_,he⟩:=tt he;obtain ⟨_,he⟩:=kh he
  split at he
  . rename_i aV;simp only [a'.val.injEq] at he;obtain ⟨_,rfl⟩:=he;exact cells aV
  . cases he
 case makeMap t x=>
  cases x with
  | some _=>cases bs
  | none=>
    simp only [rX,zk] at he;cases aG:bd P t with
    | none=>rw [aG] at he;cases he
    | some aP=>
      rw [aG] at he;simp only at he;cases ah:Nat.beq (e2 aP.bl) 3 with
      | false=>rw [ah] at he;cases he
      | true=>
        rw [ah] at he;simp only [aru,rS,tp] at he;simp only [a'.val.injEq] at he;exact ⟨_,he.2.symm,trivial⟩
theorem ahi {o:Oper} (bs:gH o=true):eV P o.op=true:=by obtain ⟨dst,op,type,pos,after,guard⟩:=o;cases op<;>simp only [gH] at bs<;>first | (cases bs;done) | rfl
theorem Q4 {ar:Nat} {all:Array Oper} {o:Oper} {call:dT} {r:bI} {h ab:ae} {v:V} (he:(cI P ar all o).run call r h=.val v ab):
 ((fh P o).run call (dt r (b1 all o)) h=.val v ab/\∀E a,RegRel0 E ar (dt r (b1 all o)) a->Region.wanted o (yielded all a.tmps)=true)\/
 (ab=h/\∀H,(cI P ar all o).run call r H=.val v H):=by
 obtain ⟨aI,aU⟩:=kO he;have c9:(eO ar o.dst&&iX (b1 all o))=true:=by rw [aI,aU];rfl
 have key:cI P ar all o=(match o.guard with
  | none=>⟨jb none (fh P o) (b1 all o)⟩
  | some (j,want)=>match all[j]? with
    | some g=>match g.dst with
      | some d=>bif Nat.blt d ar&&Nat.ble d top then ⟨jb (some (pe (az d),want)) (fh P o) (b1 all o)⟩ else dy.none
      | none=>dy.none
    | none=>dy.none):=by
  unfold cI;rw [c9];rfl
 rw [key] at he ⊢;cases aF:o.guard with
 | none=>
   rw [aF] at he;exact .inl ⟨he,fun E a _=>by simp [Region.wanted,aF]⟩
 | some oI=>
   obtain ⟨j,want⟩:=oI;rw [aF] at he;simp only at he ⊢;cases bp:all[j]? with
   | none=>rw [bp] at he;simp [dy.none] at he
   | some g=>
     rw [bp] at he;simp only at he ⊢;cases iT:g.dst with
     | none=>rw [iT] at he;simp [dy.none] at he
     | some d=>
       rw [iT] at he;simp only at he ⊢;cases aq:(Nat.blt d ar&&Nat.ble d top) with
       | false=>rw [aq] at he;simp [dy.none] at he
       | true=>
         rw [aq] at he;simp only [aru,jb] at he ⊢;have qb:=aq;simp only [arp,arS,arH] at qb;cases bt:(pe (az d)).run (dt r (b1 all o))<;>rw [bt] at he<;>simp only at he ⊢<;>try (cases he;done)
         . rename_i b;cases ah:(bif want then b else !b)<;>rw [ah] at he<;>simp only [aru,arB] at he ⊢
           . simp only [a'.val.injEq] at he ⊢;exact .inr ⟨he.2.symm,fun H=>⟨he.1,trivial⟩⟩
           . refine .inl ⟨he,fun E a k=>?_⟩;obtain ⟨g1,_⟩:=Ju k bp iT qb.1 qb.2;have a6:=g1 b bt;simp only [Region.wanted,aF,a6];cases want<;>cases b<;>simp_all
         . simp only [a'.val.injEq] at he ⊢;exact .inr ⟨he.2.symm,fun H=>⟨he.1,trivial⟩⟩
theorem Q3 {ar:Nat} {all:Array Oper} {o:Oper} {call:dT} {r:bI} {h ab:ae} {v:V} (bs:gH o=true) (he:(cI P ar all o).run call r h=.val v ab):
 (∃k,ab=h.new k/\True)\/(ab=h/\∀H,(cI P ar all o).run call r H=.val v H):=by
 rcases Q4 he with ⟨aa,_⟩ | aa
 . exact .inl (abW bs aa)
 . exact .inr aa
theorem acp {rd:Option Nat} {F:Fr} {E:Env} {h ab H:ae} {w:World} {call:dT} {all:Array Oper} {i:Nat} {o:Oper} (aw:all[i]? =some o) (bs:gH o=true) {ar:Nat} {r:bI} {a:Act} {v:V}
 (he:(cI P ar all o).run call r h=.val v ab) (qn:a.tmps.size=ar) (k1:∀t ∈ b1 all o,Rel E (T.get .bad (az t) r) (a.tmps.getD t undef)) (s:ba F E H w)
 (Km:ab.next≠h.next) (ag:F.hz (az h.next)=some (ab.get (az h.next)))
 {K:Act->World->Prop} {Q:Exit->Act->World->Prop} (dO:∀au x w',E.le au->Rel au v x->ba (F.free (az h.next)) au H w'->K (a.put o.dst x) w'):wpOpIn (ca rd) 0 P all Q i K a w:=by
 obtain ⟨aI,aU⟩:=kO he
 have k:RegRel0 E ar (dt r (b1 all o)) a:=⟨qn,fun t aG=>by
  rw [Hl aU aG];by_cases hm:t ∈ b1 all o
  . rw [arz hm];exact k1 t hm
  . rw [arw hm];simp [Rel]⟩
 obtain ⟨et,hw⟩:(fh P o).run call (dt r (b1 all o)) h=.val v ab/\Region.wanted o (yielded all a.tmps)=true:=by
  rcases Q4 he with ⟨aa,ad⟩ | ⟨aa,_⟩
  . exact ⟨aa,ad E a k⟩
  . exact absurd (by rw [aa]) Km
 obtain ⟨m,ak,cZ,al,ao,aK⟩:=abV bs et k;simp only [wpOpIn,aw,hw,ar2];obtain ⟨X,cJ,ck,cB⟩:=aK w;rw [al,ae.ig,arz rfl] at ag;have dP:E.put (az h.next) ⟨w.heap.size,0,0⟩ (az h.next)=some ⟨w.heap.size,0,0⟩:=by unfold Env.put;rw [arz rfl]
 have hle:E.le (E.put (az h.next) ⟨w.heap.size,0,0⟩):=Env.mX (s.oP _ _ ag).2.1;obtain ⟨bH,c2⟩:=cB _ hle dP;have cu:F.w.heap.size<=w.heap.size:=s.frame.size;obtain ⟨_,kX⟩:=s.link ag (o:=cJ) (c2 _ cu);refine ⟨fun _ _=>trivial,?_⟩;rw [qP (by intro c h;have:=bs;unfold gH at this;rw [h] at this;cases this),ak,Sem.run_bind,ck];exact dO _ X _ hle bH kX
end
end
end Go.Proofs.YtgmhjhgoamjeeaaGreatDoor.aX
