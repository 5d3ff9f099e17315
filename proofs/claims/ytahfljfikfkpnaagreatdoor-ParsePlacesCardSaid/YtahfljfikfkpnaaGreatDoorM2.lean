/- The abstract machine and its walks (a verified interpreter of the model's code: plain definitions and lemmas, no condition). Printed by a program from longer texts: names made short. -/
import Derived.Test.YtahfljfikfkpnaaGreatDoorM1
import Derived.LaidEqlPtr
import Derived.RangeFuncLeaves
import Derived.RecoverIn
import Derived.OrdersIn
set_option linter.unusedSectionVars false
set_option linter.unusedSimpArgs false
set_option linter.unusedVariables false
set_option maxHeartbeats 64000000
noncomputable section
namespace Go.Proofs.YtahfljfikfkpnaaGreatDoor.bf
section
open Go Go.RowKit
variable [Lay]
theorem aN.na:∀{p q:aN},aN.hY p q=true->p=q
 | .z,.z,_=>rfl
 | .l p,.l q,h=>by rw [aN.na (p:=p) (q:=q) h]
 | .r p,.r q,h=>by rw [aN.na (p:=p) (q:=q) h]
 | .z,.l _,h=>by cases h
 | .z,.r _,h=>by cases h
 | .l _,.z,h=>by cases h
 | .l _,.r _,h=>by cases h
 | .r _,.z,h=>by cases h
 | .r _,.l _,h=>by cases h
theorem aN.Bz:∀p:aN,aN.hY p p=true
 | .z=>rfl
 | .l p=>aN.Bz p
 | .r p=>aN.Bz p
section
variable {P:Program}
theorem VP {al:Fr} {E:Env} {h:ae} {w:World} (s:a6 al E h w) {b:aN} {p:iq} (ai:E b=some p) (ah:(h.get b).GI=true):(h.get b).own=true/\∃c t,w.heap[p.bd]? =some (.cells c t (0,0)):=by
 have ar:=s.at ai;cases aJ:h.get b<;>rw [aJ] at ah<;>try (cases ah;done)
 rename_i n cs c' st;rw [aJ] at ar;obtain ⟨_,p',c,el,cf,aM,_,xr,_,di,_⟩:=ar;rw [ai] at aM;cases aM;have:st=false:=by simpa [cz.GI] using ah
 rw [di this] at xr;exact ⟨rfl,c,el,xr⟩
theorem VZ {t:TypeId} (h:kj P t=true):∃e j,P.underlying t=some (.pointer e)/\P.info? e=some j/\j.size≠0:=by
 unfold kj at h;cases aB:bj P t with
 | none=>rw [aB] at h;cases h
 | some aP=>
   rw [aB] at h;simp only at h;cases hu:aP.bq<;>rw [hu] at h<;>simp only at h<;>try (cases h;done)
   rename_i e;cases he:bj P e with
   | none=>rw [he] at h;cases h
   | some bl=>
     rw [he] at h;simp only at h;obtain ⟨_,_,ad,_⟩:=v_ aB;obtain ⟨j,g1,_,g3,_⟩:=v_ he;refine ⟨e,j,by rw [ad,hu],g1,fun ef=>?_⟩;rw [g3,ef] at h;cases h
theorem alW {t:TypeId} (h:kj P t=true) (w:World):∃e,(underlying t).run P w=.ok (.pointer e) w:=by obtain ⟨e,_,U,_⟩:=VZ h;exact ⟨e,NO U w⟩
theorem amC {t e:TypeId} {w:World} (hu:(underlying t).run P w=.ok (.pointer e) w) (b:Bool) (v:Value):(Instr.checkKey b 10000 t v).run P w=.ok () w:=by show (Instr.checkKey b (9999+1) t v).run P w=.ok () w;unfold Instr.checkKey;rw [Sem.run_bind,hu];rfl
theorem VX {al:Fr} {E:Env} {h:ae} {w:World} (s:a6 al E h w) {t:TypeId} (aB:kj P t=true) {x y:V} {X Y:Value} {b:Bool} (he:mO h x y=some b) (ay:Rel E x X) (bg:Rel E y Y):
 (∃a c,X=.pointer (some a)/\Y=.pointer (some c))/\∀d,(Op.equalIn (d+1) t X Y).run P w=.ok b w:=by
 obtain ⟨e,j,ai,cY,cX⟩:=VZ aB;unfold mO at he
 split at he
 case h_2=>cases he
 rename_i ct bb
 split at he
 case h_2=>cases he
 rename_i c6 bI;simp only [Rel] at ay bg;obtain ⟨p,js,rfl⟩:=ay;obtain ⟨q,iF,rfl⟩:=bg;refine ⟨⟨_,_,rfl,rfl⟩,fun d=>?_⟩;cases heq:aN.hY ct c6 with
 | true=>
   rw [heq] at he;simp only [aqo,aqj] at he;have:=aN.na heq;subst this;rw [js] at iF;cases iF;have ah:b=decide (bb=bI):=by
    rw [<-he];by_cases h:bb=bI
    . subst h;simp
    . rw [ary h,<-Bool.not_eq_true,aqT];exact h
   have key:(sameAddr ⟨p.bd,p.base+bb,none⟩ ⟨p.bd,p.base+bI,none⟩).run P w=.ok b w:=by
    rw [ah];by_cases h:bb=bI
    . subst h;simpa using run_sameAddr_same w (⟨p.bd,p.base+bb,none⟩:Addr)
    . have dK:((⟨p.bd,p.base+bb,none⟩:Addr) == ⟨p.bd,p.base+bI,none⟩)=false:=by
       rw [arx];intro e;injection e with _ bh _
       omega
      simp [sameAddr,dK,h]
   simp [Op.equalIn,run_underlying ai,sizeOf,typeInfo,cY,cX,key]
 | false=>
   rw [heq] at he;simp only [aqt] at he;obtain ⟨aq,he⟩:=fx he;simp only [aqi] at aq;cases he;obtain ⟨MK,bS,t1,xq⟩:=VP s js aq.1;obtain ⟨ML,cJ,t2,Kw⟩:=VP s iF aq.2;have dK:(⟨p.bd,p.base+bb,none⟩:Addr)≠⟨q.bd,q.base+bI,none⟩:=by
    intro e;injection e with aM _ _
    have:=s.inj ct c6 p q MK ML js iF aM;subst this;rw [aN.Bz] at heq;cases heq
   simp [Op.equalIn,run_underlying ai,sizeOf,typeInfo,cY,cX,run_sameAddr_other w dK xq Kw]
theorem VW {al:Fr} {E:Env} {h:ae} {w:World} (s:a6 al E h w) {op:BinOp} {t:TypeId} {neg:Bool} (nh:yi P op t=some neg) {x y:V} {kh ki:Operand} {X Y:Value} {b:Bool} (he:mO h x y=some b) (ay:Rel E x X) (bg:Rel E y Y):
 ∃Z,(do eqGuard op t kh ki X Y;binOp op t X Y:Sem Value).run P w=.ok Z w/\Rel E (.bool (bif neg then !b else b)) Z:=by
 unfold yi at nh;have main:kj P t=true->((op=.eql/\neg=false)\/(op=.neq/\neg=true))->∃Z,(do eqGuard op t kh ki X Y;binOp op t X Y:Sem Value).run P w=.ok Z w/\Rel E (.bool (bif neg then !b else b)) Z:=by
  intro aB nK;obtain ⟨⟨a,c,rfl,rfl⟩,da⟩:=VX s aB he ay bg;have aJ:=fun (o:BinOp)=>Ex (P:=P) (op:=o) (t:=t) (x:=kh) (y:=ki) (X:=.pointer (some a)) (Y:=.pointer (some c)) (by simp) (.inl (by simp)) w;have aM:(Op.equal t (.pointer (some a)) (.pointer (some c))).run P w=.ok b w:=da 9999;rcases nK with ⟨rfl,rfl⟩ | ⟨rfl,rfl⟩
  . refine ⟨.bool b,?_,by simp [Rel]⟩;rw [Sem.run_bind,aJ,Result.andThen_ok,binOp_eql (X:=.pointer (some a)) True.intro,Sem.run_bind,aM];rfl
  . refine ⟨.bool (!b),?_,by simp [Rel]⟩;rw [Sem.run_bind,aJ,Result.andThen_ok,binOp_neq (X:=.pointer (some a)) True.intro,Sem.run_bind,aM];rfl
 cases op<;>simp only at nh<;>try (cases nh;done)
 . obtain ⟨U,ad⟩:=fx nh;cases ad;exact main U (.inl ⟨rfl,rfl⟩)
 . obtain ⟨U,ad⟩:=fx nh;cases ad;exact main U (.inr ⟨rfl,rfl⟩)
end
section
variable {P:Program}
def yQ (P:Program) (w:World) (E:Env) (dV:TypeId) (e:eK):Prop:=
 ∀k bG K k7 b,e.run k bG=some b->Rel E k K->Rel E bG k7->(Op.equal dV K k7).run P w=.ok b w/\(b=true->k7=K/\Instr.sameBits 10000 K K=true)
theorem alV {al:Fr} {E:Env} {h:ae} {w:World} (s:a6 al E h w) {dV:TypeId} (aB:kj P dV=true):yQ P w E dV ⟨mO h⟩:=by
 intro k bG K k7 b he ay bg;obtain ⟨⟨a,c,rfl,rfl⟩,da⟩:=VX s aB he ay bg;refine ⟨da 9999,fun ah=>?_⟩;subst ah;simp only [mO] at he
 split at he
 case h_2=>cases he
 split at he
 case h_2=>cases he
 rename_i ct bb _ c6 bI;simp only [Rel] at ay bg;obtain ⟨p,js,ay⟩:=ay;obtain ⟨q,iF,bg⟩:=bg;cases heq:aN.hY ct c6 with
 | false=>
   rw [heq] at he;simp only [aqt] at he;obtain ⟨_,he⟩:=fx he;cases he
 | true=>
   rw [heq] at he;simp only [aqo,aqj] at he;have:=aN.na heq;subst this;rw [js] at iF;cases iF;have:=aq4 he;subst this;rw [ay,bg];exact ⟨rfl,by simp [Instr.sameBits]⟩
theorem SH {w:World} {E:Env} {dV:TypeId} {e:eK} (eB:yQ P w E dV e) {k:V} {K:Value} (ar:Rel E k K):∀(es:List c9) (l:List MapEntry) (r:Option V) (i:Nat),mw e k es=some r->fc E es l->
 ∃R,(Instr.findAsking dV K l i).run P w=.ok R w/\(match r with
  | none=>R=none
  | some v=>∃j Y,R=some (j,Y)/\Rel E v Y)
 | [],l,r,i,h,aa=>by simp only [fc] at aa;subst aa;simp only [mw,aqj] at h;subst h;exact ⟨none,rfl,rfl⟩
 | m::ms,l,r,i,h,aa=>by
   obtain ⟨ao,es,rfl,U,ad,aC,aX⟩:=aa;simp only [mw] at h;cases az:e.run k m.k with
   | none=>rw [az] at h;cases h
   | some b=>
     rw [az] at h;simp only at h;obtain ⟨an,av⟩:=eB _ _ _ _ _ az ar U;cases b with
     | true=>
       simp only [aqo,aqj] at h;subst h;exact ⟨some (i,ao.val),by simp [Instr.findAsking,an],i,ao.val,rfl,ad⟩
     | false=>
       simp only [aqt] at h;obtain ⟨R,g1,g2⟩:=SH eB ar ms es r (i+1) h aX;exact ⟨R,by simp [Instr.findAsking,an,g1],g2⟩
theorem V0 {w:World} {E:Env} {dV:TypeId} {e:eK} (eB:yQ P w E dV e) {k v:V} {K X:Value} (ar:Rel E k K) (bE:Rel E v X) (clock:Nat):∀(es:List c9) (l:List MapEntry) (r:List c9 × Bool) (i:Nat),nt e k v clock es=some r->fc E es l->
 (r.2=true->(Instr.findAsking dV K l i).run P w=.ok none w/\fc E r.1 (l++[⟨K,X,clock⟩]))/\
 (r.2=false->∃j ao Y,(Instr.findAsking dV K l i).run P w=.ok (some (i+j,Y)) w/\l[j]? =some ao/\Instr.sameBits 10000 ao.key K=true/\fc E r.1 (l.modify j fun ao=>{ao with key:=K,val:=X}))
 | [],l,r,i,h,aa=>by simp only [fc] at aa;subst aa;simp only [nt,aqj] at h;subst h;exact ⟨fun _=>⟨rfl,_,_,rfl,ar,bE,rfl,rfl⟩,fun h=>by cases h⟩
 | m::ms,l,r,i,h,aa=>by
   obtain ⟨ao,es,rfl,U,ad,aC,aX⟩:=aa;simp only [nt] at h;cases az:e.run k m.k with
   | none=>rw [az] at h;cases h
   | some b=>
     rw [az] at h;simp only at h;obtain ⟨an,av⟩:=eB _ _ _ _ _ az ar U;cases b with
     | true=>
       simp only [aqo,aqj] at h;subst h;obtain ⟨aH,bP⟩:=av rfl;refine ⟨fun h=>(by cases h),fun _=>⟨0,ao,ao.val,by simp [Instr.findAsking,an],rfl,by rw [aH];exact bP,?_⟩⟩;exact ⟨_,es,rfl,ar,bE,aC,aX⟩
     | false=>
       simp only [aqt] at h;cases ai:nt e k v clock ms with
       | none=>rw [ai] at h;cases h
       | some bu=>
         rw [ai] at h;simp only [aqj] at h;subst h;obtain ⟨g1,g2⟩:=V0 eB ar bE clock ms es bu (i+1) ai aX;refine ⟨fun h=>?_,fun h=>?_⟩
         . obtain ⟨b7,a2⟩:=g1 h;exact ⟨by simp [Instr.findAsking,an,b7],⟨ao,es++[⟨K,X,clock⟩],rfl,U,ad,aC,a2⟩⟩
         . obtain ⟨j,dP,Y,b7,a2,a3,a4⟩:=g2 h;exact ⟨j+1,dP,Y,by simp [Instr.findAsking,an,b7];omega,by simpa using a2,a3,⟨ao,_,rfl,U,ad,aC,a4⟩⟩
theorem amE {dV:TypeId} {lI:TypeId} {w:World} (hu:(underlying dV).run P w=.ok (.pointer lI) w) {K:Value} {l:List MapEntry} {R:Option (Nat × Value)} (h:(Instr.findAsking dV K l 0).run P w=.ok R w):
 (Instr.findKey dV K l).run P w=.ok R w:=by
 cases l with
 | nil=>
   simp only [Instr.findAsking,Sem.run_pure] at h;cases h;simp [Instr.findKey,hu,Instr.findNow]
 | cons ao es=>
   have aL:Instr.findNow (.pointer lI) K (ao::es) 0=none:=by simp [Instr.findNow,Instr.sameNow]
   simp [Instr.findKey,hu,aL,h]
theorem acH {x y:V} (h:w0 x y=true):x=y:=by
 cases x<;>simp only [w0] at h<;>try (cases h;done)
 all_goals (cases y<;>simp only at h<;>try (cases h;done))
 . rw [arO] at h;rw [h]
 . simp only [aqi,na,arO] at h;rw [tg h.1,h.2]
 . rw [wR,arO] at h;rw [h]
theorem St:∀{xs de:List V},w1 xs de=true->xs=de
 | [],[],_=>rfl
 | [],_::_,h=>by cases h
 | _::_,[],h=>by cases h
 | x::xs,y::de,h=>by
   simp only [w1] at h;cases U:w0 x y with
   | false=>rw [U] at h;cases h
   | true=>rw [U] at h;rw [acH U,St h]
theorem acG {E:Env} {x:V} {X Y:Value} (h:w0 x x=true) (dD:Rel E x X) (gF:Rel E x Y):X=Y/\∀n,Instr.sameBits n X X=true:=by
 cases x<;>simp only [w0] at h<;>try (cases h;done)
 . simp only [Rel] at dD gF;subst dD gF;exact ⟨rfl,fun n=>by cases n<;>simp [Instr.sameBits]⟩
 . simp only [Rel] at dD gF;subst dD gF;exact ⟨rfl,fun n=>by cases n<;>simp [Instr.sameBits]⟩
 . simp only [Rel] at dD gF;subst dD gF;exact ⟨rfl,fun n=>by cases n<;>simp [Instr.sameBits,bytes_beq]⟩
theorem Ss {E:Env}:∀{xs:List V} {l ed:List Value},w1 xs xs=true->bm E xs l->bm E xs ed->l=ed/\∀n,((l.zip l).all fun (x,y)=>Instr.sameBits n x y)=true
 | [],l,ed,_,U,ad=>by simp only [bm] at U ad;subst U ad;exact ⟨rfl,fun _=>rfl⟩
 | x::xs,l,ed,h,U,ad=>by
   obtain ⟨y,de,rfl,b7,a2⟩:=U;obtain ⟨oU,aqg,rfl,ct,c6⟩:=ad;simp only [w1] at h;cases aq:w0 x x with
   | false=>rw [aq] at h;cases h
   | true=>
     rw [aq] at h;obtain ⟨rfl,an⟩:=acG aq b7 ct;obtain ⟨rfl,av⟩:=Ss h a2 c6;exact ⟨rfl,fun n=>by simp only [List.zip_cons_cons,arG,an,av,Bool.and_self]⟩
theorem anl {w:World} {E:Env} {dV:TypeId}:yQ P w E dV (structEq P dV):=by
 intro k bG K k7 b he ay bg;simp only [structEq] at he
 split at he
 case h_2=>cases he
 split at he
 case h_2=>cases he
 rename_i xs _ de;cases aI:(iR P 12 dV).run (.agg xs) (.agg de) with
 | none=>rw [aI] at he;cases he
 | some c=>
   rw [aI] at he;have az:=JC 12 Op.maxDepth dV _ _ K k7 c (by decide) aI ay bg w;cases c with
   | false=>
     simp only [aqt,aqj] at he;subst he;exact ⟨az,fun h=>by cases h⟩
   | true=>
     simp only [aqo] at he;cases ai:w1 xs de with
     | false=>rw [ai] at he;cases he
     | true=>
       rw [ai] at he;simp only [aqo,aqj] at he;subst he;refine ⟨az,fun _=>?_⟩;have:=St ai;subst this;simp only [Rel] at ay bg;obtain ⟨a,rfl,U⟩:=ay;obtain ⟨a1,rfl,ad⟩:=bg;obtain ⟨e,q⟩:=Ss ai U ad;have dP:a=a1:=Array.toList_inj.1 e;subst dP;exact ⟨rfl,by show Instr.sameBits (9999+1) _ _=true;simp only [Instr.sameBits,beq_self_eq_true,arP];exact q _⟩
theorem run_checkKey_plain {bq:TypeDesc} (aA:lY bq=true) {t:TypeId} {w:World} (hu:(underlying t).run P w=.ok bq w) (b:Bool) (n:Nat) (v:Value):(Instr.checkKey b (n+1) t v).run P w=.ok () w:=by
 unfold Instr.checkKey;rw [Sem.run_bind,hu];cases bq<;>simp only [lY] at aA<;>first
  | (cases aA;done)
  | rfl
theorem adr {w:World} {E:Env} {cs:List V} {a:Array Value} (a_:bm E cs a.toList) (b:Bool) (n:Nat):∀(cG:List Field),EH P cs cG=true->
 (do for f in cG do
      if f.name≠ "_" then Instr.checkKey b (n+1) f.type (<-part f.type a f.offset):Sem Unit).run P w=.ok () w:=by
 intro cG
 induction cG with
 | nil=>intro _;simp
 | cons f cG aT=>
   intro h;simp only [EH] at h;cases U:(rn P f.type f.offset).run cs with
   | none=>rw [U] at h;cases h
   | some x=>
     rw [U] at h;simp only at h;cases ad:bj P f.type with
     | none=>rw [ad] at h;cases h
     | some lK=>
       rw [ad] at h;simp only at h;cases aC:lY lK.bq with
       | false=>rw [aC] at h;cases h
       | true=>
         rw [aC] at h;simp only [aqo] at h;obtain ⟨X,dD,_⟩:=C3 a_ U w;have ar:=run_checkKey_plain (P:=P) aC (gI ad w) b n X;have:=aT h;by_cases aL:f.name= "_"
         . simpa [aL] using this
         . simpa [aL,dD,ar] using this
theorem anm {t:TypeId} (h:nx P t=true) (w:World):∃cG,(underlying t).run P w=.ok (.struct cG) w:=by
 unfold nx at h;cases aB:bj P t with
 | none=>rw [aB] at h;cases h
 | some aP=>
   rw [aB] at h;simp only at h;have hu:=gI aB w;cases b_:aP.bq<;>rw [b_] at h<;>simp only at h<;>try (cases h;done)
   rw [b_] at hu;exact ⟨_,hu⟩
theorem amD {t:TypeId} {k:V} (aJ:sk P t k=true) {E:Env} {K:Value} (ar:Rel E k K) {w:World} (b:Bool):(Instr.checkKey b 10000 t K).run P w=.ok () w:=by
 unfold sk at aJ;cases aB:bj P t with
 | none=>rw [aB] at aJ;cases aJ
 | some aP=>
   rw [aB] at aJ;simp only at aJ;have hu:=gI aB w;cases b_:aP.bq<;>rw [b_] at aJ<;>simp only at aJ<;>try (cases aJ;done)
   rename_i cG;rw [b_] at hu;cases k<;>simp only at aJ<;>try (cases aJ;done)
   rename_i cs;simp only [Rel] at ar;obtain ⟨a,rfl,a_⟩:=ar;show (Instr.checkKey b (9998+1+1) t (.agg a)).run P w=.ok () w;unfold Instr.checkKey;rw [Sem.run_bind,hu];have:=adr (P:=P) (w:=w) a_ b 9998 cG.toList aJ;simp only [Result.andThen_ok,Array.forIn_toList] at this ⊢;exact this
theorem amF {dV:TypeId} {cG:Array Field} {w:World} (hu:(underlying dV).run P w=.ok (.struct cG) w) {K:Value} {l:List MapEntry} {R:Option (Nat × Value)} (h:(Instr.findAsking dV K l 0).run P w=.ok R w):
 (Instr.findKey dV K l).run P w=.ok R w:=by
 cases l with
 | nil=>
   simp only [Instr.findAsking,Sem.run_pure] at h;cases h;simp [Instr.findKey,hu,Instr.findNow]
 | cons ao es=>
   have aL:Instr.findNow (.struct cG) K (ao::es) 0=none:=by simp [Instr.findNow,Instr.sameNow]
   simp [Instr.findKey,hu,aL,h]
structure AE (P:Program) (w:World) (E:Env) (dV:TypeId) (e:eK) (K:Value):Prop where
 eq:yQ P w E dV e
 check:∀b,(Instr.checkKey b 10000 dV K).run P w=.ok () w
 find:∀{l:List MapEntry} {R},(Instr.findAsking dV K l 0).run P w=.ok R w->(Instr.findKey dV K l).run P w=.ok R w
theorem It {al:Fr} {E:Env} {h:ae} {w:World} (s:a6 al E h w) {dV:TypeId} (aB:kj P dV=true) (K:Value):AE P w E dV ⟨mO h⟩ K:=by obtain ⟨VM,oC⟩:=alW aB w;exact ⟨alV s aB,fun b=>amC oC b K,fun q=>amE oC q⟩
theorem Iu {w:World} {E:Env} {dV:TypeId} (aB:nx P dV=true) {k:V} (aJ:sk P dV k=true) {K:Value} (ar:Rel E k K):AE P w E dV (structEq P dV) K:=by obtain ⟨cG,oC⟩:=anm aB w;exact ⟨anl,fun b=>amD aJ ar b,fun q=>amF oC q⟩
end
section
variable {P:Program}
theorem LF {E:Env} {bq:TypeDesc} {k bG:V} {K k7:Value} {b:Bool} (he:(mG bq).run k bG=some b) (ay:Rel E k K) (bg:Rel E bG k7):
 Instr.sameNow bq K k7=some b/\(b=true->k7=K/\∀n,Instr.sameBits n K K=true):=by
 cases bq<;>simp only [mG] at he<;>try (simp [eK.none] at he;done)
 case bool=>
  simp only [rY] at he;cases k<;>simp only at he<;>try (cases he;done)
  cases bG<;>simp only at he<;>try (cases he;done)
  simp only [Rel] at ay bg;subst ay bg;simp only [aqj] at he;subst he;refine ⟨rfl,fun h=>?_⟩;rw [arO] at h;subst h;exact ⟨rfl,fun n=>by cases n<;>simp [Instr.sameBits]⟩
 case int dE=>
  simp only [kO] at he;obtain ⟨j,m,rfl,U⟩:=kY he;clear he;obtain ⟨FG,b4,rfl,ad⟩:=kY U;clear U;obtain ⟨ar,h⟩:=fx ad;clear ad;have:=tg ar;subst this;simp only [Rel] at ay bg;subst ay bg;simp only [aqj,na] at h;subst h;refine ⟨by simp [Instr.sameNow],fun h=>?_⟩;rw [arO] at h;subst h;exact ⟨rfl,fun n=>by cases n<;>simp [Instr.sameBits]⟩
 case string=>
  simp only [w2] at he;cases k<;>simp only at he<;>try (cases he;done)
  cases bG<;>simp only at he<;>try (cases he;done)
  simp only [Rel] at ay bg;subst ay bg;simp only [aqj,wR] at he;subst he;refine ⟨by simp only [Instr.sameNow,bytes_beq],fun h=>?_⟩;rw [arO] at h;subst h;exact ⟨rfl,fun n=>by cases n<;>simp [Instr.sameBits,bytes_beq]⟩
theorem run_checkKey {bq:TypeDesc} (aA:lY bq=true) {t:TypeId} {w:World} (hu:(underlying t).run P w=.ok bq w) (b:Bool) (v:Value):(Instr.checkKey b 10000 t v).run P w=.ok () w:=by
 show (Instr.checkKey b (9999+1) t v).run P w=.ok () w;unfold Instr.checkKey;rw [Sem.run_bind,hu];cases bq<;>simp only [lY] at aA<;>first
  | (cases aA;done)
  | rfl
theorem run_findKey {bq:TypeDesc} {t:TypeId} {w:World} (hu:(underlying t).run P w=.ok bq w) {K:Value} {l:List MapEntry} {R:Option (Nat × Value)} (h:Instr.findNow bq K l 0=some R):
 (Instr.findKey t K l).run P w=.ok R w:=by
 simp only [Instr.findKey,Sem.run_bind,hu,Result.andThen_ok,h,Sem.run_pure]
theorem SM {E:Env} {bq:TypeDesc} {k:V} {K:Value} (ar:Rel E k K):∀(es:List c9) (l:List MapEntry) (r:Option V) (i:Nat),mw (mG bq) k es=some r->fc E es l->
 ∃R,Instr.findNow bq K l i=some R/\(match r with
  | none=>R=none
  | some v=>∃j Y,R=some (j,Y)/\Rel E v Y)
 | [],l,r,i,h,aa=>by simp only [fc] at aa;subst aa;simp only [mw,aqj] at h;subst h;exact ⟨none,rfl,rfl⟩
 | m::ms,l,r,i,h,aa=>by
   obtain ⟨e,es,rfl,U,ad,aC,aX⟩:=aa;simp only [mw] at h;cases az:(mG bq).run k m.k with
   | none=>rw [az] at h;cases h
   | some b=>
     rw [az] at h;simp only at h;obtain ⟨an,av⟩:=LF az ar U;cases b with
     | true=>
       simp only [aqo,aqj] at h;subst h;exact ⟨some (i,e.val),by simp only [Instr.findNow,an],i,e.val,rfl,ad⟩
     | false=>
       simp only [aqt] at h;obtain ⟨R,g1,g2⟩:=SM ar ms es r (i+1) h aX;exact ⟨R,by simp only [Instr.findNow,an,g1],g2⟩
theorem V3 {E:Env} {bq:TypeDesc} {k v:V} {K X:Value} (ar:Rel E k K) (bE:Rel E v X) (clock:Nat):∀(es:List c9) (l:List MapEntry) (r:List c9 × Bool) (i:Nat),nt (mG bq) k v clock es=some r->fc E es l->
 (r.2=true->Instr.findNow bq K l i=some none/\fc E r.1 (l++[⟨K,X,clock⟩]))/\
 (r.2=false->∃j e Y,Instr.findNow bq K l i=some (some (i+j,Y))/\l[j]? =some e/\Instr.sameBits 10000 e.key K=true/\fc E r.1 (l.modify j fun e=>{e with key:=K,val:=X}))
 | [],l,r,i,h,aa=>by simp only [fc] at aa;subst aa;simp only [nt,aqj] at h;subst h;exact ⟨fun _=>⟨rfl,_,_,rfl,ar,bE,rfl,rfl⟩,fun h=>by cases h⟩
 | m::ms,l,r,i,h,aa=>by
   obtain ⟨e,es,rfl,U,ad,aC,aX⟩:=aa;simp only [nt] at h;cases az:(mG bq).run k m.k with
   | none=>rw [az] at h;cases h
   | some b=>
     rw [az] at h;simp only at h;obtain ⟨an,av⟩:=LF az ar U;cases b with
     | true=>
       simp only [aqo,aqj] at h;subst h;obtain ⟨aH,bP⟩:=av rfl;refine ⟨fun h=>(by cases h),fun _=>⟨0,e,e.val,by simp only [Instr.findNow,an,arI],rfl,by rw [aH];exact bP _,?_⟩⟩;exact ⟨_,es,rfl,ar,bE,aC,aX⟩
     | false=>
       simp only [aqt] at h;cases ai:nt (mG bq) k v clock ms with
       | none=>rw [ai] at h;cases h
       | some bu=>
         rw [ai] at h;simp only [aqj] at h;subst h;obtain ⟨g1,g2⟩:=V3 ar bE clock ms es bu (i+1) ai aX;refine ⟨fun h=>?_,fun h=>?_⟩
         . obtain ⟨b7,a2⟩:=g1 h;exact ⟨by simp only [Instr.findNow,an,b7],⟨e,es++[⟨K,X,clock⟩],rfl,U,ad,aC,a2⟩⟩
         . obtain ⟨j,dP,Y,b7,a2,a3,a4⟩:=g2 h;exact ⟨j+1,dP,Y,by simp only [Instr.findNow,an,b7];congr 3;omega,by simpa using a2,a3,e,_,rfl,U,ad,aC,a4⟩
theorem LX {al:Fr} {E:Env} {h:ae} {w:World} (s:a6 al E h w) {x:V} {X:Value} {es:List c9} (he:sq h x=some es) (ay:Rel E x X):
 (X=.map none/\es=[])\/∃r a clock,X=.map (some r)/\(getObj r).run P w=.ok (.map a clock) w/\fc E es a.toList:=by
 cases x<;>simp only [sq] at he<;>try (cases he;done)
 . simp only [Rel] at ay;exact .inl ⟨ay,by simpa using he.symm⟩
 . rename_i b;simp only [Rel] at ay;obtain ⟨p,ai,rfl⟩:=ay;have ah:=s.at ai;cases aJ:h.get b<;>rw [aJ] at he<;>simp only [cz.lp] at he<;>try (cases he;done)
   simp only [aqj] at he;subst he;rw [aJ] at ah;obtain ⟨q,a,U,_,aC,aX⟩:=ah;rw [ai] at U;cases U;exact .inr ⟨p.bd,a,_,rfl,by simp only [getObj,Sem.run,aC];rfl,aX⟩
theorem SJ {bq:TypeDesc} {K:Value}:∀{l:List MapEntry} {i:Nat},(∀e ∈ l,Instr.sameNow bq K e.key=some false)->Instr.findNow bq K l i=some none
 | [],_,_=>rfl
 | e::es,i,h=>by simp only [Instr.findNow,h e (by simp)];exact SJ fun dP fq=>h dP (by simp [fq])
theorem SK {bq:TypeDesc} {K:Value}:∀{l:List MapEntry} {i:Nat},(∀e ∈ l,∃b,Instr.sameNow bq K e.key=some b)->(∃e ∈ l,Instr.sameNow bq K e.key=some true)->
 ∃j,∃e ∈ l,Instr.sameNow bq K e.key=some true/\Instr.findNow bq K l i=some (some (j,e.val))
 | [],_,_,h=>by obtain ⟨e,he,_⟩:=h;simp at he
 | e::es,i,U,ad=>by
   obtain ⟨b,ah⟩:=U e (by simp);cases b with
   | true=>exact ⟨i,e,by simp,ah,by simp only [Instr.findNow,ah]⟩
   | false=>
     obtain ⟨dP,fq,aB⟩:=ad;simp only [aqN] at fq;rcases fq with rfl | fq
     . rw [ah] at aB;cases aB
     . obtain ⟨j,bh,an,av,aH⟩:=SK (i:=i+1) (fun x ay=>U x (by simp [ay])) ⟨dP,fq,aB⟩;exact ⟨j,bh,by simp [an],av,by simp only [Instr.findNow,ah,aH]⟩
theorem SL {E:Env} {bq:TypeDesc} {k:V} {K:Value} (ar:Rel E k K):∀(es:List c9) (l:List MapEntry) (r:Option V),ou (mG bq) k es=some r->mj E es l->
 (∀e ∈ l,∃b,Instr.sameNow bq K e.key=some b)/\(match r with
  | none=>∀e ∈ l,Instr.sameNow bq K e.key=some false
  | some v=>(∃e ∈ l,Instr.sameNow bq K e.key=some true)/\∀e ∈ l,Instr.sameNow bq K e.key=some true->Rel E v e.val)
 | [],l,r,h,aa=>by simp only [mj] at aa;subst aa;simp only [ou,aqj] at h;subst h;exact ⟨fun e he=>by simp at he,fun e he=>by simp at he⟩
 | m::ms,l,r,h,aa=>by
   obtain ⟨e,es,rfl,U,ad,aX⟩:=aa;simp only [ou] at h;cases aA:ou (mG bq) k ms with
   | none=>rw [aA] at h;cases h
   | some bu=>
     rw [aA] at h;simp only at h;obtain ⟨g1,g2⟩:=SL ar ms es bu aA aX;cases az:(mG bq).run k m.k with
     | none=>rw [az] at h;cases h
     | some b=>
       rw [az] at h;simp only at h;obtain ⟨an,_⟩:=LF az ar U;have Ke:∀dP ∈ e::es,∃b,Instr.sameNow bq K dP.key=some b:=by
        intro dP fq;rcases aqN.1 fq with rfl | fq
        . exact ⟨b,an⟩
        . exact g1 dP fq
       refine ⟨Ke,?_⟩;cases b with
       | true=>
         simp only [aqo] at h;cases bu with
         | some _=>cases h
         | none=>
           simp only [aqj] at h;subst h;refine ⟨⟨e,by simp,an⟩,fun dP fq aB=>?_⟩;rcases aqN.1 fq with rfl | fq
           . exact ad
           . have:=g2 dP fq;rw [aB] at this;cases this
       | false=>
         simp only [aqt,aqj] at h;subst h;cases bu with
         | none=>
           intro dP fq;rcases aqN.1 fq with rfl | fq
           . exact an
           . exact g2 dP fq
         | some v=>
           obtain ⟨⟨ef,e8,hR⟩,y3⟩:=g2;refine ⟨⟨ef,by simp [e8],hR⟩,fun dP fq aB=>?_⟩;rcases aqN.1 fq with rfl | fq
           . rw [an] at aB;cases aB
           . exact y3 dP fq aB
theorem ade {E:Env} {bq:TypeDesc} {k:V} {K:Value} (ar:Rel E k K) {es:List c9} {l a:List MapEntry} {r:Option V} (h:ou (mG bq) k es=some r) (aa:mj E es l) (ai:l.Perm a):
 ∃R,Instr.findNow bq K a 0=some R/\(match r with
  | none=>R=none
  | some v=>∃j Y,R=some (j,Y)/\Rel E v Y):=by
 obtain ⟨U,ad⟩:=SL ar es l r h aa;have hm:∀e,e ∈ a↔e ∈ l:=fun e=>ai.mem_iff.symm;cases r with
 | none=>exact ⟨none,SJ fun e he=>ad e ((hm e).1 he),rfl⟩
 | some v=>
   obtain ⟨⟨ef,e8,hR⟩,y3⟩:=ad;obtain ⟨j,e,an,av,aH⟩:=SK (i:=0) (fun e he=>U e ((hm e).1 he)) ⟨ef,(hm ef).2 e8,hR⟩;exact ⟨_,aH,j,e.val,rfl,y3 e ((hm e).1 an) av⟩
theorem ajh {e:eK} {z:V} {ok:Bool} {h:ae} {x k v:V} (he:ln e z ok h x k=some v):
 nV e z ok h x k=some v\/∃b es r,x=.map b/\h.get b=.jf es/\ou e k es=some r/\v=(match r with
  | some u=>bif ok then .tuple [u,.bool true] else u
  | none=>bif ok then .tuple [z,.bool false] else z):=by
 unfold ln at he;cases x<;>simp only at he<;>try (exact .inl he)
 rename_i b;cases aJ:h.get b<;>rw [aJ] at he<;>simp only at he<;>try (exact .inl he)
 rename_i es;cases aA:ou e k es with
 | none=>rw [aA] at he;cases he
 | some r=>
   rw [aA] at he;refine .inr ⟨b,es,r,rfl,aJ,aA,?_⟩;cases r<;>simp only [aqj] at he<;>exact he.symm
theorem ajg {al:Fr} {E:Env} {h:ae} {w:World} (s:a6 al E h w) {t:TypeId} {ok:Bool} {x k v:V} {X K:Value} (ay:Rel E x X) (ar:Rel E k K) (he:(F8 P t ok).run h x k=some v):
 ∃Z,(Instr.lookup t X K ok).run P w=.ok Z w/\Rel E v Z:=by
 unfold F8 at he;cases aB:bj P t with
 | none=>rw [aB] at he;cases he
 | some aP=>
   rw [aB] at he;simp only at he;have hu:=gI aB w;cases b_:aP.bq<;>rw [b_] at he<;>simp only at he<;>try (cases he;done)
   rename_i dV lI;rw [b_] at hu;cases q3:bj P dV with
   | none=>rw [q3] at he;cases he
   | some hP=>
     rw [q3] at he;simp only at he;cases het:bj P lI with
     | none=>rw [het] at he;cases he
     | some bl=>
       rw [het] at he;simp only at he;cases bK:bl.zero with
       | none=>rw [bK] at he;cases he
       | some z=>
         rw [bK] at he;simp only at he;cases aA:lY hP.bq with
         | false=>
           rw [aA] at he;simp only [aqt] at he;have u6:∃e,AE P w E dV e K/\nV e z ok h x k=some v:=by
            cases q9:kj P dV with
            | true=>
              rw [q9] at he;exact ⟨_,It s q9 K,he⟩
            | false=>
              rw [q9] at he;simp only [aqt] at he;cases di:nx P dV with
              | false=>rw [di] at he;cases he
              | true=>
                rw [di] at he;simp only [aqo] at he;obtain ⟨aJ,he⟩:=fx he;exact ⟨_,Iu di aJ ar,he⟩
           clear he;obtain ⟨e,ask,he⟩:=u6;obtain ⟨wi,oG,nP,_⟩:=Am (P:=P) het bK E w;simp only [nV] at he;cases hm:sq h x with
           | none=>rw [hm] at he;cases he
           | some es=>
             rw [hm] at he;simp only at he;cases r7:mw e k es with
             | none=>rw [r7] at he;cases he
             | some r=>
               rw [r7] at he;simp only at he;have main:∀(l:List MapEntry),fc E es l->∃R,(Instr.findKey dV K l).run P w=.ok R w/\
                ((R=none/\Rel E v (if ok=true then .tuple #[wi,.bool false] else wi))\/∃j Y,R=some (j,Y)/\Rel E v (if ok=true then .tuple #[Y,.bool true] else Y)):=by
                intro l aD;obtain ⟨R,g1,g2⟩:=SH ask.eq ar es l r 0 r7 aD;refine ⟨R,ask.find g1,?_⟩;cases r with
                | none=>
                  simp only at g2 he;refine .inl ⟨g2,?_⟩;simp only [aqj] at he;subst he;cases ok
                  . exact nP
                  . simp only [aqo,aqu,Rel,bm];exact ⟨_,rfl,_,_,rfl,nP,_,_,rfl,rfl,rfl⟩
                | some u=>
                  simp only at g2 he;obtain ⟨j,Y,c_,gF⟩:=g2;refine .inr ⟨j,Y,c_,?_⟩;simp only [aqj] at he;subst he;cases ok
                  . exact gF
                  . simp only [aqo,aqu,Rel,bm];exact ⟨_,rfl,_,_,rfl,gF,_,_,rfl,rfl,rfl⟩
               rcases LX (P:=P) s hm ay with ⟨rfl,rfl⟩ | ⟨bZ,a,clock,rfl,fN,B4⟩
               . obtain ⟨R,g1,g2⟩:=main [] rfl;have lb:=ask.check true;rcases g2 with ⟨rfl,g3⟩ | ⟨j,Y,rfl,g3⟩
                 all_goals
                  refine ⟨_,?_,g3⟩;simp only [Instr.lookup,Sem.run_bind,hu,Result.andThen_ok,Sem.run_pure];have aM:(#[]:Array MapEntry).isEmpty=true:=rfl;rw [aM,lb,Result.andThen_ok,g1,Result.andThen_ok];simp only [Sem.run_bind,oG,Result.andThen_ok,Sem.run_pure]
               . obtain ⟨R,g1,g2⟩:=main a.toList B4;have lb:=ask.check a.isEmpty;rcases g2 with ⟨rfl,g3⟩ | ⟨j,Y,rfl,g3⟩
                 all_goals
                  refine ⟨_,?_,g3⟩;simp only [Instr.lookup,Sem.run_bind,hu,Result.andThen_ok,Sem.run_pure,fN];rw [lb,Result.andThen_ok,g1,Result.andThen_ok];simp only [Sem.run_bind,oG,Result.andThen_ok,Sem.run_pure]
         | true=>
           rw [aA] at he;simp only [aqo] at he;obtain ⟨wi,oG,nP,_⟩:=Am (P:=P) het bK E w;have oC:=gI q3 w;rcases ajh he with he | ⟨b,es,r,rfl,aJ,aeR,rfl⟩
           case inr=>
            simp only [Rel] at ay;obtain ⟨p,ai,rfl⟩:=ay;have ah:=s.at ai;rw [aJ] at ah;obtain ⟨p',a,c,l,hM,_,ba,Fq,afO⟩:=ah;rw [ai] at hM;cases hM;obtain ⟨R,g1,g2⟩:=ade ar aeR Fq afO;have fN:(getObj p.bd).run P w=.ok (.map a c) w:=by simp only [getObj,Sem.run,ba]
            have lb:=run_checkKey (P:=P) aA oC a.isEmpty K;have EP:=run_findKey oC g1;cases r with
            | none=>
              simp only at g2;subst g2;refine ⟨if ok=true then .tuple #[wi,.bool false] else wi,?_,?_⟩
              . simp only [Instr.lookup,Sem.run_bind,hu,Result.andThen_ok,Sem.run_pure,fN];rw [lb,Result.andThen_ok,EP,Result.andThen_ok];simp only [Sem.run_bind,oG,Result.andThen_ok,Sem.run_pure]
              . cases ok
                . exact nP
                . simp only [aqo,aqu,Rel,bm];exact ⟨_,rfl,_,_,rfl,nP,_,_,rfl,rfl,rfl⟩
            | some u=>
              simp only at g2;obtain ⟨j,Y,rfl,gF⟩:=g2;refine ⟨if ok=true then .tuple #[Y,.bool true] else Y,?_,?_⟩
              . simp only [Instr.lookup,Sem.run_bind,hu,Result.andThen_ok,Sem.run_pure,fN];rw [lb,Result.andThen_ok,EP,Result.andThen_ok];simp only [Sem.run_bind,Sem.run_pure,Result.andThen_ok]
              . cases ok
                . exact gF
                . simp only [aqo,aqu,Rel,bm];exact ⟨_,rfl,_,_,rfl,gF,_,_,rfl,rfl,rfl⟩
           simp only [nV] at he;cases hm:sq h x with
           | none=>rw [hm] at he;cases he
           | some es=>
             rw [hm] at he;simp only at he;cases r7:mw (mG hP.bq) k es with
             | none=>rw [r7] at he;cases he
             | some r=>
               rw [r7] at he;simp only at he;have main:∀(l:List MapEntry),fc E es l->∃R,(Instr.findKey dV K l).run P w=.ok R w/\
                ((R=none/\Rel E v (if ok=true then .tuple #[wi,.bool false] else wi))\/∃j Y,R=some (j,Y)/\Rel E v (if ok=true then .tuple #[Y,.bool true] else Y)):=by
                intro l aD;obtain ⟨R,g1,g2⟩:=SM ar es l r 0 r7 aD;refine ⟨R,run_findKey oC g1,?_⟩;cases r with
                | none=>
                  simp only at g2 he;refine .inl ⟨g2,?_⟩;simp only [aqj] at he;subst he;cases ok
                  . exact nP
                  . simp only [aqo,aqu,Rel,bm];exact ⟨_,rfl,_,_,rfl,nP,_,_,rfl,rfl,rfl⟩
                | some u=>
                  simp only at g2 he;obtain ⟨j,Y,c_,gF⟩:=g2;refine .inr ⟨j,Y,c_,?_⟩;simp only [aqj] at he;subst he;cases ok
                  . exact gF
                  . simp only [aqo,aqu,Rel,bm];exact ⟨_,rfl,_,_,rfl,gF,_,_,rfl,rfl,rfl⟩
               rcases LX (P:=P) s hm ay with ⟨rfl,rfl⟩ | ⟨bZ,a,clock,rfl,fN,B4⟩
               . obtain ⟨R,g1,g2⟩:=main [] rfl;have lb:=run_checkKey (P:=P) aA oC true K;rcases g2 with ⟨rfl,g3⟩ | ⟨j,Y,rfl,g3⟩
                 all_goals
                  refine ⟨_,?_,g3⟩;simp only [Instr.lookup,Sem.run_bind,hu,Result.andThen_ok,Sem.run_pure];have aM:(#[]:Array MapEntry).isEmpty=true:=rfl;rw [aM,lb,Result.andThen_ok,g1,Result.andThen_ok];simp only [Sem.run_bind,oG,Result.andThen_ok,Sem.run_pure]
               . obtain ⟨R,g1,g2⟩:=main a.toList B4;have lb:=run_checkKey (P:=P) aA oC a.isEmpty K;rcases g2 with ⟨rfl,g3⟩ | ⟨j,Y,rfl,g3⟩
                 all_goals
                  refine ⟨_,?_,g3⟩;simp only [Instr.lookup,Sem.run_bind,hu,Result.andThen_ok,Sem.run_pure,fN];rw [lb,Result.andThen_ok,g1,Result.andThen_ok];simp only [Sem.run_bind,oG,Result.andThen_ok,Sem.run_pure]
theorem Xe {al:Fr} {E:Env} {h ab:ae} {w:World} (s:a6 al E h w) {t:TypeId} {x k v:V} {X K Y:Value} (ay:Rel E x X) (ar:Rel E k K) (bE:Rel E v Y) (he:(qz P t).run h x k v=some ab):
 ∃w',(Instr.mapUpdate t X K Y).run P w=.ok () w'/\a6 al E ab w':=by
 unfold qz at he;cases aB:bj P t with
 | none=>rw [aB] at he;cases he
 | some aP=>
   rw [aB] at he;simp only at he;have hu:=gI aB w;cases b_:aP.bq<;>rw [b_] at he<;>simp only at he<;>try (cases he;done)
   rename_i dV lI;rw [b_] at hu;cases q3:bj P dV with
   | none=>rw [q3] at he;cases he
   | some hP=>
     rw [q3] at he;simp only at he;cases aA:lY hP.bq with
     | false=>
       rw [aA] at he;simp only [aqt] at he;have u6:∃e,AE P w E dV e K/\oT e h x k v=some ab:=by
        cases q9:kj P dV with
        | true=>
          rw [q9] at he;exact ⟨_,It s q9 K,he⟩
        | false=>
          rw [q9] at he;simp only [aqt] at he;cases di:nx P dV with
          | false=>rw [di] at he;cases he
          | true=>
            rw [di] at he;simp only [aqo] at he;obtain ⟨aJ,he⟩:=fx he;exact ⟨_,Iu di aJ ar,he⟩
       clear he;obtain ⟨e,ask,he⟩:=u6;cases x<;>simp only [oT] at he<;>try (cases he;done)
       rename_i b;simp only [Rel] at ay;obtain ⟨p,ai,rfl⟩:=ay;have ah:=s.at ai;cases aJ:h.get b<;>rw [aJ] at he<;>simp only [cz.lp] at he<;>try (cases he;done)
       rename_i es clock;rw [aJ] at ah;obtain ⟨q,a,U,cU,aC,aX⟩:=ah;rw [ai] at U;cases U;cases xB:nt e k v clock es with
       | none=>rw [xB] at he;cases he
       | some r=>
         rw [xB] at he;simp only [aqj] at he;subst he;have fN:(getObj p.bd).run P w=.ok (.map a clock) w:=by simp only [getObj,Sem.run,aC]
         have lb:=ask.check false;have mC:=(aql.1 aC).1;have Bu:∀(a1:Array MapEntry) (fl:Nat),fc E r.1 a1.toList->fl=(bif r.2 then clock+1 else clock)->
          ∃w',(setObj p.bd (.map a1 fl)).run P w=.ok () w'/\a6 al E (h.set b (.mp r.1 (bif r.2 then clock+1 else clock))) w':=by
          intro a1 fl hm aq;refine ⟨{w with heap:=w.heap.setIfInBounds p.bd (.map a1 fl)},by simp only [setObj,Sem.run,aC],s.set (p:=p) (by rw [aJ];rfl) ai cU (by simp) (fun j bU=>?_) rfl rfl rfl (fun _ _ _ e=>by cases e) ?_⟩
          . simp only [aqF];rw [aqr (fun e=>bU e.symm)]
          . exact ⟨p,a1,ai,cU,by simp [mC,aq],hm⟩
         obtain ⟨g1,g2⟩:=V0 ask.eq ar bE clock es a.toList r 0 xB aX;cases ni:r.2 with
         | true=>
           obtain ⟨b7,a2⟩:=g1 ni;obtain ⟨w',d1,d2⟩:=Bu (a.push ⟨K,Y,clock⟩) (clock+1) (by simpa using a2) (by rw [ni];rfl);rw [ni] at d2;refine ⟨w',?_,d2⟩;simp only [Instr.mapUpdate,Sem.run_bind,hu,Result.andThen_ok,fN,lb,ask.find b7,d1]
         | false=>
           obtain ⟨j,ao,YJ,b7,a2,a3,a4⟩:=g2 ni;obtain ⟨w',d1,d2⟩:=Bu (a.modify j fun ao=>{ao with key:=K,val:=Y}) clock (by simpa using a4) (by rw [ni];rfl);rw [ni] at d2;refine ⟨w',?_,d2⟩;rw [aqW] at b7;have aM:a[j]? =some ao:=by simpa using a2
           simp only [Instr.mapUpdate,Sem.run_bind,hu,Result.andThen_ok,fN,lb,ask.find b7,aM,Option.map,Option.getD,Instr.keyThatStays,a3,aqu,Sem.run_pure,d1]
     | true=>
       rw [aA] at he;simp only [aqo] at he;have oC:=gI q3 w;cases x<;>simp only [oT] at he<;>try (cases he;done)
       rename_i b;simp only [Rel] at ay;obtain ⟨p,ai,rfl⟩:=ay;have ah:=s.at ai;cases aJ:h.get b<;>rw [aJ] at he<;>simp only [cz.lp] at he<;>try (cases he;done)
       rename_i es clock;rw [aJ] at ah;obtain ⟨q,a,U,cU,aC,aX⟩:=ah;rw [ai] at U;cases U;cases xB:nt (mG hP.bq) k v clock es with
       | none=>rw [xB] at he;cases he
       | some r=>
         rw [xB] at he;simp only [aqj] at he;subst he;have fN:(getObj p.bd).run P w=.ok (.map a clock) w:=by simp only [getObj,Sem.run,aC]
         have lb:=run_checkKey (P:=P) aA oC false K;have mC:=(aql.1 aC).1;have done:∀(a1:Array MapEntry) (fl:Nat),fc E r.1 a1.toList->fl=(bif r.2 then clock+1 else clock)->
          ∃w',(setObj p.bd (.map a1 fl)).run P w=.ok () w'/\a6 al E (h.set b (.mp r.1 (bif r.2 then clock+1 else clock))) w':=by
          intro a1 fl hm aq;refine ⟨{w with heap:=w.heap.setIfInBounds p.bd (.map a1 fl)},by simp only [setObj,Sem.run,aC],s.set (p:=p) (by rw [aJ];rfl) ai cU (by simp) (fun j bU=>?_) rfl rfl rfl (fun _ _ _ e=>by cases e) ?_⟩
          . simp only [aqF];rw [aqr (fun e=>bU e.symm)]
          . exact ⟨p,a1,ai,cU,by simp [mC,aq],hm⟩
         obtain ⟨g1,g2⟩:=V3 ar bE clock es a.toList r 0 xB aX;cases ni:r.2 with
         | true=>
           obtain ⟨b7,a2⟩:=g1 ni;obtain ⟨w',d1,d2⟩:=done (a.push ⟨K,Y,clock⟩) (clock+1) (by simpa using a2) (by rw [ni];rfl);rw [ni] at d2;refine ⟨w',?_,d2⟩;simp only [Instr.mapUpdate,Sem.run_bind,hu,Result.andThen_ok,fN,lb,run_findKey oC b7,d1]
         | false=>
           obtain ⟨j,e,YJ,b7,a2,a3,a4⟩:=g2 ni;obtain ⟨w',d1,d2⟩:=done (a.modify j fun e=>{e with key:=K,val:=Y}) clock (by simpa using a4) (by rw [ni];rfl);rw [ni] at d2;refine ⟨w',?_,d2⟩;rw [aqW] at b7;have aM:a[j]? =some e:=by simpa using a2
           simp only [Instr.mapUpdate,Sem.run_bind,hu,Result.andThen_ok,fN,lb,run_findKey oC b7,aM,Option.map,Option.getD,Instr.keyThatStays,a3,aqu,Sem.run_pure,d1]
theorem Va {al:Fr} {E:Env} {h ab:ae} {w:World} (s:a6 al E h w) {v:V} (he:zY h=.val v ab):eb al P E w (do pure (.map (some (<-newObj (.map #[] 0))))) v ab:=by
 unfold zY at he;simp only [a8.val.injEq] at he;obtain ⟨rfl,rfl⟩:=he;have eC:=s.fresh h.next (aqh _)
 have e0:E.put (aE h.next) ⟨w.heap.size,0,0⟩ (aE h.next)=some ⟨w.heap.size,0,0⟩:=by unfold Env.put;rw [aqw rfl]
 refine ⟨.map (some w.heap.size),{w with heap:=w.heap.push (.map #[] 0)},_,?_,Env.nU (p:=⟨w.heap.size,0,0⟩) eC,?_,s.alloc 0 ?_⟩
 . simp only [Sem.run_bind,run_newObj,Result.andThen_ok,Sem.run_pure]
 . simp only [Rel];exact ⟨_,e0,rfl⟩
 . exact ⟨_,#[],e0,s.frame.size,by simp,rfl⟩
theorem ajq {al:Fr} {E:Env} {h ab:ae} {w:World} (s:a6 al E h w) {t:TypeId} {x:Option V} {X:Option Value} {v:V} (ay:jg E x X) (he:zU P t x h=.val v ab):eb al P E w (Instr.makeMap t X) v ab:=by
 unfold zU at he;cases aB:bj P t with
 | none=>rw [aB] at he;cases he
 | some aP=>
   rw [aB] at he;simp only at he;have hu:=gI aB;cases ah:Nat.beq (fW aP.bq) 3 with
   | false=>rw [ah] at he;cases he
   | true=>
     rw [ah] at he;simp only [aqo] at he;cases x with
     | none=>
       have:X=none:=by cases X with | none=>rfl | some _=>simp [jg] at ay
       subst this;simp only [vy] at he;have:=Va (P:=P) s he;exact this
     | some u=>
       simp only [vy] at he;obtain ⟨dL,n,rfl,U⟩:=tQ he;obtain ⟨Y,rfl,gF⟩:∃Y,X=some Y/\Rel E (.int dL n) Y:=by
        cases X with
        | none=>simp [jg] at ay
        | some Y=>simp only [jg] at ay;obtain ⟨aoI,U,ad⟩:=ay;cases U;exact ⟨_,rfl,ad⟩
       have:=gF.j3;subst this;obtain ⟨Z,w',aw,an,av⟩:=Va (P:=P) s U;refine ⟨Z,w',aw,?_,av⟩;cases b_:aP.bq<;>rw [b_] at ah<;>simp [fW] at ah;have hu:=hu w;rw [b_] at hu;simp only [Instr.makeMap,Sem.run_bind,hu,Result.andThen_ok,asInt,Sem.run_pure];exact an
theorem aiX {al:Fr} {E:Env} {h ab:ae} {w:World} (s:a6 al E h w) {t:TypeId} {aP:o5} (aB:bj P t=some aP) (hm:vo aP.bq=true) {x v:V} {X:Value} (ay:Rel E x X) (ty:TypeId) (rest:List TypeId)
 (he:CA [x] h=.val v ab):eb al P E w (Builtin.len_ (t::rest).toArray ty #[X]) v ab:=by
 simp only [CA] at he;cases az:sq h x with
 | none=>rw [az] at he;cases he
 | some es=>
   rw [az] at he;simp only [a8.val.injEq] at he;obtain ⟨rfl,rfl⟩:=he;have hu:=gI aB w;cases b_:aP.bq<;>rw [b_] at hm<;>simp [vo] at hm;rw [b_] at hu;rcases LX (P:=P) s az ay with ⟨rfl,rfl⟩ | ⟨bZ,a,clock,rfl,fN,B4⟩
   . refine eb.plain (Z:=goInt 0) s ?_ (by simp [Rel,goInt]);simp [Builtin.len_,hu]
   . have hlen:∀(ms:List c9) (l:List MapEntry),fc E ms l->l.length=ms.length:=by
      intro ms
      induction ms with
      | nil=>intro l h;simp only [fc] at h;subst h;rfl
      | cons m ms aT=>intro l h;obtain ⟨e,es,rfl,_,_,_,aX⟩:=h;simp [aT _ aX]
     refine eb.plain (Z:=goInt a.size) s ?_ ?_
     . simp [Builtin.len_,hu,fN]
     . have:=hlen _ _ B4;simp only [Array.length_toList] at this;simp [Rel,goInt,this]
end
section
variable {P:Program}
theorem SG {E:Env} {v:V} {Y:Value} (bE:Rel E v Y) {n:Nat}:∀(es:List c9) (l:List MapEntry) (r:List c9),ze n v es=some r->fc E es l->
 ∃j,l.findIdx? (fun e=>(e.born:Int) == (n:Int))=some j/\fc E r (l.modify j fun e=>{e with val:=Y})
 | [],l,r,h,aa=>by cases h
 | m::ms,l,r,h,aa=>by
   obtain ⟨e,es,rfl,U,ad,aC,aX⟩:=aa;simp only [ze] at h;cases ah:Nat.beq m.born n with
   | true=>
     rw [ah] at h;simp only [aqo,aqj] at h;subst h;have aL:=aq4 ah;refine ⟨0,by simp [List.findIdx?_cons,aC,aL],?_⟩;exact ⟨_,es,rfl,U,bE,aC,aX⟩
   | false=>
     rw [ah] at h;simp only [aqt] at h;cases aA:ze n v ms with
     | none=>rw [aA] at h;cases h
     | some bu=>
       rw [aA] at h;simp only [aqj] at h;subst h;obtain ⟨j,g1,g2⟩:=SG bE ms es bu aA aX;have dK:¬((e.born:Int) == (n:Int))=true:=by
        rw [aC];intro aI;have zz:(m.born:Int)=(n:Int):=by simpa using aI
        have afx:m.born=n:=by omega
        rw [afx,asm] at ah;cases ah
       refine ⟨j+1,by simp only [List.findIdx?_cons,dK];simp [g1],⟨e,_,by simp [List.modify],U,ad,aC,g2⟩⟩
theorem acD {al:Fr} {E:Env} {h ab:ae} {w:World} (s:a6 al E h w) {t:TypeId} {x st v:V} {X S Y:Value} (ay:Rel E x X) (di:Rel E st S) (bE:Rel E v Y) (he:By h x st v=some ab):
 ∃w',(Instr.entryStore t X S Y).run P w=.ok () w'/\a6 al E ab w':=by
 unfold By at he
 split at he
 case h_2=>cases he
 rename_i b
 split at he
 case h_2=>cases he
 rename_i dL m
 split at he
 case h_2=>cases he
 rename_i n;simp only [Rel] at ay di;obtain ⟨p,ai,rfl⟩:=ay;subst di;have ah:=s.at ai;cases aJ:h.get b<;>rw [aJ] at he<;>simp only [cz.lp] at he<;>try (cases he;done)
 rename_i es clock;rw [aJ] at ah;obtain ⟨q,a,U,cU,aC,aX⟩:=ah;rw [ai] at U;cases U;cases aA:ze n v es with
 | none=>rw [aA] at he;cases he
 | some r=>
   rw [aA] at he;simp only [aqj] at he;subst he;obtain ⟨j,g1,g2⟩:=SG bE es a.toList r aA aX;have fN:(getObj p.bd).run P w=.ok (.map a clock) w:=by simp only [getObj,Sem.run,aC]
   have mC:=(aql.1 aC).1;have EP:a.findIdx? (fun e=>(e.born:Int) == (n:Int))=some j:=by rw [<-g1];cases a with | mk Uq=>simp
   have a_:(asInt (.int dL (Int.ofNat n))).run P w=.ok (n:Int) w:=by simp [asInt,asIntOf]
   refine ⟨{w with heap:=w.heap.setIfInBounds p.bd (.map (a.modify j fun e=>{e with val:=Y}) clock)},?_,s.set (p:=p) (by rw [aJ];rfl) ai cU (by simp) (fun j bU=>?_) rfl rfl rfl (fun _ _ _ e=>by cases e) ?_⟩
   . simp only [Instr.entryStore,Sem.run_bind,fN,Result.andThen_ok,a_,EP,setObj,Sem.run,aC]
   . simp only [aqF];rw [aqr (fun e=>bU e.symm)]
   . exact ⟨p,a.modify j fun e=>{e with val:=Y},ai,cU,by simp [mC],by rw [Array.toList_modify];exact g2⟩
theorem SI {w:World} {E:Env} {dV:TypeId} {e:eK} (eB:yQ P w E dV e) {k:V} {K:Value} (ar:Rel E k K):∀(es:List c9) (l:List MapEntry) (r:Option c9) (i:Nat),zf e k es=some r->fc E es l->
 (r=none->(Instr.findAsking dV K l i).run P w=.ok none w)/\
 (∀m,r=some m->∃j ao,(Instr.findAsking dV K l i).run P w=.ok (some (i+j,ao.val)) w/\l[j]? =some ao/\ao.key=K/\Rel E m.v ao.val/\ao.born=m.born/\Instr.sameBits 10000 K K=true/\fc E es (l.modify j fun ao=>{ao with key:=K}))
 | [],l,r,i,h,aa=>by simp only [fc] at aa;subst aa;simp only [zf,aqj] at h;subst h;exact ⟨fun _=>rfl,fun m hm=>by cases hm⟩
 | m::ms,l,r,i,h,aa=>by
   obtain ⟨ao,es,rfl,U,ad,aC,aX⟩:=aa;simp only [zf] at h;cases az:e.run k m.k with
   | none=>rw [az] at h;cases h
   | some b=>
     rw [az] at h;simp only at h;obtain ⟨an,av⟩:=eB _ _ _ _ _ az ar U;cases b with
     | true=>
       simp only [aqo,aqj] at h;subst h;obtain ⟨aH,bP⟩:=av rfl;refine ⟨fun h=>(by cases h),fun b4 hm=>?_⟩;cases hm;exact ⟨0,ao,by simp [Instr.findAsking,an],rfl,aH,ad,aC,bP,⟨_,es,rfl,by rw [<-aH];exact U,ad,aC,aX⟩⟩
     | false=>
       simp only [aqt] at h;obtain ⟨g1,g2⟩:=SI eB ar ms es r (i+1) h aX;refine ⟨fun h=>by simp [Instr.findAsking,an,g1 h],fun b4 hm=>?_⟩;obtain ⟨j,acy,b7,a2,a3,a4,a5,mW,H_⟩:=g2 b4 hm;exact ⟨j+1,acy,by simp [Instr.findAsking,an,b7];omega,by simpa using a2,a3,a4,a5,mW,⟨ao,_,rfl,U,ad,aC,H_⟩⟩
theorem UY {al:Fr} {E:Env} {h ab:ae} {w:World} (s:a6 al E h w) {t dV lI:TypeId} (hu:(underlying t).run P w=.ok (.map dV lI) w) {e:eK} {z:V} {Z:Value} (bK:(zeroValue lI).run P w=.ok Z w) (nP:Rel E z Z)
 {x k v:V} {X K:Value} (ay:Rel E x X) (ar:Rel E k K) (ask:AE P w E dV e K) (he:zV e z h x k=some (v,ab)):eb al P E w (Instr.mapEntry t X K) v ab:=by
 unfold zV at he
 split at he
 case h_2=>cases he
 rename_i b;simp only [Rel] at ay;obtain ⟨p,ai,rfl⟩:=ay;have ah:=s.at ai;cases aJ:h.get b<;>rw [aJ] at he<;>simp only [cz.lp] at he<;>try (cases he;done)
 rename_i es clock;rw [aJ] at ah;obtain ⟨q,a,U,cU,aC,aX⟩:=ah;rw [ai] at U;cases U;have fN:(getObj p.bd).run P w=.ok (.map a clock) w:=by simp only [getObj,Sem.run,aC]
 have lb:=ask.check false;have mC:=(aql.1 aC).1;have Bu:∀(jG:List c9) (a1:Array MapEntry) (fl:Nat),fc E jG a1.toList->
  ∃w',(setObj p.bd (.map a1 fl)).run P w=.ok () w'/\a6 al E (h.set b (.mp jG fl)) w':=by
  intro jG a1 fl hm;refine ⟨{w with heap:=w.heap.setIfInBounds p.bd (.map a1 fl)},by simp only [setObj,Sem.run,aC],s.set (p:=p) (by rw [aJ];rfl) ai cU (by simp) (fun j bU=>?_) rfl rfl rfl (fun _ _ _ e=>by cases e) ?_⟩
  . simp only [aqF];rw [aqr (fun e=>bU e.symm)]
  . exact ⟨p,a1,ai,cU,by simp [mC],hm⟩
 cases aA:zf e k es with
 | none=>rw [aA] at he;cases he
 | some r=>
   rw [aA] at he;simp only at he;obtain ⟨g1,g2⟩:=SI ask.eq ar es a.toList r 0 aA aX;cases r with
   | none=>
     simp only [aqj,aru] at he;obtain ⟨rfl,rfl⟩:=he;have b7:=ask.find (g1 rfl);obtain ⟨w',d1,d2⟩:=Bu (es++[⟨k,z,clock⟩]) (a.push ⟨K,Z,clock⟩) (clock+1) (by
      have:∀(es:List c9) (l:List MapEntry),fc E es l->fc E (es++[⟨k,z,clock⟩]) (l++[⟨K,Z,clock⟩]):=by
       intro es
       induction es with
       | nil=>intro l aD;simp only [fc] at aD;subst aD;exact ⟨_,_,rfl,ar,nP,rfl,rfl⟩
       | cons m ms aT=>intro l aD;obtain ⟨ao,jG,rfl,ct,c6,hv,mZ⟩:=aD;exact ⟨ao,_,rfl,ct,c6,hv,aT _ mZ⟩
      simpa using this es a.toList aX)
     refine ⟨.tuple #[Z,goInt clock],w',E,?_,Env.le.refl E,?_,d2⟩
     . simp only [Instr.mapEntry,Sem.run_bind,hu,Result.andThen_ok,fN,lb,b7,bK,d1,Sem.run_pure]
     . simp only [Rel,bm];exact ⟨_,rfl,_,_,rfl,nP,_,_,rfl,rfl,rfl⟩
   | some m=>
     simp only [aqj,aru] at he;obtain ⟨rfl,rfl⟩:=he;obtain ⟨j,ao,b7,a2,a3,a4,a5,mW,H_⟩:=g2 m rfl;rw [aqW] at b7;have ct:=ask.find b7;have aM:a[j]? =some ao:=by simpa using a2
     obtain ⟨w',d1,d2⟩:=Bu es (a.modify j fun ao=>{ao with key:=K}) clock (by rw [Array.toList_modify];exact H_);refine ⟨.tuple #[ao.val,goInt ao.born],w',E,?_,Env.le.refl E,?_,d2⟩
     . simp only [Instr.mapEntry,Sem.run_bind,hu,Result.andThen_ok,fN,lb,ct,aM,Option.map,Option.getD,a3,Instr.keyThatStays,mW,aqu,Sem.run_pure,d1]
     . simp only [Rel,bm];exact ⟨_,rfl,_,_,rfl,a4,_,_,rfl,by rw [a5];rfl,rfl⟩
theorem ajt {al:Fr} {E:Env} {h ab:ae} {w:World} (s:a6 al E h w) {t:TypeId} {x k v:V} {X K:Value} (ay:Rel E x X) (ar:Rel E k K) (he:(F_ P t).run x k h=.val v ab):eb al P E w (Instr.mapEntry t X K) v ab:=by
 unfold F_ at he;cases aB:bj P t with
 | none=>rw [aB] at he;cases he
 | some aP=>
   rw [aB] at he;simp only at he;have hu:=gI aB w;cases b_:aP.bq<;>rw [b_] at he<;>simp only at he<;>try (cases he;done)
   rename_i dV lI;rw [b_] at hu;cases het:bj P lI with
   | none=>rw [het] at he;cases he
   | some bl=>
     rw [het] at he;simp only at he;cases bK:bl.zero with
     | none=>rw [bK] at he;cases he
     | some z=>
       rw [bK] at he;simp only at he;obtain ⟨wi,oG,nP,_⟩:=Am (P:=P) het bK E w;cases q9:kj P dV with
       | true=>
         rw [q9] at he;simp only [aqo,JA] at he;cases hm:zV ⟨mO h⟩ z h x k with
         | none=>rw [hm] at he;cases he
         | some r=>
           rw [hm] at he;simp only [a8.val.injEq] at he;obtain ⟨rfl,rfl⟩:=he;exact UY s hu oG nP ay ar (It s q9 K) hm
       | false=>
         rw [q9] at he;simp only [aqt] at he;cases di:nx P dV with
         | false=>rw [di] at he;cases he
         | true=>
           rw [di] at he;simp only [aqo,JB] at he;cases aJ:sk P dV k with
           | false=>rw [aJ] at he;cases he
           | true=>
             rw [aJ] at he;simp only [aqo] at he;cases hm:zV (structEq P dV) z h x k with
             | none=>rw [hm] at he;cases he
             | some r=>
               rw [hm] at he;simp only [a8.val.injEq] at he;obtain ⟨rfl,rfl⟩:=he;exact UY s hu oG nP ay ar (Iu di aJ ar) hm
end
section
variable {P:Program}
theorem Td (n:Nat):∀(l:List Nat),u4 l n=true↔n ∈ l
 | []=>by simp [u4]
 | x::xs=>by
   simp only [u4];cases ah:Nat.beq x n with
   | true=>have:=aq4 ah;subst this;simp
   | false=>
     have dK:x≠n:=fun e=>by subst e;rw [asm] at ah;cases ah
     simp [Td n xs,Ne.symm dK]
theorem aeq {a:Array Nat} {seen:List Nat} (h:a.toList=seen.reverse) (n:Nat):a.contains n=u4 seen n:=by rw [arc,Td,Array.contains_iff_mem,<-Array.mem_toList_iff,h,List.mem_reverse]
theorem UG {E:Env} {a:Array Nat} {seen:List Nat} (h:a.toList=seen.reverse):∀(ms:List c9) (l:List MapEntry),fc E ms l->fc E (leftOf seen ms) (l.filter fun e=>!a.contains e.born)
 | [],l,aa=>by simp only [fc] at aa;subst aa;rfl
 | m::ms,l,aa=>by
   obtain ⟨e,es,rfl,U,ad,aC,aX⟩:=aa;have aT:=UG h ms es aX;have aI:a.contains e.born=u4 seen m.born:=by rw [aeq h,aC]
   cases ah:u4 seen m.born with
   | true=>
     rw [ah] at aI;rw [List.filter_cons_of_neg (by rw [aI];decide)];simp only [leftOf,ah,aqo];exact aT
   | false=>
     rw [ah] at aI;rw [List.filter_cons_of_pos (by rw [aI];decide)];simp only [leftOf,ah,aqt];exact ⟨e,_,rfl,U,ad,aC,aT⟩
theorem PD {E:Env} {last:Nat}:∀(ms:List c9) (l:List MapEntry),fc E ms l->l.all (fun e=>decide (e.born>=last))=yX last ms
 | [],l,aa=>by simp only [fc] at aa;subst aa;rfl
 | m::ms,l,aa=>by
   obtain ⟨e,es,rfl,U,ad,aC,aX⟩:=aa;simp only [yX,arG,PD ms es aX,aC];cases ah:Nat.ble last m.born with
   | true=>rw [aqE] at ah;simp [ah]
   | false=>
     have:¬last<=m.born:=by rw [<-Nat.ble_eq,ah];simp
     simp [this]
theorem P6 {E:Env} {n:Nat}:∀(ms:List c9) (l:List MapEntry) (m:c9),fc E ms l->Bk n ms=some m->∃e,l.find? (fun e=>e.born == n)=some e/\Rel E m.k e.key/\Rel E m.v e.val
 | [],l,m,aa,h=>by cases h
 | x::xs,l,m,aa,h=>by
   obtain ⟨e,es,rfl,U,ad,aC,aX⟩:=aa;simp only [Bk] at h;cases ah:Nat.beq x.born n with
   | true=>
     rw [ah] at h;simp only [aqo,aqj] at h;subst h;have:=aq4 ah;exact ⟨e,by simp [List.find?_cons,aC,this],U,ad⟩
   | false=>
     rw [ah] at h;simp only [aqt] at h;obtain ⟨dP,g1,g2⟩:=P6 xs es m aX h;have dK:x.born≠n:=fun e=>by rw [e,asm] at ah;cases ah
     exact ⟨dP,by simp [List.find?_cons,aC,dK,g1],g2⟩
theorem Mx {k:cz} {f:List c9->Nat->a8} {v:V} {ab:ae} (h:k.lp .fail f=.val v ab):∃es clock,k=.mp es clock/\f es clock=.val v ab:=by
 cases k<;>simp only [cz.lp] at h<;>first
  | (cases h;done)
  | exact ⟨_,_,rfl,h⟩
theorem Vu {v:V} {f:aN->Nat->a8} {r:V} {ab:ae} (h:v.kg .fail f=.val r ab):∃b off,v=.ptr b off/\f b off=.val r ab:=by
 cases v<;>simp only [V.kg] at h<;>first
  | (cases h;done)
  | exact ⟨_,_,rfl,h⟩
theorem amb {al:Fr} {E:Env} {h ab:ae} {w:World} (s:a6 al E h w) {t dV lI:TypeId} (hu:(underlying t).run P w=.ok (.map dV lI) w) {x v:V} {X:Value} (ay:Rel E x X) (he:rangeMap x h=.val v ab):eb al P E w (Instr.range t X) v ab:=by
 have eC:=s.fresh h.next (aqh _)
 have e0:E.put (aE h.next) ⟨w.heap.size,0,0⟩ (aE h.next)=some ⟨w.heap.size,0,0⟩:=by unfold Env.put;rw [aqw rfl]
 unfold rangeMap at he
 split at he
 . simp only [a8.val.injEq] at he;obtain ⟨rfl,rfl⟩:=he;simp only [Rel] at ay;subst ay;refine ⟨.pointer (some ⟨w.heap.size,0,none⟩),{w with heap:=w.heap.push (.mapIter none 0 #[] 0)},_,?_,Env.nU (p:=⟨w.heap.size,0,0⟩) eC,?_,s.alloc 0 ?_⟩
   . simp only [Instr.range,Sem.run_bind,hu,Result.andThen_ok,Sem.run_pure,run_newObj]
   . simp only [Rel];exact ⟨_,e0,by simp⟩
   . exact ⟨_,none,#[],e0,s.frame.size,rfl,by simp,rfl,rfl⟩
 . rename_i c;obtain ⟨es,clock,aJ,he⟩:=Mx he;simp only [a8.val.injEq] at he;obtain ⟨rfl,rfl⟩:=he;simp only [Rel] at ay;obtain ⟨p,ai,rfl⟩:=ay;have ah:=s.at ai;rw [aJ] at ah;obtain ⟨q,a,U,cU,aC,aX⟩:=ah;rw [ai] at U;cases U;have fN:(getObj p.bd).run P w=.ok (.map a clock) w:=by simp only [getObj,Sem.run,aC]
   have hle:E.le (E.put (aE h.next) ⟨w.heap.size,0,0⟩):=Env.nU eC;refine ⟨.pointer (some ⟨w.heap.size,0,none⟩),{w with heap:=w.heap.push (.mapIter (some p.bd) clock #[] clock)},_,?_,hle,?_,s.alloc 0 ?_⟩
   . simp only [Instr.range,Sem.run_bind,hu,Result.andThen_ok,Sem.run_pure,fN,run_newObj]
   . simp only [Rel];exact ⟨_,e0,by simp⟩
   . exact ⟨_,some p.bd,#[],e0,s.frame.size,rfl,by simp,rfl,p,hle _ _ ai,rfl⟩
 . cases he
theorem ajW {al:Fr} {E:Env} {h ab:ae} {w:World} (s:a6 al E h w) {x v:V} {X:Value} {ty:TypeId} (ay:Rel E x X) (he:hd x h=.val v ab):eb al P E w (Instr.next X false ty) v ab:=by
 unfold hd at he;obtain ⟨b,off,rfl,U⟩:=Vu he;clear he;have ah:=s.at (p:=_) (by simp only [Rel] at ay;exact ay.choose_spec.1);cases aJ:h.get b<;>rw [aJ] at U<;>simp only at U<;>try (cases U;done)
 rename_i src since seen last;rw [aJ] at ah;cases aV:Nat.beq off 0 with
 | false=>rw [aV] at U;cases U
 | true=>
 rw [aV] at U;simp only [aqo] at U;have aV:=aq4 aV;subst aV;obtain ⟨p,m,a,ai,cU,r4,ba,a_,kT⟩:=ah;simp only [Rel] at ay;obtain ⟨q,aI,rfl⟩:=ay;rw [ai] at aI;cases aI;have fN:(getObj p.bd).run P w=.ok (.mapIter m since a last) w:=by simp only [getObj,Sem.run,ba]
 have over:Rel E (.tuple [.bool false]) (.tuple #[.bool false]):=by simp only [Rel,bm];exact ⟨_,rfl,_,_,rfl,rfl,rfl⟩
 cases src with
 | none=>
   simp only [wH] at kT;subst kT;simp only [a8.val.injEq] at U;obtain ⟨rfl,rfl⟩:=U;refine eb.plain (Z:=.tuple #[.bool false]) s ?_ over;simp only [Instr.next,r4,Sem.run_bind,fN,Result.andThen_ok,Sem.run_pure]
 | some c=>
   simp only [wH] at kT;obtain ⟨vL,q8,rfl⟩:=kT;simp only at U;obtain ⟨es,clock,Ku,U⟩:=Mx U;have u7:=s.at q8;rw [Ku] at u7;obtain ⟨q,oO,g1,_,g3,g4⟩:=u7;rw [q8] at g1;cases g1;have E7:(getObj vL.bd).run P w=.ok (.map oO clock) w:=by simp only [getObj,Sem.run,g3]
   cases aq:(!seen.isEmpty&&(!es.isEmpty&&yX last es)) with
   | true=>rw [aq] at U;cases U
   | false=>
     rw [aq] at U;simp only [aqt] at U;have aM:a.isEmpty=seen.isEmpty:=by
      have:a.toList.isEmpty=seen.reverse.isEmpty:=by rw [a_]
      simpa using this
     have bh:oO.isEmpty=es.isEmpty:=by
      cases es with
      | nil=>simp only [fc] at g4;have:oO=#[]:=Array.toList_inj.1 g4
             simp [this]
      | cons y de=>obtain ⟨e,l,aD,_⟩:=g4;have:oO.toList.isEmpty=false:=by rw [aD];rfl
                   simpa using this
     have cu:oO.all (fun e=>decide (e.born>=last))=yX last es:=by rw [<-PD es _ g4,Array.all_toList]
     have Tl:(!a.isEmpty&&!oO.isEmpty&&oO.all (fun e=>decide (e.born>=last)))=false:=by rw [aM,bh,cu,Bool.and_assoc];exact aq
     have BZ:=UG (E:=E) a_ es _ g4;have Tr:(oO.filter fun e=>!a.contains e.born).toList=oO.toList.filter fun e=>!a.contains e.born:=by simp
     cases aD:leftOf seen es with
     | nil=>
       rw [aD] at U BZ;simp only [L',a8.val.injEq] at U;obtain ⟨rfl,rfl⟩:=U;simp only [fc] at BZ;have lL:(oO.filter fun e=>!a.contains e.born)=#[]:=by apply Array.toList_inj.1;rw [Tr,BZ]
       refine eb.plain (Z:=.tuple #[.bool false]) s ?_ over;simp only [Instr.next,r4,Sem.run_bind,fN,Result.andThen_ok,E7,Tl,aqk,aqs,lL,Sem.run_pure];simp [choose,Sem.run,Question.forced]
     | cons y de=>
       rw [aD] at U BZ;cases de with
       | cons _ _=>cases U
       | nil=>
         simp only [L'] at U;cases a':Nat.blt y.born since with
         | false=>rw [a'] at U;cases U
         | true=>
           rw [a'] at U;simp only [aqo,a8.val.injEq] at U;obtain ⟨rfl,rfl⟩:=U;rw [aqS] at a';obtain ⟨e,r,aa,c1,dF,iv,fO⟩:=BZ;simp only [fc] at fO;subst fO;have lL:(oO.filter fun e=>!a.contains e.born)=#[e]:=by apply Array.toList_inj.1;rw [Tr,aa]
           rw [<-iv] at a' ⊢
           let cm:Obj:=.mapIter (some vL.bd) since (a.push e.born) clock
           let w':World:={w with heap:=w.heap.setIfInBounds p.bd cm}
           have mC:=(aql.1 ba).1;have q_:(setObj p.bd cm).run P w=.ok () w':=by simp only [setObj,Sem.run,ba];rfl
           have vd:¬since<=e.born:=by omega
           refine ⟨.tuple #[.bool true,e.key,e.val],w',E,?_,Env.le.refl E,?_,s.set (p:=p) (by rw [aJ];rfl) ai cU (by simp [w']) (fun j bU=>?_) rfl rfl rfl (fun _ _ _ e=>by cases e) ?_⟩
           . simp only [Instr.next,r4,Sem.run_bind,fN,Result.andThen_ok,E7,Tl,aqk,aqs,lL,Sem.run_pure];have U:(#[e]:Array MapEntry).filter (fun x=>decide (x.born<since))=#[e]:=by simp [a']
             have ad:(#[e]:Array MapEntry).filter (fun x=>decide (x.born>=since))=#[]:=by simp [a']
             have nF:(choose (.mapNext 1)).run P w=.ok 0 w:=by simp [choose,Sem.run,Question.forced]
             simp only [U,ad];simp [nF];change ((setObj p.bd cm).run P w).andThen _=_;rw [q_];rfl
           . simp only [Rel,bm];exact ⟨_,rfl,_,_,rfl,rfl,_,_,rfl,c1,_,_,rfl,dF,rfl⟩
           . simp only [w',aqF];rw [aqr (fun e=>bU e.symm)]
           . exact ⟨p,some vL.bd,a.push e.born,ai,cU,r4,by simp [w',mC,cm],by simp [a_],vL,q8,rfl⟩
theorem acE {al:Fr} {E:Env} {h ab:ae} {w:World} (s:a6 al E h w) {x v:V} {X:Value} (ay:Rel E x X) (he:Ev x h=.val v ab):eb al P E w (Instr.entry X) v ab:=by
 unfold Ev at he;obtain ⟨b,off,rfl,U⟩:=Vu he;clear he;have ah:=s.at (p:=_) (by simp only [Rel] at ay;exact ay.choose_spec.1);cases aJ:h.get b<;>rw [aJ] at U<;>simp only at U<;>try (cases U;done)
 rename_i src since seen last;rw [aJ] at ah;cases aV:Nat.beq off 0 with
 | false=>rw [aV] at U;cases U
 | true=>
 rw [aV] at U;simp only [aqo] at U;have aV:=aq4 aV;subst aV;obtain ⟨p,m,a,ai,cU,r4,ba,a_,kT⟩:=ah;simp only [Rel] at ay;obtain ⟨q,aI,rfl⟩:=ay;rw [ai] at aI;cases aI;have fN:(getObj p.bd).run P w=.ok (.mapIter m since a last) w:=by simp only [getObj,Sem.run,ba]
 cases src with
 | none=>cases U
 | some c=>
   simp only [wH] at kT;obtain ⟨vL,q8,rfl⟩:=kT;simp only at U;cases seen with
   | nil=>cases U
   | cons n apH=>
   simp only at U;obtain ⟨es,clock,Ku,U⟩:=Mx U;have u7:=s.at q8;rw [Ku] at u7;obtain ⟨q,oO,g1,_,g3,g4⟩:=u7;rw [q8] at g1;cases g1;have E7:(getObj vL.bd).run P w=.ok (.map oO clock) w:=by simp only [getObj,Sem.run,g3]
   rename_i ad9 _;clear ad9;cases kQ:Nat.beq clock last with
   | false=>rw [kQ] at U;cases U
   | true=>
     rw [kQ] at U;simp only [aqo] at U;have:=aq4 kQ;subst this;cases zo:Bk n es with
     | none=>rw [zo] at U;cases U
     | some y=>
       rw [zo] at U;simp only [a8.val.injEq] at U;obtain ⟨rfl,rfl⟩:=U;obtain ⟨e,f1,f2,f3⟩:=P6 es _ y g4 zo;have aev:a.back? =some n:=by
        have:a.toList.getLast? =some n:=by rw [a_];simp
        simpa using this
       have vb:oO.find? (fun e=>e.born == n)=some e:=by rw [<-f1];simp
       refine eb.plain (Z:=.tuple #[e.key,e.val]) s ?_ ?_
       . simp only [Instr.entry,r4,Sem.run_bind,fN,Result.andThen_ok,aev,E7,bne_self_eq_false,aqk,aqs,vb,Sem.run_pure]
       . simp only [Rel,bm];exact ⟨_,rfl,_,_,rfl,f2,_,_,rfl,f3,rfl⟩
end
section
variable {P:Program}
theorem Y8 {al:Fr} {E:Env} {h ab:ae} {w:World} (s:a6 al E h w) {t u e:TypeId} {size:Nat} (afs:1<=size) {x v:V} {X Y:Value} {ty:TypeId} {n:Nat} {new:List V} {l:List Value}
 (aD:bm E new l) (jr:new.length=n * size) (eZ:n<=top)
 (gP:∀(w':World) (A:Option Addr) (dM gJ:Nat),dM+n<=gJ->(∀a,A=some a->(storeCells (a.add (dM * size)) l).run P w=.ok () w')->(A=none->w'=w)->
   (Builtin.append_ #[t,u] ty #[.slice A dM gJ,Y]).run P w=.ok (.slice A (dM+n) gJ) w')
 (h2:∀(A:Option Addr) (dM gJ:Nat) (cA:List Value),(∀w':World,w'.heap=w.heap->(Builtin.firstCells size dM (.slice A dM gJ)).run P w'=.ok cA.toArray w')->¬dM+n<=gJ->dM+n<=top->cA.length=dM * size->l.length=n * size->
   ∃cap rest w',dM+n<=cap/\cap * size<=((cA++l).toArray++rest).size/\
   (Builtin.append_ #[t,u] ty #[.slice A dM gJ,Y]).run P w=.ok (.slice (some ⟨w.heap.size,0,none⟩) (dM+n) cap) w'/\
   w'.heap=w.heap.push (.cells ((cA++l).toArray++rest) e)/\w'.os=w.os/\w'.tape=w.tape/\w'.output=w.output)
 (he:Im size n new x h=.val v ab) (ay:Rel E x X):eb al P E w (Builtin.append_ #[t,u] ty #[X,Y]) v ab:=by
 have q5:l.length=n * size:=by rw [aD.length,jr]
 unfold Im at he;cases x<;>simp only at he<;>try (cases he;done)
 . -- a slice of known capacity
   rename_i b off len cap;simp only [Rel] at ay;obtain ⟨p,ai,ts,rfl⟩:=ay;simp only [wK] at he;cases gj:Nat.ble (len+n) cap with
   | true=>
     rw [gj] at he;simp only [aqo] at he;rw [aqE] at gj;cases mA:lay h b (off+len * size) new with
     | none=>rw [mA] at he;cases he
     | some U=>
     rw [mA] at he;simp only [a8.val.injEq] at he;obtain ⟨rfl,rfl⟩:=he;obtain ⟨w',di,kF⟩:=zS (P:=P) s aD mA ai;refine ⟨_,w',E,gP w' _ _ _ gj (fun a a_=>?_) (fun a_=>by cases a_),Env.le.refl E,?_,kF⟩
     . cases a_;rw [add_eq,arl];exact di
     . simp only [Rel];exact ⟨p,ai,gj,rfl⟩
   | false=>
     rw [gj] at he;simp only [aqt] at he;have K7:¬len+n<=cap:=by rw [<-Nat.ble_eq,gj];simp
     obtain ⟨ah,he⟩:=jX he;simp only [aqi,aqE] at ah;cases hold:qu h size b off len with
     | none=>rw [hold] at he;cases he
     | some cA=>
     rw [hold] at he;simp only at he;cases hx:mJ h (cA++new) size false with
     | none=>rw [hx] at he;cases he
     | some U=>
     rw [hx] at he;simp only [a8.val.injEq] at he;obtain ⟨rfl,rfl⟩:=he;obtain ⟨q,aZ,aI,bM,tv,jc⟩:=As (P:=P) s ⟨p,ai⟩ hold;rw [ai] at aI;cases aI;obtain ⟨c,rest,w',c1,dF,iv,fO,j4,lU,lV⟩:=h2 (some ⟨p.bd,p.base+off,none⟩) (len) (cap) _
      (fun w' hw=>by simp only [Builtin.firstCells];exact jc w' hw) K7 ah.1 (by rw [bM.length,tv]) q5
     obtain ⟨aw,g1,g2,g3⟩:=xY (w':=w') (cf:=(0,0)) s (bM.append aD) hx dF (.inr (aqh _)) (fun _=>rfl) fO j4 lU lV;refine ⟨_,w',aw,iv,g1,?_,g3⟩;simp only [Rel];exact ⟨_,g2,by simp only;omega,by simp⟩
 . -- one that was appended to
   rename_i b off len idx;have Cl:=ay;simp only [Rel] at ay;obtain ⟨p,ai,Tu,rfl⟩:=ay;simp only [wJ] at he;cases ka:Nat.beq n 0 with
   | true=>
     rw [ka] at he;simp only [aqo] at he;cases he;rw [aqT] at ka;subst ka;have tq:l=[]:=by cases l with | nil=>rfl | cons _ _=>simp at q5
     subst tq;refine ⟨_,w,E,gP w _ _ _ (by omega) (fun a _=>rfl) (fun a_=>by cases a_),Env.le.refl E,?_,s⟩;simpa using Cl
   | false=>
     rw [ka] at he;simp only [aqt] at he;have pZ:=s.at ai;cases aJ:h.get b with
     | dead=>rw [aJ] at he;cases he
     | view _ _=>rw [aJ] at he;cases he
     | iter _ _=>rw [aJ] at he;cases he
     | mp _ _=>rw [aJ] at he;cases he
     | e2 _=>rw [aJ] at he;cases he
     | gg=>rw [aJ] at he;cases he
     | jf _=>rw [aJ] at he;cases he
     | kb _ _ _ _=>rw [aJ] at he;cases he
     | cells N cs c' st=>
       rw [aJ] at he pZ;simp only [cz.on] at he;obtain ⟨ah,he⟩:=jX he;simp only [aqi,aqE,aqT] at ah;obtain ⟨⟨Kn,KS,KW⟩,B6⟩:=ah;cases hold:qu h size b off len with
       | none=>rw [hold] at he;cases he
       | some cA=>
       rw [hold] at he;simp only at he;cases hx:mJ (h.set b .dead) (cA++new) size st with
       | none=>rw [hx] at he;cases he
       | some U=>
       rw [hx] at he;simp only [a8.val.injEq] at he;obtain ⟨rfl,rfl⟩:=he;obtain ⟨q,aZ,aI,bM,tv,jc⟩:=As (P:=P) s ⟨p,ai⟩ hold;rw [ai] at aI;cases aI;obtain ⟨bO,q,c,el,cf,aM,cU,ba,r8,di,oB,bT⟩:=pZ;rw [ai] at aM;cases aM;have zw:=afs;have oB:=oB (by omega);rw [Kn] at oB;have Dk:=s.kill ai;by_cases gj:len+n<=p.cap-idx
       . -- in place
         have a':=(aql.1 ba).1;have ae0:(idx+len+n) * size<=p.cap * size:=ari _ (by omega);have hbound:p.base+off+len * size+0+l.length<=c.size:=by
          rw [q5,B6];have:(idx+len+n) * size=idx * size+len * size+n * size:=by rw [arn,arn]
          omega
         have Ch:=G7 (P:=P) a' el cf (p.base+off+len * size) l c 0 (Gs KW aD) hbound r8;rw [OD ba,arI] at Ch;have K':=gP (mQ w p.bd (rf c (p.base+off+len * size) l) el cf) (some ⟨p.bd,p.base+off,none⟩) _ _ gj
          (fun a a_=>by cases a_;rw [add_eq];exact Ch) (fun a_=>by cases a_)
         unfold mJ at hx;obtain ⟨aq,hx⟩:=fx hx;simp only [aqi,aqE] at aq;simp only [aqj] at hx;subst hx;have eC:=s.fresh h.next (aqh _)
         have hle:E.le (E.put (aE h.next) ⟨p.bd,p.base+off,p.cap-idx⟩):=Env.nU eC;have e0:E.put (aE h.next) ⟨p.bd,p.base+off,p.cap-idx⟩ (aE h.next)=some ⟨p.bd,p.base+off,p.cap-idx⟩:=by unfold Env.put;rw [aqw rfl]
         refine ⟨_,_,_,K',hle,?_,a6.add (p:=⟨p.bd,p.base+off,p.cap-idx⟩) Dk (by rw [OE];exact aqh _) (fun j _ bU=>OC _ _ _ bU) cU (fun b2 fb j2 nM heq=>?_) rfl rfl rfl (fun _ _ _ e=>by injection e with _ _ cu;omega) ?_⟩
         . simp only [Rel];exact ⟨_,e0,by simp only;omega,by simp⟩
         . rw [ae.fG] at j2;by_cases kA:b=b2
           . rw [aqw kA] at j2;cases j2
           . rw [aqr kA] at j2;exact kA (s.inj b b2 p fb (by rw [aJ];rfl) j2 ai nM heq.symm)
         . have KF:(cA++new).length=(len+n) * size:=by rw [aqC,tv,jr,arn]
           have aeO:(len+n) * size=len * size+n * size:=arn _ _ _;refine ⟨aq.1,_,_,el,cf,e0,cU,Du a' _ _ _,by rw [sl];exact r8,di,fun _=>?_,?_⟩
           . rw [sl];simp only;have:idx * size + (p.cap-idx) * size=p.cap * size:=by rw [<-Nat.add_mul];congr 1;omega
             omega
           . refine ⟨by rw [sl,KF,arn];simp only;omega,fun i y aG bg=>?_⟩;rw [Da _ _ _ _ (by omega) (by omega),aqw (by omega),asd];rw [FV _ _ _ _ (by omega)] at bg;simp only at bg;by_cases cL:i<len * size
             . rw [aqr (by omega)] at bg;rw [aqG (by omega)];have fN:=jc w rfl;have K4:=run_loadCells (P:=P) (w:=w) (off:=p.base+off) (n:=len * size) ba (by omega);rw [K4] at fN;simp only [Result.ok.injEq,and_true] at fN;have B0:aZ=(c.toList.drop (p.base+off)).take (len * size):=by
                have:=congrArg Array.toList fN;simpa using this.symm
               obtain ⟨oU,iu,aa⟩:=bM.get i cA[i] (aqm (by omega));rw [aqm (by omega)];rw [B0] at iu;rw [aq_ (by omega),art] at iu;simp only [ar5] at iu;rw [bg] at iu;cases iu;exact Rel.mono hle _ _ aa
             . rw [aqw (by omega)] at bg;rw [aqH (by omega)];have cu:p.base+off+i - (p.base+off+len * size)=i-cA.length:=by omega
               rw [cu] at bg;have B2:i-cA.length<new.length:=by omega
               obtain ⟨oU,iu,aa⟩:=aD.get (i-cA.length) new[i-cA.length] (aqm B2);rw [bg] at iu;cases iu;rw [aqm B2];exact Rel.mono hle _ _ aa
       . -- elsewhere
         obtain ⟨cJ,rest,w',c1,dF,iv,fO,j4,lU,lV⟩:=h2 (some ⟨p.bd,p.base+off,none⟩) (len) (p.cap-idx) _
          (fun w' hw=>by simp only [Builtin.firstCells];exact jc w' hw) gj KS (by rw [bM.length,tv]) q5
         obtain ⟨aw,g1,g2,g3⟩:=xY (w':=w') (cf:=(0,0)) Dk (bM.append aD) hx dF (.inr (aqh _)) (fun _=>rfl) fO j4 lU lV;refine ⟨_,w',aw,iv,g1,?_,g3⟩;simp only [Rel];exact ⟨_,g2,by simp only;omega,by simp⟩
 . -- nil
   simp only [Rel] at ay;subst ay;simp only [wL] at he;cases ka:Nat.beq n 0 with
   | true=>
     rw [ka] at he;simp only [aqo] at he;cases he;rw [aqT] at ka;subst ka;exact eb.plain s (gP w _ _ _ (by omega) (fun a a_=>by cases a_) (fun _=>rfl)) (by simp [Rel])
   | false=>
     rw [ka] at he;simp only [aqt] at he;have B5:¬n=0:=by intro e;subst e;simp at ka
     cases hx:mJ h new size false with
     | none=>rw [hx] at he;cases he
     | some U=>
     rw [hx] at he;simp only [a8.val.injEq] at he;obtain ⟨rfl,rfl⟩:=he;obtain ⟨c,rest,w',c1,dF,iv,fO,j4,lU,lV⟩:=h2 (none) (0) (0) []
      (fun w' _=>by simp [Builtin.firstCells]) (by omega) (by omega) (by simp) q5
     obtain ⟨aw,g1,g2,g3⟩:=xY (w':=w') (cf:=(0,0)) s aD hx dF (.inr (aqh _)) (fun _=>rfl) fO j4 lU lV;refine ⟨_,w',aw,iv,g1,?_,g3⟩;simp only [Rel];exact ⟨_,g2,by simp only;omega,by simp⟩
structure H9 (P:Program) (t u e:TypeId) (size bytes:Nat) (k:IntKind) (z:Value):Prop where
 ut:∀w,(underlying t).run P w=.ok (.slice e) w
 uu:∀w,(underlying u).run P w=.ok (.int k) w
 sB:∀w,(sizeOf e).run P w=.ok size w
 D':∀w,∃i,(typeInfo e).run P w=.ok i w/\i.bytes=bytes
 Ay:∀w,(zeroValue e).run P w=.ok z w
 rC:z.cells.size=size
 pos:1<=size
 small:bytes<=4096
theorem XC (c:Array Value):Builtin.zeroCells c 0=#[]:=by simp [Builtin.zeroCells]
theorem amz {t u e:TypeId} {size bytes:Nat} {k:IntKind} {z:Value} (H:H9 P t u e size bytes k z) {n:Nat} (aL:n<=100000) {ty:TypeId} {w w':World} {A:Option Addr} {dM gJ:Nat} (gj:dM+n<=gJ)
 (di:∀a,A=some a->(storeCells (a.add (dM * size)) (Builtin.zeroCells z.cells n).toList).run P w=.ok () w') (eC:A=none->w'=w):
 (Builtin.append_ #[t,u] ty #[.slice A dM gJ,.int .i64 n]).run P w=.ok (.slice A (dM+n) gJ) w':=by
 have hw:IntKind.i64.wrap (n:Int)=n:=by unfold IntKind.wrap;simp [IntKind.bits,IntKind.signed];omega
 obtain ⟨i,aG,r9⟩:=H.D' w;have u2:¬(281474976710656 < (n:Int) * (i.bytes:Int)):=by rw [r9];have U:n * bytes<=100000 * 4096:=Nat.mul_le_mul aL H.small;have ad:((n * bytes:Nat):Int)=(n:Int) * (bytes:Int):=Int.natCast_mul _ _;omega
 have Ff:¬((n:Int)<0):=by omega
 have cX:size≠0:=by have:=H.pos;omega
 have a_:∀w,(asInt (.int .i64 (n:Int))).run P w=.ok (n:Int) w:=fun w=>by simp [asInt,asIntOf]
 have E0:∀w,(asInt (.int .i64 0)).run P w=.ok 0 w:=fun w=>by simp [asInt,asIntOf]
 have zJ:IntKind.i64.wrap 0=0:=by decide
 cases A with
 | none=>
   have:=eC rfl;subst this;by_cases aV:n=0
   . subst aV;simp [Builtin.append_,H.ut,H.uu,H.sB,E0,aG,zJ,(show dM<=gJ from by omega)]
   . simp [Builtin.append_,H.ut,H.uu,H.sB,H.Ay,a_,aG,u2,hw,gj,Ff,cX,aV]
 | some a=>
   have:=di a rfl;by_cases aV:n=0
   . subst aV;rw [XC] at this;simp [Builtin.append_,H.ut,H.uu,H.sB,E0,aG,zJ,(show dM<=gJ from by omega),this]
   . simp [Builtin.append_,H.ut,H.uu,H.sB,H.Ay,a_,aG,u2,hw,gj,Ff,Nat.mul_ne_zero aV cX,this]
theorem amA {t u e:TypeId} {size bytes:Nat} {k:IntKind} {z:Value} (H:H9 P t u e size bytes k z) {n:Nat} (aL:n<=100000) {ty:TypeId} {w:World} (A:Option Addr) (dM gJ:Nat) (cA:List Value)
 (hold:∀w':World,w'.heap=w.heap->(Builtin.firstCells size dM (.slice A dM gJ)).run P w'=.ok cA.toArray w') (gj:¬dM+n<=gJ) (Cf:dM+n<=top) (aU:cA.length=dM * size) (aD:(Builtin.zeroCells z.cells n).toList.length=n * size):
 ∃cap rest w',dM+n<=cap/\cap * size<=((cA++(Builtin.zeroCells z.cells n).toList).toArray++rest).size/\
  (Builtin.append_ #[t,u] ty #[.slice A dM gJ,.int .i64 n]).run P w=.ok (.slice (some ⟨w.heap.size,0,none⟩) (dM+n) cap) w'/\
  w'.heap=w.heap.push (.cells ((cA++(Builtin.zeroCells z.cells n).toList).toArray++rest) e)/\w'.os=w.os/\w'.tape=w.tape/\w'.output=w.output:=by
 have hw:IntKind.i64.wrap (n:Int)=n:=by simp only [IntKind.wrap,IntKind.bits,IntKind.signed];simp;omega
 obtain ⟨i,aG,r9⟩:=H.D' w;have mD:P.info? e=some i:=by
  simp only [typeInfo,Sem.run_bind,run_program,Result.andThen_ok] at aG;cases aI:P.info? e with
  | none=>rw [aI] at aG;simp at aG
  | some j=>rw [aI] at aG;simp at aG;rw [aG]
 have gO:∀w',(typeInfo e).run P w'=.ok i w':=fun w'=>Al mD w';have af8:¬(281474976710656 < (n:Int) * (i.bytes:Int)):=by rw [r9];have U:n * bytes<=100000 * 4096:=Nat.mul_le_mul aL H.small;have ad:((n * bytes:Nat):Int)=(n:Int) * (bytes:Int):=Int.natCast_mul _ _;omega
 have u2:¬(281474976710656<Builtin.nextslicecap (dM+n) gJ * i.bytes):=by
  have U:gJ<dM+n:=by omega
  have:=growslice_fits (bytes:=i.bytes) U (by rw [r9];have ad:(dM+n) * bytes<=top * 4096:=Nat.mul_le_mul Cf H.small;unfold top at ad;omega);omega
 have j1:¬(9223372036854775807 < ((dM:Int) + (n:Int))):=by unfold top at Cf;omega
 have Ff:¬((n:Int)<0):=by omega
 have cX:size≠0:=by have:=H.pos;omega
 have a_:∀w,(asInt (.int .i64 (n:Int))).run P w=.ok (n:Int) w:=fun w=>by simp [asInt,asIntOf]
 have E0:∀w,(asInt (.int .i64 0)).run P w=.ok 0 w:=fun w=>by simp [asInt,asIntOf]
 have zJ:IntKind.i64.wrap 0=0:=by decide
 let q:Question:=.appendCap (dM+n) gJ e
 let cap:=q.cut (w.tape w.drawn q)
 have oB:dM+n<=cap:=by show dM+n<=(dM+n)+_;omega
 refine ⟨cap,Builtin.zeroCells z.cells (cap - (dM+n)),w.drew.alloc (.cells ((cA++(Builtin.zeroCells z.cells n).toList).toArray++Builtin.zeroCells z.cells (cap - (dM+n))) e),oB,?_,?_,rfl,rfl,rfl,rfl⟩
 . simp only [Array.size_append,List.size_toArray,aqC,aU,aD];have:(Builtin.zeroCells z.cells (cap - (dM+n))).size=(cap - (dM+n)) * size:=by simp [Builtin.zeroCells,H.rC]
   rw [this,<-Nat.add_mul,<-Nat.add_mul];exact ari _ (by omega)
 . have f2:=hold w.drew rfl;by_cases aV:n=0
   . subst aV;have Cb:¬dM<=gJ:=by omega
     have aeu:¬(9223372036854775807 < (dM:Int)):=by omega
     rw [arI] at u2;simp [Builtin.append_,H.ut,H.uu,H.sB,H.Ay,E0,zJ,gO,Cb,u2,aeu,Question.forced,f2,newRow];refine ⟨rfl,?_⟩;have aM:(cA++(Builtin.zeroCells z.cells 0).toList).toArray=cA.toArray:=by rw [XC];simp
     rw [aM];rfl
   . simp [Builtin.append_,H.ut,H.uu,H.sB,H.Ay,a_,hw,af8,Ff,Nat.mul_ne_zero aV cX,gj,gO,u2,j1,Question.forced,f2,newRow];refine ⟨rfl,?_⟩;have aM:(cA++(Builtin.zeroCells z.cells n).toList).toArray=cA.toArray++Builtin.zeroCells z.cells n:=by simp
     rw [aM,Array.append_assoc]
end
section
variable {P:Program}
abbrev aK (rd:Option Nat):Fence:={fn:=fun _=>True,depth:=none,alive:=false,round:=rd}
theorem pO {rd:Option Nat} {n:Nat} {f:FuncId} {args:Array Value} {w:World} {R:Ending->World->Prop}:CallsIn (aK rd) n P f args w R↔Calls P f args w R:=callsIn_wide
theorem G0 {rd:Option Nat} (n:Nat):(aK rd).room n:=fun _ h=>by simp [aK] at h
abbrev l3 (x:Value):List PanicEntry:=[{v:=x,recovered:=false}]
structure gu (P:Program) (call:eF):Prop where
 fn:∀(al:Fr) f args h v ab,f≠dx->call f args h=.val v ab->∀E w xs,bm E args xs->a6 al E h w->
  ((∃fn,P.funcs[f]? =some fn/\fn.body.isSome=true)/\Calls P f xs.toArray w fun e w'=>∃aw x,e=.returned x/\E.le aw/\Rel aw v x/\a6 al aw ab w')\/
  ∃aw x w',(callFunc f xs.toArray).run P w=.ok (.value x) w'/\E.le aw/\Rel aw v x/\a6 al aw ab w'
 cB:∀(al:Fr) f args h v ab,f≠dx->call f args h=.cB v ab->∀E w xs,bm E args xs->a6 al E h w->
  (∃fn,P.funcs[f]? =some fn/\fn.body.isSome=true)/\Calls P f xs.toArray w fun e w'=>∃aw x,e=.panicked (l3 x)/\E.le aw/\Rel aw v x/\a6 al aw ab w'
 Xy:∀(al:Fr) args b h v ab,call dx (args++[.ptr b 0]) h=.val v ab->∀E w xs p,bm E args xs->a6 al E h w->E b=some p->
  ∃f tmps assign body,(Instr.yield p.bd xs.toArray).run P w=.ok (.round p.bd f tmps assign body) w/\
   RoundIn (aK none) 0 P p.bd f tmps assign body w fun e w'=>∃aw x,e=.returned x/\E.le aw/\Rel aw v x/\a6 al aw ab w'
 Xz:∀args h v ab,call dx args h≠.cB v ab
theorem rr {rd:Option Nat} {o:Oper} (p4:∀c,o.op≠.defer c) (ρ:Operand->Value):o.semAt (aK rd).round ρ=execOp ρ o:=Oper.semAt_eq _ ρ o p4
theorem hD {rd:Option Nat} {o:Oper} {a:Act} {w:World} {al:Fr} {E:Env} {ab:ae} {v:V} {m:Sem Value} {K:Act->World->Prop} {Q:Exit->Act->World->Prop}
 (ay:execOp a.eval o=(do pure (.value (<-m)))) (g:eb al P E w m v ab) (ep:∀aw x w',E.le aw->Rel aw v x->a6 al aw ab w'->K (a.put o.dst x) w') (p4:∀c,o.op≠.defer c:=by intro c h;cases h):
 o.wpIn (aK rd) 0 P a w K Q:=by
 obtain ⟨Z,w',aw,U,ad,aC,aX⟩:=g;refine ⟨fun _ _=>trivial,?_⟩;rw [rr p4,ay,Sem.run_bind,U];exact ep aw Z w' ad aC aX
theorem GC {E:Env} {au:Nat} {r:bQ} {a:Act} (k:RegRel0 E au r a):∀l:List (Nat × Operand),sX E ((vK l).run r) (l.map fun (i,x)=>(i,a.eval x))
 | []=>rfl
 | (i,x)::l=>by simp only [vK,List.map,sX];exact ⟨_,_,rfl,ez k x,GC k l⟩
theorem Gw {E:Env} {au:Nat} {r:bQ} {a:Act} (k:RegRel0 E au r a) (x:Option Operand):jg E ((sw x).run r) (x.map a.eval):=by
 cases x with
 | none=>rfl
 | some x=>simp only [sw,jg,Option.map];exact ⟨_,rfl,ez k x⟩
theorem akq {v:V} {f:aN->Nat->a8} {r:V} {h:ae} (he:v.kg .fail f=.val r h):∃b off,v=.ptr b off/\f b off=.val r h:=by
 cases v<;>simp only [V.kg] at he<;>first
  | (cases he;done)
  | exact ⟨_,_,rfl,he⟩
theorem ajY {al:Fr} {E:Env} {h ab:ae} {w:World} (s:a6 al E h w) {x v:V} {X:Value} {ty:TypeId} (ay:Rel E x X) (he:xZ x h=.val v ab):eb al P E w (Instr.next X true ty) v ab:=by
 unfold xZ at he;obtain ⟨b,off,rfl,U⟩:=akq he;have ah:=s.at (p:=_) (by simp only [Rel] at ay;exact ay.choose_spec.1);cases aJ:h.get b with
 | dead=>rw [aJ] at U;cases U
 | view _ _=>rw [aJ] at U;cases U
 | cells _ _ _ _=>rw [aJ] at U;cases U
 | mp _ _=>rw [aJ] at U;cases U
 | e2 _=>rw [aJ] at U;cases U
 | gg=>rw [aJ] at U;cases U
 | jf _=>rw [aJ] at U;cases U
 | kb _ _ _ _=>rw [aJ] at U;cases U
 | iter st pos=>
   rw [aJ] at U ah;simp only at U;obtain ⟨aV,ad⟩:=jX U;rw [aqT] at aV;subst aV;obtain ⟨p,ai,cU,r4,ba⟩:=ah;simp only [Rel] at ay;obtain ⟨q,aI,rfl⟩:=ay;rw [ai] at aI;cases aI;have fN:(getObj p.bd).run P w=.ok (.stringIter ⟨⟨st⟩⟩ pos) w:=by simp only [getObj,Sem.run,ba]
   have cX:(⟨⟨st⟩⟩:ByteArray).size=st.length:=rfl;cases a':Nat.blt pos st.length with
   | true=>
     rw [a'] at ad;simp only [aqo,a8.val.injEq] at ad;obtain ⟨rfl,rfl⟩:=ad;rw [aqS] at a'
     let cm:Obj:=.stringIter ⟨⟨st⟩⟩ (pos + (decodeL st pos).2)
     let w':World:={w with heap:=w.heap.setIfInBounds p.bd cm}
     have mC:=(aql.1 ba).1;have q_:(setObj p.bd cm).run P w=.ok () w':=by simp only [setObj,Sem.run,ba];rfl
     refine ⟨.tuple #[.bool true,goInt pos,.int .i32 (decodeL st pos).1],w',E,?_,Env.le.refl E,?_,s.set (p:=p) (by rw [aJ];rfl) ai cU (by simp [w']) (fun j bU=>?_) rfl rfl rfl (fun _ _ _ e=>by cases e) ?_⟩
     . simp only [Instr.next,r4,Sem.run_bind,fN,Result.andThen_ok,cX,aqw a'];have:(Utf8.decode (⟨⟨st⟩⟩:ByteArray) pos)=decodeL st pos:=rfl;simp only [this];rw [q_];rfl
     . simp only [Rel,bm];exact ⟨_,rfl,_,_,rfl,rfl,_,_,rfl,rfl,_,_,rfl,rfl,rfl⟩
     . simp only [w',aqF];rw [aqr (fun e=>bU e.symm)]
     . exact ⟨p,ai,cU,r4,by simp [w',mC,cm]⟩
   | false=>
     rw [a'] at ad;simp only [aqt,a8.val.injEq] at ad;obtain ⟨rfl,rfl⟩:=ad;have p2:¬pos<st.length:=by rw [<-Nat.blt_eq,a'];simp
     refine eb.plain (Z:=.tuple #[.bool false]) s ?_ ?_
     . simp only [Instr.next,r4,Sem.run_bind,fN,Result.andThen_ok,cX,aqr p2,Sem.run_pure]
     . simp only [Rel,bm];exact ⟨_,rfl,_,_,rfl,rfl,rfl⟩
theorem ama {al:Fr} {E:Env} {h ab:ae} {w:World} (s:a6 al E h w) {t:TypeId} {x v:V} {X:Value} (ay:Rel E x X) (he:(GW P t).run x h=.val v ab):eb al P E w (Instr.range t X) v ab:=by
 unfold GW at he;cases aB:bj P t with
 | none=>rw [aB] at he;cases he
 | some aP=>
   rw [aB] at he;simp only at he;have hu:=gI aB;cases b_:aP.bq with
   | string=>
     rw [b_] at he hu;simp only at he;cases x<;>simp only at he<;>try (cases he;done)
     rename_i st;simp only [a8.val.injEq] at he;obtain ⟨rfl,rfl⟩:=he;have:=ay.uh;subst this;have eC:=s.fresh h.next (aqh _)
     have e0:E.put (aE h.next) ⟨w.heap.size,0,0⟩ (aE h.next)=some ⟨w.heap.size,0,0⟩:=by unfold Env.put;rw [aqw rfl]
     refine ⟨.pointer (some ⟨w.heap.size,0,none⟩),{w with heap:=w.heap.push (.stringIter ⟨⟨st⟩⟩ 0)},_,?_,Env.nU (p:=⟨w.heap.size,0,0⟩) eC,?_,s.alloc 0 ?_⟩
     . simp only [Instr.range,Sem.run_bind,hu,Result.andThen_ok,Sem.run_pure,run_newObj]
     . simp only [Rel];exact ⟨_,e0,by simp⟩
     . exact ⟨_,e0,s.frame.size,rfl,by simp⟩
   | map dV lI=>
     rw [b_] at he hu;exact amb s (hu w) ay he
   | _=>rw [b_] at he;cases he
theorem Y5 {al:Fr} {E:Env} {h ab:ae} {w:World} (s:a6 al E h w) {t u:TypeId} {x y v:V} {X Y:Value} {ty:TypeId}
 (he:(D0 P t u).run x y h=.val v ab) (ay:Rel E x X) (bg:Rel E y Y):eb al P E w (Builtin.append_ #[t,u] ty #[X,Y]) v ab:=by
 unfold D0 at he;cases aB:bj P t with
 | none=>rw [aB] at he;cases he
 | some aP=>
   cases hu:bj P u with
   | none=>rw [aB,hu] at he;cases he
   | some ur=>
     rw [aB,hu] at he;simp only at he
     have main:(∀k,ur.bq≠.int k)->(match aP.bq with
      | .slice e=>match bj P e with
        | none=>(⟨fun _ _ _=>.fail⟩:AD)
        | some bl=>match bl.zero with
          | none=>⟨fun _ _ _=>.fail⟩
          | some z=>bif Nat.ble 1 bl.size&&Nat.ble bl.bytes 4096&&Nat.beq z.cells.length bl.size then ⟨ml bl.size⟩ else ⟨fun _ _ _=>.fail⟩
      | _=>⟨fun _ _ _=>.fail⟩).run x y h=.val v ab->eb al P E w (Builtin.append_ #[t,u] ty #[X,Y]) v ab:=by
      intro sc he;cases b_:aP.bq with
      | slice e=>
        rw [b_] at he;simp only at he;cases cY:bj P e with
        | none=>rw [cY] at he;cases he
        | some bl=>
          rw [cY] at he;simp only at he;cases bK:bl.zero with
          | none=>rw [bK] at he;cases he
          | some z=>
            rw [bK] at he;simp only at he;cases aq:(Nat.ble 1 bl.size&&Nat.ble bl.bytes 4096&&Nat.beq z.cells.length bl.size) with
            | false=>rw [aq] at he;cases he
            | true=>
              rw [aq] at he;simp only [aqo] at he;simp only [aqi,aqE,aqT] at aq;obtain ⟨mR,xG,_,nj⟩:=ux (P:=P) (E:=E) cY bK w;refine Y7 s ⟨fun w=>?_,⟨ur.bq,fun w=>gI hu w,sc⟩,fun w=>k1 cY w,fun w=>G4 cY w,⟨mR,xG,by rw [nj];exact aq.2⟩,aq.1.1,aq.1.2⟩ he ay bg;have:=gI aB w;rw [b_] at this;exact this
      | _=>rw [b_] at he;cases he
     cases zH:ur.bq with
     | int k=>
       rw [zH] at he;simp only at he;cases b_:aP.bq with
       | slice e=>
         rw [b_] at he;simp only at he;cases cY:bj P e with
         | none=>rw [cY] at he;cases he
         | some bl=>
           rw [cY] at he;simp only at he;cases bK:bl.zero with
           | none=>rw [bK] at he;cases he
           | some z=>
             rw [bK] at he;simp only at he;cases aq:(Nat.ble 1 bl.size&&Nat.ble bl.bytes 4096&&Nat.beq z.cells.length bl.size) with
             | false=>rw [aq] at he;cases he
             | true=>
               rw [aq] at he;simp only [aqo] at he;simp only [aqi,aqE,aqT] at aq;obtain ⟨mR,xG,Lo,nj⟩:=ux (P:=P) (E:=E) cY bK w;have zI:∀w,(underlying t).run P w=.ok (.slice e) w:=fun w=>by have:=gI aB w;rw [b_] at this;exact this
               have Lf:∀w,(underlying u).run P w=.ok (.int k) w:=fun w=>by have:=gI hu w;rw [zH] at this;exact this
               have H:H9 P t u e bl.size bl.bytes k mR:=⟨zI,Lf,fun w=>k1 cY w,fun w=>G4 cY w,xG,by rw [nj];exact aq.2,aq.1.1,aq.1.2⟩;unfold Io at he
               split at he
               case h_2=>cases he
               rename_i dL m
               split at he
               case h_2=>cases he
               rename_i n;obtain ⟨o_,bE⟩:=jX he;simp only [aqi,aqE] at o_;have ar:=tg o_.1;subst ar;simp only [Rel] at bg;subst bg;have K6:=Ag Lo n;have hlen:(jR z.cells n).length=n * bl.size:=by rw [<-K6.length];simp [Builtin.zeroCells,nj,aq.2]
               exact Y8 s aq.1.1 K6 hlen (by have:=o_.2;unfold top;omega) (fun w' A dM gJ a b c=>amz H o_.2 a b c) (fun A dM gJ cA a b c d f=>amA H o_.2 A dM gJ cA a b c d f) bE ay
       | _=>rw [b_] at he;cases he
     | _=>rw [zH] at he;exact main (by rw [zH];simp) he
theorem abT {al:Fr} {E:Env} {h ab:ae} {w:World} (s:a6 al E h w) {t:TypeId} {rest:List TypeId} {x y v:V} {X Y:Value} {ty:TypeId}
 (he:(Ef P t).run x y h=.val v ab) (ay:Rel E x X) (bg:Rel E y Y):eb al P E w (Builtin.copy_ (t::rest).toArray ty #[X,Y]) v ab:=by
 unfold Ef at he;cases aB:bj P t with
 | none=>rw [aB] at he;cases he
 | some aP=>
   rw [aB] at he;simp only at he;cases b_:aP.bq with
   | slice e=>
     rw [b_] at he;simp only at he;cases cY:bj P e with
     | none=>rw [cY] at he;cases he
     | some bl=>
       rw [cY] at he;simp only at he;exact abU s (fun w=>by have:=gI aB w;rw [b_] at this;exact this) (fun w=>k1 cY w) he ay bg
   | _=>rw [b_] at he;cases he
theorem aby {al:Fr} {E:Env} {h ab:ae} {w:World} (s:a6 al E h w) {t:TypeId} {x v:V} {X:Value} {ty:TypeId} {z:List V} (aq:Br P t=some z)
 (he:Ee z x h=.val v ab) (ay:Rel E x X):eb al P E w (Builtin.clear_ #[t] ty #[X]) v ab:=by
 unfold Br at aq;cases aB:bj P t with
 | none=>rw [aB] at aq;cases aq
 | some aP=>
   rw [aB] at aq;simp only at aq;cases b_:aP.bq with
   | slice e=>
     rw [b_] at aq;simp only at aq;cases cY:bj P e with
     | none=>rw [cY] at aq;cases aq
     | some bl=>
       rw [cY] at aq;simp only at aq;cases bK:bl.zero with
       | none=>rw [bK] at aq;cases aq
       | some z0=>
         rw [bK] at aq;simp only [aqj] at aq;subst aq;have hu:∀w,(underlying t).run P w=.ok (.slice e) w:=fun w=>by have:=gI aB w;rw [b_] at this;exact this
         obtain ⟨z,nP,Lo,T4⟩:=ux (P:=P) (E:=E) cY bK w;have nothing:∀a c,X=.slice a 0 c->v=.tuple []->ab=h->eb al P E w (Builtin.clear_ #[t] ty #[X]) v ab:=by
          intro a c dD bE ba;subst dD bE ba;refine ⟨.tuple #[],w,E,?_,Env.le.refl E,?_,s⟩
          . cases a<;>simp [Builtin.clear_,Sem.run_bind,hu,Result.andThen_ok,Sem.run_pure]
          . simp only [Rel];exact ⟨_,rfl,rfl⟩
         have WG:∀(b:aN) (off n c:Nat) (p:iq),E b=some p->X=.slice (some ⟨p.bd,p.base+off,none⟩) n c->(bif Nat.beq n 0 then (a8.val (.tuple []) h) else (match lay h b off (jR z0.cells n) with
          | some ab=>a8.val (.tuple []) ab
          | none=>.fail))=.val v ab->eb al P E w (Builtin.clear_ #[t] ty #[X]) v ab:=by
          intro b off n c p ai dD he;cases n with
          | zero=>
            simp only [asm,aqo,a8.val.injEq] at he;exact nothing _ _ dD he.1.symm he.2.symm
          | succ n=>
            simp only [show Nat.beq (n+1) 0=false from rfl,aqt] at he;cases aD:lay h b off (jR z0.cells (n+1)) with
            | none=>rw [aD] at he;cases he
            | some U=>
              rw [aD] at he;simp only [a8.val.injEq] at he;obtain ⟨rfl,rfl⟩:=he;obtain ⟨w',g1,g2⟩:=zS (P:=P) s (Ag Lo (n+1)) aD ai;subst dD;refine ⟨.tuple #[],w',E,?_,Env.le.refl E,?_,g2⟩
              . simp only [Builtin.clear_,Sem.run_bind,List.getElem?_toArray,aqz,hu,nP,Result.andThen_ok];have:(storeCells ⟨p.bd,p.base+off,none⟩ (Builtin.zeroCells z.cells (n+1)).toList).run P w=.ok () w':=g1;simp [this,Sem.run_pure,Result.andThen_ok]
              . simp only [Rel];exact ⟨_,rfl,rfl⟩
         unfold Ee at he;cases x<;>simp only at he<;>try (cases he;done)
         . simp only [Rel] at ay;obtain ⟨p,g1,g2,g3⟩:=ay;exact WG _ _ _ _ p g1 g3 he
         . simp only [Rel] at ay;obtain ⟨p,g1,g2,g3⟩:=ay;exact WG _ _ _ _ p g1 g3 he
         . simp only [Rel] at ay;obtain ⟨a,c,rfl⟩:=ay;simp only [a8.val.injEq] at he;exact nothing _ _ rfl he.1.symm he.2.symm
         . simp only [Rel] at ay;simp only [a8.val.injEq] at he;exact nothing _ _ ay he.1.symm he.2.symm
   | _=>rw [b_] at aq;cases aq
theorem abc {E:Env} {t:TypeId} {aP:o5} {x v:V} {X:Value} {ty:TypeId} (aB:bj P t=some aP) (az:Cs aP.bq=true) (he:Bp x=some v) (ay:Rel E x X) (w:World):
 ∃Z,(Builtin.cap_ #[t] ty #[X]).run P w=.ok Z w/\Rel E v Z:=by
 cases b_:aP.bq with
 | slice e=>
   have hu:∀w,(underlying t).run P w=.ok (.slice e) w:=fun w=>by have:=gI aB w;rw [b_] at this;exact this
   cases x<;>simp only [Bp] at he<;>try (cases he;done)
   . simp only [Rel] at ay;obtain ⟨p,_,_,rfl⟩:=ay;cases he;refine ⟨_,?_,rfl⟩;simp [Builtin.cap_,Sem.run_bind,hu,Result.andThen_ok,Sem.run_pure];rfl
   . simp only [Rel] at ay;subst ay;cases he;refine ⟨_,?_,rfl⟩;simp [Builtin.cap_,Sem.run_bind,hu,Result.andThen_ok,Sem.run_pure];rfl
 | _=>rw [b_] at az;cases az
theorem Dp {α:Type} (a:Array α):a.toList.toArray=a:=by simp
theorem ZT {al:Fr} {E:Env} {h ab:ae} {w:World} (s:a6 al E h w) {b:Builtin} {dp:Array TypeId} {args:List V} {xs:List Value} {v:V} {ty:TypeId} {cs:Array Bool} (aD:bm E args xs)
 (he:(rS P b dp.toList).run args h=.val v ab):∃m:Sem Value,Go.builtin b dp ty cs xs.toArray=(do pure (.value (<-m)))/\eb al P E w m v ab:=by
 have one:∀{x:V},bm E [x] xs->∃X,xs=[X]/\Rel E x X:=by intro x h;simp only [bm] at h;obtain ⟨y,de,rfl,bg,rfl⟩:=h;exact ⟨y,rfl,bg⟩
 have two:∀{x y:V},bm E [x,y] xs->∃X Y,xs=[X,Y]/\Rel E x X/\Rel E y Y:=by intro x y h;simp only [bm] at h;obtain ⟨X,_,rfl,dD,Y,_,rfl,gF,rfl⟩:=h;exact ⟨X,Y,rfl,dD,gF⟩
 cases b<;>simp only [rS] at he<;>try (simp [hl.none] at he;done)
 . -- append
   cases fV:dp.toList with
   | nil=>rw [fV] at he;simp [hl.none] at he
   | cons t um=>
     rw [fV] at he;cases um with
     | nil=>simp [hl.none] at he
     | cons u anN=>
       cases anN with
       | cons _ _=>simp [hl.none] at he
       | nil=>
         simp only at he
         match args,he,aD with
         | [x,y],he,aD=>
           obtain ⟨X,Y,rfl,dD,gF⟩:=two aD;have e:dp=#[t,u]:=by rw [<-Dp dp,fV]
           exact ⟨_,rfl,by rw [e];exact Y5 s he dD gF⟩
         | [],he,_=>cases he
         | [_],he,_=>cases he
         | _::_::_::_,he,_=>cases he
 . -- cap
   cases fV:dp.toList with
   | nil=>rw [fV] at he;simp [hl.none] at he
   | cons t um=>
     rw [fV] at he;cases um with
     | cons _ _=>simp [hl.none] at he
     | nil=>
       simp only at he;cases aB:bj P t with
       | none=>rw [aB] at he;simp [hl.none] at he
       | some aP=>
         rw [aB] at he;simp only at he;cases az:Cs aP.bq with
         | false=>rw [az] at he;simp [hl.none] at he
         | true=>
           rw [az] at he;simp only [aqo] at he
           match args,he,aD with
           | [x],he,aD=>
             obtain ⟨X,rfl,dD⟩:=one aD;have e:dp=#[t]:=by rw [<-Dp dp,fV]
             obtain ⟨e3,rfl⟩:=a8.jL he;obtain ⟨Z,gG,c_⟩:=abc (P:=P) (ty:=ty) aB az e3 dD w;exact ⟨_,rfl,by rw [e];exact eb.plain s gG c_⟩
           | [],he,_=>cases he
           | _::_::_,he,_=>cases he
 . -- clear
   cases fV:dp.toList with
   | nil=>rw [fV] at he;simp [hl.none] at he
   | cons t um=>
     rw [fV] at he;cases um with
     | cons _ _=>simp [hl.none] at he
     | nil=>
       simp only at he;cases aq:Br P t with
       | none=>rw [aq] at he;simp [hl.none] at he
       | some z=>
         rw [aq] at he;simp only at he
         match args,he,aD with
         | [x],he,aD=>
           obtain ⟨X,rfl,dD⟩:=one aD;have e:dp=#[t]:=by rw [<-Dp dp,fV]
           exact ⟨_,rfl,by rw [e];exact aby s aq he dD⟩
         | [],he,_=>cases he
         | _::_::_,he,_=>cases he
 . -- copy
   cases fV:dp.toList with
   | nil=>rw [fV] at he;simp [hl.none] at he
   | cons t um=>
     rw [fV] at he;simp only at he
     match args,he,aD with
     | [x,y],he,aD=>
       obtain ⟨X,Y,rfl,dD,gF⟩:=two aD;have e:dp=(t::um).toArray:=by rw [<-Dp dp,fV]
       exact ⟨_,rfl,by rw [e];exact abT s he dD gF⟩
     | [],he,_=>cases he
     | [_],he,_=>cases he
     | _::_::_::_,he,_=>cases he
 . -- len
   cases fV:dp.toList with
   | nil=>rw [fV] at he;simp [hl.none] at he
   | cons t um=>
     rw [fV] at he;cases um with
     | cons _ _=>simp [hl.none] at he
     | nil=>
       simp only at he;cases aB:bj P t with
       | none=>rw [aB] at he;simp [hl.none] at he
       | some aP=>
         rw [aB] at he;simp only at he
         match args,he,aD with
         | [x],he,aD=>
           obtain ⟨X,rfl,dD⟩:=one aD;have e:dp=[t].toArray:=by rw [<-Dp dp,fV]
           cases hm:vo aP.bq with
           | true=>
             rw [hm] at he;exact ⟨_,rfl,by rw [e];exact aiX s aB hm dD ty [] he⟩
           | false=>
             rw [hm] at he;simp only [aqt] at he;obtain ⟨e3,rfl⟩:=a8.jL he;obtain ⟨Z,gG,c_⟩:=aiY (P:=P) aB e3 dD ty [] w;exact ⟨_,rfl,by rw [e];exact eb.plain s gG c_⟩
         | [],he,_=>cases hm:vo aP.bq<;>rw [hm] at he<;>cases he
         | _::_::_,he,_=>cases hm:vo aP.bq<;>rw [hm] at he<;>cases he
 . -- max
   obtain ⟨e3,rfl⟩:=a8.jL he;clear he;cases args with
   | nil=>cases e3
   | cons x args=>
     simp only [l6] at e3;obtain ⟨k,a,rfl,U⟩:=kY e3;simp only [bm] at aD;obtain ⟨X,de,rfl,dD,aD⟩:=aD;have:=dD.j3;subst this;obtain ⟨Z,gG,c_⟩:=Nc (P:=P) false args de k a v aD U w;exact ⟨_,rfl,eb.plain (Z:=Z) s (by simpa [Builtin.max_] using gG) c_⟩
 . -- min
   obtain ⟨e3,rfl⟩:=a8.jL he;clear he;cases args with
   | nil=>cases e3
   | cons x args=>
     simp only [l6] at e3;obtain ⟨k,a,rfl,U⟩:=kY e3;simp only [bm] at aD;obtain ⟨X,de,rfl,dD,aD⟩:=aD;have:=dD.j3;subst this;obtain ⟨Z,gG,c_⟩:=Nc (P:=P) true args de k a v aD U w;exact ⟨_,rfl,eb.plain (Z:=Z) s (by simpa [Builtin.min_] using gG) c_⟩
end
section
variable {P:Program}
def eO (P:Program):Prop:=∀(f:FuncId) (fn:Func),P.funcs[f]? =some fn->(fn.name == "runtime.NumGoroutine")=false
theorem t' (bO:eO P) {f:FuncId} {fn:Func} (aA:P.funcs[f]? =some fn) (ah:fn.body.isSome=true) (args:Array Value) (w:World):(callFunc f args).run P w=.ok (.enter f args) w:=by
 have ia:fn.body.isNone=false:=by cases h:fn.body with | none=>rw [h] at ah;cases ah | some c=>rfl
 simp only [callFunc,Sem.run_bind,run_program,Result.andThen_ok,aA];rw [aqr (by rw [bO f fn aA];simp)];simp [ia]
theorem LY {α β:Type} (f:α->β) (a:Array α):a.map f=(a.toList.map f).toArray:=by apply arX;simp
theorem M5 (ρ:Operand->Value) (bC:Array (Nat × Operand)):(bC.map fun (i,x)=>(i,ρ x))=(bC.toList.map fun (i,x)=>(i,ρ x)).toArray:=by apply arX;simp
theorem Zk {E:Env} {t wh:TypeId} {aP:o5} {ok:Bool} {x v:V} {X:Value} (aB:bj P t=some aP) (ah:Nat.beq (fW aP.bq) 5=false) (ay:Rel E x X)
 (he:wO t aP.zero ok x=some v) (w:World):∃Z,(Instr.typeAssert X wh t ok).run P w=.ok Z w/\Rel E v Z:=by
 have hu:=gI aB w;have sc:∀ms,aP.bq≠.interface ms:=fun ms e=>by rw [e] at ah;simp [fW] at ah
 have zero:∀z,aP.zero=some z->∃x,(zeroValue t).run P w=.ok x w/\Rel E z x:=fun z bK=>by obtain ⟨x,U,ad,_⟩:=Am (P:=P) aB bK E w;exact ⟨x,U,ad⟩
 unfold wO at he;cases x<;>simp only at he<;>try (cases he;done)
 case iface u y=>
  simp only [Rel] at ay;obtain ⟨Y,rfl,gF⟩:=ay;rw [iE] at he;by_cases zI:u=t
  . rw [aqw zI] at he;simp only [aqj] at he;subst zI;cases ok with
    | true=>
      simp only [aqo] at he;subst he;refine ⟨.tuple #[Y,.bool true],?_,by simp only [Rel,bm];exact ⟨_,rfl,_,_,rfl,gF,_,_,rfl,rfl,rfl⟩⟩;simp only [Instr.typeAssert,Sem.run_bind,hu,Result.andThen_ok];cases b_:aP.bq<;>first
       | exact absurd b_ (sc _)
       | (simp only [aqu];rfl)
    | false=>
      simp only [aqt] at he;subst he;refine ⟨Y,?_,gF⟩;simp only [Instr.typeAssert,Sem.run_bind,hu,Result.andThen_ok];cases b_:aP.bq<;>first
       | exact absurd b_ (sc _)
       | (simp only [aqu];rfl)
  . rw [aqr zI] at he;cases ok with
    | false=>cases he
    | true=>
      simp only [aqo] at he;cases bK:aP.zero with
      | none=>rw [bK] at he;cases he
      | some z=>
        rw [bK] at he;simp only [aqj] at he;subst he;obtain ⟨bo,cp,z2⟩:=zero z bK;refine ⟨.tuple #[bo,.bool false],?_,by simp only [Rel,bm];exact ⟨_,rfl,_,_,rfl,z2,_,_,rfl,rfl,rfl⟩⟩;simp only [Instr.typeAssert,Sem.run_bind,hu,Result.andThen_ok];cases b_:aP.bq<;>first
         | exact absurd b_ (sc _)
         | (simp only [aqr zI,aqu,Sem.run_bind,cp,Result.andThen_ok];rfl)
 case nilIface=>
  simp only [Rel] at ay;subst ay;cases ok with
  | false=>cases he
  | true=>
    simp only [aqo] at he;cases bK:aP.zero with
    | none=>rw [bK] at he;cases he
    | some z=>
      rw [bK] at he;simp only [aqj] at he;subst he;obtain ⟨bo,cp,z2⟩:=zero z bK;refine ⟨.tuple #[bo,.bool false],?_,by simp only [Rel,bm];exact ⟨_,rfl,_,_,rfl,z2,_,_,rfl,rfl,rfl⟩⟩;simp only [Instr.typeAssert,Sem.run_bind,hu,Result.andThen_ok];cases b_:aP.bq<;>first
       | exact absurd b_ (sc _)
       | (simp only [aqu,Sem.run_bind,cp,Result.andThen_ok];rfl)
def gB (P:Program) (call:eF):Prop:=∀f args h v ab,call f args h=.val v ab->True
theorem RV {rd:Option Nat} {al:Fr} {E:Env} {h ab:ae} {w:World} {call:eF} (bO:eO P) (cH:gu P call) (eu:gB P call) {o:Oper} {au:Nat} {r:bQ} {a:Act} {v:V}
 (he:(fU P o).run call r h=.val v ab) (k:RegRel0 E au r a) (s:a6 al E h w) {K:Act->World->Prop} {Q:Exit->Act->World->Prop}
 (ep:∀aw x w',E.le aw->Rel aw v x->a6 al aw ab w'->K (a.put o.dst x) w'):o.wpIn (aK rd) 0 P a w K Q:=by
 obtain ⟨dst,op,type,pos,after,guard⟩:=o;cases op<;>simp only [fU] at he<;>try (simp [en.none] at he;done)
 case move x=>
  simp only [a8.val.injEq] at he;obtain ⟨rfl,rfl⟩:=he;exact hD (m:=pure (a.eval x)) rfl (eb.plain s rfl (ez k x)) ep
 case assign x=>
  simp only [a8.val.injEq] at he;obtain ⟨rfl,rfl⟩:=he;exact hD (m:=pure (a.eval x)) rfl (eb.plain s rfl (ez k x)) ep
 case pick c x y=>
  have aq:=ez k c;generalize (b9 c).run r=hh at he aq;cases hh<;>simp only at he<;>try (cases he;done)
  rename_i t;simp only [a8.val.injEq] at he;obtain ⟨rfl,rfl⟩:=he;simp only [Rel] at aq;refine hD (m:=do pure (if <-asBool (a.eval c) then a.eval x else a.eval y)) (by simp only [execOp,bind_assoc,pure_bind]) (eb.plain (Z:=if t then a.eval x else a.eval y) s ?_ ?_) ep
  . rw [aq];rfl
  . cases t
    . exact ez k y
    . exact ez k x
 case alloc t=>
  cases aB:bj P t with
  | none=>rw [aB] at he;simp [en.none] at he
  | some aP=>
    rw [aB] at he;simp only at he;cases bK:aP.zero with
    | none=>rw [bK] at he;simp [en.none] at he
    | some z=>
      rw [bK] at he;simp only at he;cases aL:hB h z.cells with
      | none=>rw [aL] at he;cases he
      | some U=>
        rw [aL] at he;simp only [ig,a8.val.injEq] at he;obtain ⟨rfl,rfl⟩:=he;obtain ⟨x,ay,p8,_⟩:=ux (P:=P) (E:=E) aB bK w;obtain ⟨aw,g1,g2,g3,g4⟩:=Gf (P:=P) s p8 aL t;have JT:(newRow t x.cells).run P w=.ok ⟨w.heap.size,0,none⟩ {w with heap:=w.heap.push (.cells x.cells t)}:=by simpa using g3
        have JU:a6 al aw U {w with heap:=w.heap.push (.cells x.cells t)}:=by simpa using g4
        exact hD (m:=Instr.alloc t true (.tuple #[])) rfl ⟨.pointer (some ⟨w.heap.size,0,none⟩),_,aw,by simp only [Instr.alloc,Sem.run_bind,ay,Result.andThen_ok,newVar,JT,Sem.run_pure],g1,by simp only [Rel];exact ⟨_,g2,by simp⟩,JU⟩ ep
 case box t x=>
  obtain ⟨aJ,he⟩:=jX he;cases aL:hB h ((b9 x).run r).cells with
  | none=>rw [aL] at he;cases he
  | some U=>
    rw [aL] at he;simp only [ig,a8.val.injEq] at he;obtain ⟨rfl,rfl⟩:=he;have aD:=(ez k x).cells (fun e=>by rw [e] at aJ;cases aJ);obtain ⟨aw,g1,g2,g3,g4⟩:=Gf (P:=P) s aD aL t;have JT:(newRow t (a.eval x).cells).run P w=.ok ⟨w.heap.size,0,none⟩ {w with heap:=w.heap.push (.cells (a.eval x).cells t)}:=by simpa using g3
    have JU:a6 al aw U {w with heap:=w.heap.push (.cells (a.eval x).cells t)}:=by simpa using g4
    exact hD (m:=Instr.box t (a.eval x)) rfl ⟨.pointer (some ⟨w.heap.size,0,none⟩),_,aw,by simp only [Instr.box,Sem.run_bind,newVar,JT,Result.andThen_ok,Sem.run_pure],g1,by simp only [Rel];exact ⟨_,g2,by simp⟩,JU⟩ ep
 case build t bC=>
  obtain ⟨e3,rfl⟩:=a8.jL he;clear he;obtain ⟨Z,gG,c_⟩:=ZP (P:=P) (GC k bC.toList) e3 w;refine hD (m:=Instr.build t (bC.map fun (i,x)=>(i,a.eval x))) rfl (eb.plain (Z:=Z) s ?_ c_) ep;rw [M5];exact gG
 case buildSlice t n bC=>
  refine hD (m:=Instr.buildSlice t n (bC.map fun (i,x)=>(i,a.eval x))) rfl ?_ ep;rw [M5];exact ZR s (GC k bC.toList) he
 case load t x=>
  obtain ⟨e3,rfl⟩:=a8.jL he;clear he;obtain ⟨Y,gF,c_,_⟩:=UO (P:=P) s (ez k x) e3;exact hD (m:=Instr.loadAt t (a.eval x)) rfl (eb.plain s gF c_) ep
 case store t x y=>
  cases di:(uf P t).run h ((b9 x).run r) ((b9 y).run r) with
  | none=>rw [di] at he;cases he
  | some U=>
    rw [di] at he;simp only [ig,a8.val.injEq] at he;obtain ⟨rfl,rfl⟩:=he;obtain ⟨w',da,kF⟩:=anf (P:=P) s (ez k x) (ez k y) di;refine ⟨fun _ _=>trivial,?_⟩;rw [rr (by intro c h;cases h)];have:execOp a.eval ⟨dst,.store t x y,type,pos,after,guard⟩=(do Instr.storeAt t (a.eval x) (a.eval y);pure .skip):=rfl;rw [this,Sem.run_bind,da];exact ep E undef w' (Env.le.refl E) (by simp [Rel]) kF
 case nilCheck x=>
  obtain ⟨e3,rfl⟩:=a8.jL he;clear he;have ay:=ez k x;generalize (b9 x).run r=yB at e3 ay
  have fN:∀X,Rel E yB X->(match X with
   | .pointer none | .nilIface | .nilFunc=>(runtimePanic .nilDeref:Sem Next)
   | .func (.method name) first captured=>
     match (first[0]? :Option Value) with
     | some .nilIface=>runtimePanic .nilDeref
     | some (.iface t w)=>do
       if (<-nilAhead ((<-program).types.size+Made.depth) t w name) != some false then
        unsupported (.noEntry "op/nilCheck.the method's receiver behind this interface value is a nil pointer, or cannot be seen to be none, and the arguments act or may panic (ledger 612)")
       pure (.value (.func (.method name) first captured))
     | _=>pure (.value (.func (.method name) first captured))
   | x=>pure (.value x))=pure (.value X)/\v=yB:=by
   intro X dD;cases yB<;>simp only [vD] at e3<;>try (cases e3;done)
   all_goals simp only [aqj] at e3
   all_goals simp only [Rel] at dD
   . obtain ⟨p,_,rfl⟩:=dD;exact ⟨rfl,e3.symm⟩
   . rcases dD with ⟨_,_,rfl,_⟩ | ⟨_,_,_,_,_,rfl⟩<;>exact ⟨rfl,e3.symm⟩
   . obtain ⟨p,rfl,_⟩:=dD;exact ⟨rfl,e3.symm⟩
   . obtain ⟨_,p,rfl,_⟩:=dD;exact ⟨rfl,e3.symm⟩
  obtain ⟨U,rfl⟩:=fN _ ay;exact hD (m:=pure (a.eval x)) (by simp only [execOp];rw [pure_bind];exact U) (eb.plain s rfl ay) ep
 case binOp op t x y u=>
  obtain ⟨e3,rfl⟩:=a8.jL he;clear he;obtain ⟨Z,gG,c_⟩:=ZF (P:=P) (kh:=x) (ki:=y) e3 (ez k x) (ez k y) w;exact hD rfl (eb.plain s gG c_) ep
 case unOp op t x=>
  obtain ⟨e3,rfl⟩:=a8.jL he;clear he;obtain ⟨Z,gG,c_⟩:=an0 (P:=P) e3 (ez k x) w;exact hD (m:=Op.unary op (a.eval x)) rfl (eb.plain s gG c_) ep
 case convert t u x=>exact hD (m:=convert t u (a.eval x)) rfl (abQ s he (ez k x)) ep
 case makeInterface t x=>
  cases aB:bj P t with
  | none=>rw [aB] at he;simp [en.none] at he
  | some aP=>
    rw [aB] at he;simp only at he;cases ah:Nat.beq (fW aP.bq) 5 with
    | true=>rw [ah] at he;simp [en.none] at he
    | false=>
      rw [ah] at he;simp only [aqt,a8.val.injEq] at he;obtain ⟨rfl,rfl⟩:=he;refine hD (m:=Instr.makeInterface t (a.eval x)) rfl (eb.plain (Z:=.iface t (a.eval x)) s ?_ ?_) ep
      . have hu:=gI aB w;simp only [Instr.makeInterface,Sem.run_bind,hu,Result.andThen_ok];cases b_:aP.bq<;>first
         | rfl
         | (rw [b_] at ah;simp [fW] at ah)
      . simp only [Rel];exact ⟨_,rfl,ez k x⟩
 case makeFunc fn first ff=>
  cases fn<;>simp only at he<;>try (simp [en.none] at he;done)
  rename_i f;cases aA:(first.isEmpty&&!Nat.beq f dx) with
  | false=>
    rw [aA] at he;simp only [aqt] at he;cases kB:(ff.isEmpty&&!Nat.beq f dx) with
    | false=>rw [kB] at he;simp [en.none] at he
    | true=>
      rw [kB] at he;simp only [aqo,a8.val.injEq] at he;obtain ⟨rfl,rfl⟩:=he;simp only [aqi,arb] at kB;have Ks:f≠dx:=fun e=>by rw [e] at kB;exact absurd kB.2 (by decide)
      have Kp:ff=#[]:=by simpa using kB.1
      subst Kp;refine hD (m:=Instr.makeFunc (.func f) (first.map a.eval) #[]) (by simp [execOp]) (eb.plain s rfl ?_) ep;simp only [Rel];exact ⟨Ks,_,rfl,by rw [LY];simpa using qQ k first.toList⟩
  | true=>
    rw [aA] at he;simp only [aqo,a8.val.injEq] at he;obtain ⟨rfl,rfl⟩:=he;simp only [aqi,arb] at aA;have Ks:f≠dx:=fun e=>by rw [e] at aA;exact absurd aA.2 (by decide)
    have Kp:first=#[]:=by simpa using aA.1
    subst Kp;refine hD (m:=Instr.makeFunc (.func f) #[] (ff.map a.eval)) (by simp [execOp]) (eb.plain s rfl ?_) ep;simp only [Rel];exact .inl ⟨Ks,_,rfl,by rw [LY];simpa using qQ k ff.toList⟩
 case makeSlice t l c=>exact hD (m:=Instr.makeSlice t (a.eval l) (a.eval c)) rfl (ajr s (ez k l) (ez k c) he) ep
 case slice t x aZ aG e4=>
  obtain ⟨e3,rfl⟩:=a8.jL he;clear he;obtain ⟨Z,gG,c_⟩:=am4 (P:=P) e3 (ez k x) (Gw k aZ) (Gw k aG) (Gw k e4) w;exact hD (m:=Instr.sliceAt t (a.eval x) (aZ.map a.eval) (aG.map a.eval) (e4.map a.eval)) rfl (eb.plain s gG c_) ep
 case fieldAddr t x i=>
  obtain ⟨e3,rfl⟩:=a8.jL he;clear he;obtain ⟨Z,gG,c_⟩:=ac7 (P:=P) e3 (ez k x) w;exact hD (m:=Instr.fieldAt t (a.eval x) i) rfl (eb.plain s gG c_) ep
 case field t x i=>
  obtain ⟨e3,rfl⟩:=a8.jL he;clear he;obtain ⟨Z,gG,c_⟩:=ac8 (P:=P) e3 (ez k x) w;exact hD (m:=Instr.field t (a.eval x) i) rfl (eb.plain s gG c_) ep
 case indexAddr t x i=>
  obtain ⟨e3,rfl⟩:=a8.jL he;clear he;obtain ⟨Z,gG,c_⟩:=agk (P:=P) e3 (ez k x) (ez k i) w;exact hD (m:=Instr.indexAt t (a.eval x) (a.eval i)) rfl (eb.plain s gG c_) ep
 case index t x i=>
  obtain ⟨e3,rfl⟩:=a8.jL he;clear he;obtain ⟨Z,gG,c_⟩:=agm (P:=P) e3 (ez k x) (ez k i) w;exact hD (m:=Instr.index t (a.eval x) (a.eval i)) rfl (eb.plain s gG c_) ep
 case range t x=>exact hD (m:=Instr.range t (a.eval x)) rfl (ama s (ez k x) he) ep
 case next it zO=>
  cases zO with
  | true=>exact hD (m:=Instr.next (a.eval it) true type) rfl (ajY s (ez k it) he) ep
  | false=>exact hD (m:=Instr.next (a.eval it) false type) rfl (ajW s (ez k it) he) ep
 case entry it=>exact hD (m:=Instr.entry (a.eval it)) rfl (acE s (ez k it) he) ep
 case lookup t x y ok=>
  obtain ⟨e3,rfl⟩:=a8.jL he;clear he;obtain ⟨Z,gG,c_⟩:=ajg (P:=P) s (ez k x) (ez k y) e3;exact hD (m:=Instr.lookup t (a.eval x) (a.eval y) ok) rfl (eb.plain s gG c_) ep
 case mapEntry t m y=>exact hD (m:=Instr.mapEntry t (a.eval m) (a.eval y)) rfl (ajt s (ez k m) (ez k y) he) ep
 case entryStore t m st x=>
  cases di:By h ((b9 m).run r) ((b9 st).run r) ((b9 x).run r) with
  | none=>rw [di] at he;cases he
  | some U=>
    rw [di] at he;simp only [ig,a8.val.injEq] at he;obtain ⟨rfl,rfl⟩:=he;obtain ⟨w',da,kF⟩:=acD (P:=P) (t:=t) s (ez k m) (ez k st) (ez k x) di;refine ⟨fun _ _=>trivial,?_⟩;rw [rr (by intro c h;cases h)];have:execOp a.eval ⟨dst,.entryStore t m st x,type,pos,after,guard⟩=(do Instr.entryStore t (a.eval m) (a.eval st) (a.eval x);pure .skip):=rfl;rw [this,Sem.run_bind,da];exact ep E undef w' (Env.le.refl E) (by simp [Rel]) kF
 case mapUpdate t m y x=>
  cases di:(qz P t).run h ((b9 m).run r) ((b9 y).run r) ((b9 x).run r) with
  | none=>rw [di] at he;cases he
  | some U=>
    rw [di] at he;simp only [ig,a8.val.injEq] at he;obtain ⟨rfl,rfl⟩:=he;obtain ⟨w',da,kF⟩:=Xe (P:=P) s (ez k m) (ez k y) (ez k x) di;refine ⟨fun _ _=>trivial,?_⟩;rw [rr (by intro c h;cases h)];have:execOp a.eval ⟨dst,.mapUpdate t m y x,type,pos,after,guard⟩=(do Instr.mapUpdate t (a.eval m) (a.eval y) (a.eval x);pure .skip):=rfl;rw [this,Sem.run_bind,da];exact ep E undef w' (Env.le.refl E) (by simp [Rel]) kF
 case insert t m y x=>
  cases di:(qz P t).run h ((b9 m).run r) ((b9 y).run r) ((b9 x).run r) with
  | none=>rw [di] at he;cases he
  | some U=>
    rw [di] at he;simp only [ig,a8.val.injEq] at he;obtain ⟨rfl,rfl⟩:=he;obtain ⟨w',da,kF⟩:=Xe (P:=P) s (ez k m) (ez k y) (ez k x) di;refine ⟨fun _ _=>trivial,?_⟩;rw [rr (by intro c h;cases h)];have:execOp a.eval ⟨dst,.insert t m y x,type,pos,after,guard⟩=(do Instr.mapUpdate t (a.eval m) (a.eval y) (a.eval x);pure .skip):=rfl;rw [this,Sem.run_bind,da];exact ep E undef w' (Env.le.refl E) (by simp [Rel]) kF
 case makeMap t x=>exact hD (m:=Instr.makeMap t (x.map a.eval)) rfl (ajq s (Gw k x) he) ep
 case panic x=>
  exfalso;unfold Aa at he
  split at he<;>cases he
 case typeAssert x wh t ok=>
  cases aB:bj P t with
  | none=>rw [aB] at he;simp [en.none] at he
  | some aP=>
    rw [aB] at he;simp only at he;cases ah:Nat.beq (fW aP.bq) 5 with
    | true=>rw [ah] at he;simp [en.none] at he
    | false=>
      rw [ah] at he;simp only [aqt] at he;obtain ⟨e3,rfl⟩:=a8.jL he;clear he;obtain ⟨Z,gG,c_⟩:=Zk aB ah (wh:=wh) (ez k x) e3 w;exact hD (m:=Instr.typeAssert (a.eval x) wh t ok) rfl (eb.plain s gG c_) ep
 case extract x i=>
  have ay:=ez k x;generalize (b9 x).run r=yB at he ay;cases yB<;>simp only at he<;>try (cases he;done)
  obtain ⟨e3,rfl⟩:=a8.jL he;clear he;simp only [Rel] at ay;obtain ⟨arr,dD,aD⟩:=ay;obtain ⟨y,bg,c_⟩:=aD.get i v e3;refine hD (m:=Instr.extract (a.eval x) i) rfl (eb.plain (Z:=y) s ?_ c_) ep;rw [dD];have:arr[i]? =some y:=by simpa using bg
  simp only [Instr.extract,this,Sem.run_pure]
 case call c=>
  obtain ⟨callee,args,types⟩:=c;cases callee with
  | invoke _ _=>simp [rT,en.none] at he
  | builtin b=>
    simp only [rT] at he;obtain ⟨cs,h0⟩:∃cs,execOp a.eval ⟨dst,.call ⟨.builtin b,args,types⟩,type,pos,after,guard⟩=Go.builtin b types type cs (args.map a.eval):=by simp only [execOp,resolve,pure_bind,invoke];exact ⟨_,rfl⟩
    obtain ⟨m,hm,aJ⟩:=ZT (P:=P) (ty:=type) (cs:=cs) s (qQ k args.toList) he;refine hD (m:=m) ?_ aJ ep;rw [h0,<-hm,LY]
  | value f=>
    simp only [rT] at he;have aA:=ez k f;generalize afV:(b9 f).run r=yz at he aA;cases yz<;>simp only [V.x8] at he<;>try (cases he;done)
    rotate_left
    . rename_i g cs;simp only [Rel] at aA;refine ⟨fun _ _=>trivial,?_⟩;rw [rr (by intro c h;cases h)];obtain ⟨aJ,first,dD,aD⟩:=aA;have qX:=bm.append aD (qQ k args.toList);have o_:=cH.fn _ _ _ _ _ _ aJ he E w _ qX s;have hex:execOp a.eval ⟨dst,.call ⟨.value f,args,types⟩,type,pos,after,guard⟩=callFunc g (first++args.map a.eval):=by
       simp only [execOp,resolve,dD,Deferred.ofValue,pure_bind,invoke];simp
      have e:first++args.map a.eval=(first.toList++args.toList.map a.eval).toArray:=by apply arX;simp
      rw [hex,e];rcases o_ with ⟨⟨fn,hL,ah⟩,aq⟩ | ⟨aw,x,w',aa,an,av,aH⟩
      case inr=>
       rw [aa];exact ep aw x w' an av aH
      rw [t' bO hL ah];refine ⟨fun h=>by simp at h,pO.2 (aq.mono fun e w' aI=>?_)⟩;obtain ⟨aw,x,rfl,an,av,aH⟩:=aI;exact ep aw x w' an av aH
    rename_i g cs;simp only [Rel] at aA;refine ⟨fun _ _=>trivial,?_⟩;rw [rr (by intro c h;cases h)];rcases aA with ⟨aJ,ff,dD,aD⟩ | ⟨aJ,b,p,h0,ai,dD⟩
    . have qX:=(qQ k args.toList).append aD;have o_:=cH.fn _ _ _ _ _ _ aJ he E w _ qX s;have hex:execOp a.eval ⟨dst,.call ⟨.value f,args,types⟩,type,pos,after,guard⟩=callFunc g (args.map a.eval++ff):=by
       simp only [execOp,resolve,dD,Deferred.ofValue,pure_bind,invoke];simp
      have e:args.map a.eval++ff=(args.toList.map a.eval++ff.toList).toArray:=by apply arX;simp
      rw [hex,e];rcases o_ with ⟨⟨fn,hL,ah⟩,aq⟩ | ⟨aw,x,w',aa,an,av,aH⟩
      case inr=>
       rw [aa];exact ep aw x w' an av aH
      rw [t' bO hL ah];refine ⟨fun h=>by simp at h,pO.2 (aq.mono fun e w' aI=>?_)⟩;obtain ⟨aw,x,rfl,an,av,aH⟩:=aI;exact ep aw x w' an av aH
    . subst aJ h0;obtain ⟨JI,tmps,assign,body,an,av⟩:=cH.Xy _ _ _ _ _ _ he E w _ p (qQ k args.toList) s ai;have hex:execOp a.eval ⟨dst,.call ⟨.value f,args,types⟩,type,pos,after,guard⟩=Instr.yield p.bd (args.map a.eval):=by
       simp only [execOp,resolve,dD,Deferred.ofValue,pure_bind,invoke];simp
      have e:args.map a.eval=(args.toList.map a.eval).toArray:=by apply arX;simp
      rw [hex,e,an];refine ⟨fun h=>by simp at h,RoundIn.mono av fun e w' aI=>?_⟩;obtain ⟨aw,x,rfl,ca,b5,b6⟩:=aI;exact ep aw x w' ca b5 b6
end
section
variable {P:Program}
theorem JZ {E:Env} {au:Nat} {r:bQ} {a:Act} (k:RegRel0 E au r a) {all:Array Oper} {j:Nat} {g:Oper} {d:Nat} (bU:all[j]? =some g) (aY:g.dst=some d) (aeH:d<au) (xn:d<=top):
 (∀b,T.get .bad (aE d) r=.bool b->yielded all a.tmps j=some b)/\(∀af,T.get .bad (aE d) r=.tuple af->yielded all a.tmps j=none):=by
 have aa:=k.ax d xn;have a':d<a.tmps.size:=by rw [k.size];exact aeH
 have he:a.tmps[d]? =some (a.tmps.getD d undef):=by simp [aqM,a']
 refine ⟨fun b ah=>?_,fun af ah=>?_⟩
 . rw [ah] at aa;simp only [Rel] at aa;simp only [yielded,bU,Option.bind,aY,he,aa]
 . rw [ah] at aa;simp only [Rel] at aa;obtain ⟨arr,aa,_⟩:=aa;simp only [yielded,bU,Option.bind,aY,he,aa]
theorem RS {rd:Option Nat} {al:Fr} {E:Env} {h ab:ae} {w:World} {call:eF} (bO:eO P) (cH:gu P call) {o:Oper} {au:Nat} {r:bQ} {a:Act} {v:V} (hm:j5 o.op=true)
 (he:(fU P o).run call r h=.cB v ab) (k:RegRel0 E au r a) (s:a6 al E h w) {K:Act->World->Prop} {Q:Exit->Act->World->Prop}
 (cR:∀aw x w',E.le aw->Rel aw v x->a6 al aw ab w'->Q (.panic (l3 x)) a w'):o.wpIn (aK rd) 0 P a w K Q:=by
 obtain ⟨dst,op,type,pos,after,guard⟩:=o;cases op<;>simp only [j5] at hm<;>try (cases hm;done)
 all_goals simp only [fU] at he
 case panic x=>
  have ay:=ez k x;generalize (b9 x).run r=yB at he ay;unfold Aa at he;cases yB<;>simp only at he<;>try (cases he;done)
  simp only [a8.cB.injEq] at he;obtain ⟨rfl,rfl⟩:=he;have Cl:=ay;simp only [Rel] at ay;obtain ⟨Y,dD,gF⟩:=ay;refine ⟨fun _ _=>trivial,?_⟩;rw [rr (by intro c h;cases h)];have hex:(execOp a.eval ⟨dst,.panic x,type,pos,after,guard⟩).run P w=.halt (.panic (a.eval x)) w:=by simp only [execOp,dD,Instr.panic,Sem.run_bind];rfl
  rw [hex];exact cR E _ w (Env.le.refl E) Cl s
 case call c=>
  obtain ⟨callee,args,types⟩:=c;cases callee<;>simp only at hm<;>try (cases hm;done)
  rename_i f;simp only [rT] at he;have aA:=ez k f;generalize afV:(b9 f).run r=yz at he aA;cases yz<;>simp only [V.x8] at he<;>try (cases he;done)
  rotate_left
  . rename_i g cs;simp only [Rel] at aA;refine ⟨fun _ _=>trivial,?_⟩;rw [rr (by intro c h;cases h)];obtain ⟨aJ,first,dD,aD⟩:=aA;have qX:=bm.append aD (qQ k args.toList);obtain ⟨⟨fn,hL,ah⟩,aq⟩:=cH.cB _ _ _ _ _ _ aJ he E w _ qX s;have hex:execOp a.eval ⟨dst,.call ⟨.value f,args,types⟩,type,pos,after,guard⟩=callFunc g (first++args.map a.eval):=by
     simp only [execOp,resolve,dD,Deferred.ofValue,pure_bind,invoke];simp
    have e:first++args.map a.eval=(first.toList++args.toList.map a.eval).toArray:=by apply arX;simp
    rw [hex,e,t' bO hL ah];refine ⟨fun h=>by simp at h,pO.2 (aq.mono fun e w' aI=>?_)⟩;obtain ⟨aw,x,rfl,an,av,aH⟩:=aI;exact cR aw x w' an av aH
  rename_i g cs;simp only [Rel] at aA;refine ⟨fun _ _=>trivial,?_⟩;rw [rr (by intro c h;cases h)];rcases aA with ⟨aJ,ff,dD,aD⟩ | ⟨aJ,b,p,h0,ai,dD⟩
  . have qX:=(qQ k args.toList).append aD;obtain ⟨⟨fn,hL,ah⟩,aq⟩:=cH.cB _ _ _ _ _ _ aJ he E w _ qX s;have hex:execOp a.eval ⟨dst,.call ⟨.value f,args,types⟩,type,pos,after,guard⟩=callFunc g (args.map a.eval++ff):=by
     simp only [execOp,resolve,dD,Deferred.ofValue,pure_bind,invoke];simp
    have e:args.map a.eval++ff=(args.toList.map a.eval++ff.toList).toArray:=by apply arX;simp
    rw [hex,e,t' bO hL ah];refine ⟨fun h=>by simp at h,pO.2 (aq.mono fun e w' aI=>?_)⟩;obtain ⟨aw,x,rfl,an,av,aH⟩:=aI;exact cR aw x w' an av aH
  . subst aJ;exact absurd he (cH.Xz _ _ _ _)
def o2 (al:Fr) (E:Env) (au:Nat) (K:Act->World->Prop) (Q:Exit->Act->World->Prop):pI->Prop
 | .ok r h=>∀aw a1 w',E.le aw->gb aw au r a1->a6 al aw h w'->K a1 w'
 | .cB v r h=>∀aw a1 w' x,E.le aw->gb aw au r a1->Rel aw v x->a6 al aw h w'->Q (.panic (l3 x)) a1 w'
 | .fail=>False
theorem o2.up {al:Fr} {E aw:Env} (h:E.le aw) {au:Nat} {K:Act->World->Prop} {Q:Exit->Act->World->Prop} {x:pI} (k:o2 al E au K Q x):o2 al aw au K Q x:=by
 cases x with
 | ok r ba=>exact fun b1 a w ad=>k b1 a w (h.trans ad)
 | cB v r ba=>exact fun b1 a w x ad=>k b1 a w x (h.trans ad)
 | fail=>exact k
theorem Vy {rd:Option Nat} {al:Fr} {E:Env} {h:ae} {w:World} {call:eF} (bO:eO P) (cH:gu P call) (eu:gB P call) {all:Array Oper} {i:Nat} {o:Oper} (aG:all[i]? =some o) {au:Nat} {r:bQ} {a:Act}
 (aY:fm au o.dst=true) (k:gb E au r a) (s:a6 al E h w) {K:Act->World->Prop} {Q:Exit->Act->World->Prop} (hw:Region.wanted o (yielded all a.tmps)=true)
 (ai:o2 al E au K Q (Gv (j5 o.op) (fU P o) (gl o.dst) call r h)):wpOpIn (aK rd) 0 P all Q i K a w:=by
 simp only [wpOpIn,aG,hw,aqu];unfold Gv at ai;cases aU:(fU P o).run call r h with
 | fail=>rw [aU] at ai;exact ai.elim
 | val v U=>
   rw [aU] at ai;exact RV bO cH eu aU k.toRegRel0 s fun aw x w' an av aH=>ai aw _ w' an ((k.mono an).put aY av) aH
 | cB v U=>
   rw [aU] at ai;simp only at ai;cases hm:j5 o.op with
   | false=>rw [hm] at ai;exact ai.elim
   | true=>
     rw [hm] at ai;exact RS bO cH hm aU k.toRegRel0 s fun aw x w' an av aH=>ai aw a w' x an (k.mono an) av aH
theorem Xd {rd:Option Nat} {al:Fr} {E:Env} {h:ae} {w:World} {all:Array Oper} {i:Nat} {o:Oper} (aG:all[i]? =some o) {au:Nat} {r:bQ} {a:Act}
 (aY:fm au o.dst=true) (k:gb E au r a) (s:a6 al E h w) {K:Act->World->Prop} {Q:Exit->Act->World->Prop} (hw:Region.wanted o (yielded all a.tmps)=false)
 (ai:o2 al E au K Q (.ok ((gl o.dst).run r (.tuple [])) h)):wpOpIn (aK rd) 0 P all Q i K a w:=by
 simp only [wpOpIn,aG,hw,aqk,aqs];exact ⟨fun _ _=>trivial,ai E _ w (Env.le.refl E) (k.put aY (by simp only [Rel];exact ⟨#[],rfl,rfl⟩)) s⟩
theorem Gu {rd:Option Nat} {al:Fr} {E:Env} {h:ae} {w:World} {call:eF} (bO:eO P) (cH:gu P call) (eu:gB P call) {all:Array Oper} {i:Nat} {o:Oper} (aG:all[i]? =some o) {au:Nat} {r:bQ} {a:Act}
 (aY:fm au o.dst=true) (k:gb E au r a) (s:a6 al E h w) {K:Act->World->Prop} {Q:Exit->Act->World->Prop}
 (ai:o2 al E au K Q ((z_ P au all o).run call r h)):wpOpIn (aK rd) 0 P all Q i K a w:=by
 unfold z_ at ai;cases aJ:o.guard with
 | none=>
   rw [aJ] at ai;exact Vy bO cH eu aG aY k s (by simp [Region.wanted,aJ]) ai
 | some rb=>
   obtain ⟨j,want⟩:=rb;rw [aJ] at ai;simp only at ai;cases bU:all[j]? with
   | none=>rw [bU] at ai;exact ai.elim
   | some g=>
     rw [bU] at ai;simp only at ai;cases lO:g.dst with
     | none=>rw [lO] at ai;exact ai.elim
     | some d=>
       rw [lO] at ai;simp only at ai;cases aq:(Nat.blt d au&&Nat.ble d top) with
       | false=>rw [aq] at ai;exact ai.elim
       | true=>
         rw [aq] at ai;simp only [aqo,S6,pT] at ai;simp only [aqi,aqS,aqE] at aq;obtain ⟨g1,g2⟩:=JZ k.toRegRel0 bU lO aq.1 aq.2;cases bE:T.get .bad (aE d) r<;>rw [bE] at ai<;>simp only at ai<;>try (exact ai.elim)
         . rename_i b;have bg:=g1 b bE;cases ah:(bif want then b else !b) with
           | true=>
             rw [ah] at ai;simp only [aqo] at ai;refine Vy bO cH eu aG aY k s ?_ ai;simp only [Region.wanted,aJ,bg];cases want<;>cases b<;>simp_all
           | false=>
             rw [ah] at ai;simp only [aqt] at ai;refine Xd aG aY k s ?_ ai;simp only [Region.wanted,aJ,bg];cases want<;>cases b<;>simp_all
         . rename_i af;have bg:=g2 af bE;refine Xd aG aY k s ?_ ai;simp only [Region.wanted,aJ,bg];rfl
theorem lD.list {E:Env} {v:V} {ds:List Deferred} (k:lD E v ds):mS E v.list ds:=by
 cases v<;>first
  | exact k
theorem akU {rd:Option Nat} {al:Fr} {E:Env} {h:ae} {w:World} {call:eF} (bO:eO P) (cH:gu P call) (eu:gB P call) {all:Array Oper} {i:Nat} {o:Oper} (aG:all[i]? =some o) {au:Nat} {r:bQ} {a:Act}
 (aa:rd=none\/z6 o=true) (k:gb E au r a) (s:a6 al E h w) {K:Act->World->Prop} {Q:Exit->Act->World->Prop}
 (ai:o2 al E au K Q ((Gt P au all o).run call r h)):wpOpIn (aK rd) 0 P all Q i K a w:=by
 unfold Gt at ai;cases aY:fm au o.dst with
 | false=>rw [aY] at ai;exact ai.elim
 | true=>
   rw [aY] at ai;simp only [aqo] at ai;obtain ⟨dst,op,type,pos,after,guard⟩:=o;cases op with
   | defer c=>
     rcases aa with rfl | aa
     case inr=>cases aa
     simp only at ai;cases guard with
     | some _=>exact ai.elim
     | none=>
       simp only at ai;obtain ⟨callee,args,types⟩:=c;simp only [R6] at ai;cases callee<;>simp only at ai<;>try (exact ai.elim)
       rename_i f;unfold R7 at ai;have aA:=ez k.toRegRel0 f;generalize (b9 f).run r=yz at ai aA;cases yz<;>simp only at ai<;>try (exact ai.elim)
       rename_i g cs;cases bg:Nat.beq g dx with
       | true=>rw [bg] at ai;exact ai.elim
       | false=>
         rw [bg] at ai;simp only [aqt] at ai;have BT:g≠dx:=fun e=>by rw [e] at bg;exact absurd bg (by decide)
         simp only [Rel] at aA;rcases aA with ⟨_,ff,dD,aD⟩ | ⟨aJ,_⟩
         case inr=>exact absurd aJ BT
         simp only [wpOpIn,aG,Region.wanted,aqu];refine ⟨fun _ _=>trivial,?_⟩;have hex:((Oper.mk dst (.defer ⟨.value f,args,types⟩) type pos after none).semAt (aK none).round a.eval).run P w=.ok (.defer {target:=.fn (.func g) ff,args:=#[]++args.map a.eval}) w:=by simp only [Oper.semAt_none,execOp,resolve,dD,Deferred.ofValue,pure_bind];rfl
         rw [hex];refine ai E _ w (Env.le.refl E) (gb.put ?_ aY (by simp only [Rel];exact ⟨#[],rfl,rfl⟩)) s;refine ⟨⟨k.size,fun t aB=>?_⟩,?_⟩
         rotate_left
         . rw [T.ja,aqw rfl];simp only [lD,mS];refine ⟨_,_,rfl,⟨BT,ff,rfl,?_⟩,k.defers.list⟩;have:=(qQ k.toRegRel0 args.toList).append aD;simpa using this
         . rw [T.ja,aqr (fun e=>yb aB e.symm)];exact k.ax t aB
   | binOp op t x y u=>
     simp only at ai;cases guard with
     | some g=>exact Gu bO cH eu aG aY k s ai
     | none=>
       simp only at ai;cases nh:yi P op t with
       | none=>rw [nh] at ai;exact Gu bO cH eu aG aY k s ai
       | some neg=>
         rw [nh] at ai;simp only [VY] at ai;cases aI:mO h ((b9 x).run r) ((b9 y).run r) with
         | none=>rw [aI] at ai;exact Gu bO cH eu aG aY k s ai
         | some b=>
           rw [aI] at ai;simp only [wpOpIn,aG,Region.wanted,aqu];obtain ⟨Z,gG,c_⟩:=VW (P:=P) (kh:=x) (ki:=y) s nh aI (ez k.toRegRel0 x) (ez k.toRegRel0 y);exact hD rfl (eb.plain s gG c_) fun aw v w' an av aH=>ai aw _ w' an ((k.mono an).put aY av) aH
   | _=>exact Gu bO cH eu aG aY k s ai
theorem Vz {rd:Option Nat} {al:Fr} {call:eF} (bO:eO P) (cH:gu P call) (eu:gB P call) {all:Array Oper} {au:Nat} {Q:Exit->Act->World->Prop}:∀(l:List Oper) (i:Nat),(∀j,l[j]? =all[i+j]?)->(rd=none\/∀o ∈ l,z6 o=true)->
 ∀(E:Env) (r:bQ) (h:ae) (a:Act) (w:World),o2 al E au (Q .normal) Q ((CW P au all l).run call r h)->gb E au r a->a6 al E h w->
 wpOpsIn (aK rd) 0 P all Q (List.range' i l.length) a w
 | [],i,_,_,E,r,h,a,w,ai,k,s=>by simp only [CW] at ai;simp only [aqB,List.range'_zero,wpOpsIn];exact ai E a w (Env.le.refl E) k s
 | o::os,i,aD,aa,E,r,h,a,w,ai,k,s=>by
   simp only [CW,Wz] at ai;have aG:all[i]? =some o:=by have:=aD 0;simpa using this.symm
   rw [aqp,List.range'_succ,wpOpsIn_cons];refine akU bO cH eu aG (aa.imp id fun h=>h o (by simp)) k s ?_;cases U:(Gt P au all o).run call r h with
   | fail=>rw [U] at ai;exact ai
   | cB v ca xq=>rw [U] at ai;exact ai
   | ok ca xq=>
     rw [U] at ai;simp only at ai;intro aw a1 w' an av aH;refine Vz bO cH eu os (i+1) (fun j=>?_) (aa.imp id fun h cm hz=>h cm (by simp [hz])) aw ca xq a1 w' (ai.up an) av aH;have:=aD (j+1);simp only [aq6] at this;rw [this];congr 1;omega
end
theorem JD {a b:V} (h:zb a b=true):a=b:=by
 cases a<;>cases b<;>simp only [zb] at h<;>first
  | rfl
  | (cases h;done)
  | (rename_i x y;cases x<;>cases y<;>simp_all;done)
  | (rename_i k x l y
     simp only [aqi] at h;have U:=tg h.1;have ad:=h.2;rw [na,arO] at ad;rw [U,ad];done)
  | (rw [wR,arO] at h;rw [h];done)
  | (simp only [aqi,aqT] at h
     obtain ⟨U,ad,aC,aX⟩:=h;rw [aN.na U,ad,aC,aX];done)
  | (simp only [aqi,aqT] at h
     rw [aN.na h.1,h.2];done)
  | (rw [aN.na h];done)
  | (simp only [aqi,aqT,List.isEmpty_iff] at h
     obtain ⟨U,ad,aC⟩:=h;rw [U,ad,aC];done)
  | (simp only [aqi,List.isEmpty_iff] at h
     rw [h.1,h.2];done)
theorem Ey {f:V->V->Bool} (aA:∀a b,f a b=true->a=b):∀{a b:List V},uW f a b=true->a=b
 | [],[],_=>rfl
 | [],_::_,h=>by cases h
 | _::_,[],h=>by cases h
 | a::x,b::y,h=>by
   simp only [uW] at h;cases U:f a b with
   | false=>rw [U] at h;cases h
   | true=>
     rw [U] at h;rw [aA a b U,Ey aA h]
theorem ZD {c x:Bool} (h:(bif c then x else false)=true):c=true/\x=true:=by
 cases c with
 | false=>cases h
 | true=>exact ⟨rfl,h⟩
theorem Sv:∀(d:Nat) (a b:V),w3 d a b=true->a=b
 | 0,a,b,h=>JD h
 | d+1,a,b,h=>by
   have aT:=Sv d;cases a<;>simp only [w3] at h<;>first
    | exact JD h
    | (cases b<;>simp only at h<;>first
        | (cases h;done)
        | rfl
        | (rw [Ey aT h];done)
        | (obtain ⟨U,ad⟩:=ZD h
           rw [aqT] at U;rw [U]
           first
            | rw [Ey aT ad]
            | rw [aT _ _ ad]))
theorem JE {a b:V} (h:BB a b=true):a=b:=Sv 5 a b h
theorem Bh (m i:Nat):gD m i=m.testBit i:=by
 rw [Nat.testBit_eq_decide_div_mod_eq];unfold gD;have e:Nat.mod (Nat.shiftRight m i) 2=m / 2 ^ i % 2:=by show (m >>> i) % 2=_;rw [Nat.shiftRight_eq_div_pow]
 rw [e,arc,aqT,aqy]
theorem LZ {eS:List Nat} {i:Nat}:∀{es:List Edge},gD (vA eS es) i=true->∃e ∈ es,wS e=true/\(e.on=i\/gD ((eS[e.on]?).getD 0) i=true)
 | [],h=>by simp [vA,Bh] at h
 | e::es,h=>by
   simp only [vA] at h;cases ah:wS e with
   | false=>
     rw [ah] at h;obtain ⟨dP,U,ad⟩:=LZ (es:=es) h;exact ⟨dP,by simp [U],ad⟩
   | true=>
     rw [ah] at h;simp only [aqo,Bh] at h;have ab:((1 <<< e.on||| (eS[e.on]?).getD 0)||| vA eS es).testBit i=true:=h;rw [Nat.testBit_or,Nat.testBit_or,aro,aro] at ab;rcases ab with (U | U) | U
     . refine ⟨e,by simp,ah,.inl ?_⟩;rw [Nat.testBit_shiftLeft] at U;simp only [aqi,aqy] at U;have:=U.2;rw [Nat.testBit_one_eq_true_iff_self_eq_zero] at this;omega
     . exact ⟨e,by simp,ah,.inr (by rw [Bh];exact U)⟩
     . rw [<-Bh] at U;obtain ⟨dP,an,av⟩:=LZ (es:=es) U;exact ⟨dP,by simp [an],av⟩
def rF (ops:Array Oper) (L:Nat->Prop):Prop:=∀k o e,L k->ops[k]? =some o->e ∈ o.after.toList->wS e=true->L e.on
theorem CK {ops:Array Oper} {L:Nat->Prop} (BL:rF ops L):∀(os:List Oper) (eS:List Nat),(∀j,os[j]? =ops[eS.length+j]?)->
 (∀k m i,eS[k]? =some m->gD m i=true->L k->L i)->∀k m i,(eQ eS os)[k]? =some m->gD m i=true->L k->L i
 | [],eS,_,h,k,m,i,ar,ah,dU=>h k m i ar ah dU
 | o::os,eS,sd,h,k,m,i,ar,ah,dU=>by
   simp only [eQ] at ar;refine CK BL os (eS++[vA eS o.after.toList]) (fun j=>?_) (fun k m i ar ah dU=>?_) k m i ar ah dU
   . have:=sd (j+1);simp only [aq6] at this;rw [this];congr 1;simp;omega
   . by_cases a':k<eS.length
     . rw [aqG a'] at ar;exact h k m i ar ah dU
     . rw [aqH (by omega)] at ar;have BX:k-eS.length=0:=by
        cases bK:k-eS.length with
        | zero=>rfl
        | succ n=>rw [bK] at ar;simp at ar
       rw [BX] at ar;simp only [aqz,aqj] at ar;subst ar;have E_:k=eS.length:=by omega
       have aU:ops[k]? =some o:=by have:=sd 0;simp only [aqz,arI] at this;rw [E_];exact this.symm
       obtain ⟨e,he,J_,jc⟩:=LZ ah;have Ta:=BL k o e dU aU he J_;rcases jc with rfl | jc
       . exact Ta
       . cases hm:eS[e.on]? with
         | none=>rw [hm] at jc;simp [Bh] at jc
         | some b4=>rw [hm] at jc;exact h e.on b4 i hm jc Ta
theorem pz {f:Nat->Nat->Oper->Bool}:∀{k:Nat} {ms:List Nat} {os:List Oper},oV f k ms os=true->∀j o,os[j]? =some o->∃m,ms[j]? =some m/\f (k+j) m o=true
 | _,_,[],_,j,o,h=>by simp at h
 | _,[],_::_,h,_,_,_=>by cases h
 | k,m::ms,cm::os,h,j,o,aU=>by
   simp only [oV,aqi] at h;cases j with
   | zero=>simp only [aqz,aqj] at aU;subst aU;exact ⟨m,rfl,h.1⟩
   | succ j=>
     obtain ⟨b4,U,ad⟩:=pz h.2 j o (by simpa using aU);exact ⟨b4,by simpa using U,by rw [show k + (j+1)=k+1+j from by omega];exact ad⟩
theorem OO {f:Nat->Nat->Oper->Bool}:∀{k:Nat} {ms:List Nat} {os:List Oper},ms.length=os.length->(∀j m o,ms[j]? =some m->os[j]? =some o->f (k+j) m o=true)->oV f k ms os=true
 | _,[],[],_,_=>rfl
 | _,[],_::_,h,_=>by simp at h
 | _,_::_,[],h,_=>by simp at h
 | k,m::ms,o::os,h,aA=>by simp only [oV,aqi];refine ⟨aA 0 m o rfl rfl,OO (by simpa using h) fun j b4 cm U ad=>?_⟩;have:=aA (j+1) b4 cm (by simpa using U) (by simpa using ad);rw [show k+1+j=k + (j+1) from by omega];exact this
theorem L0:∀(os:List Oper) (eS:List Nat),(eQ eS os).length=eS.length+os.length
 | [],eS=>rfl
 | o::os,eS=>by simp [eQ,L0 os];omega
section
variable {P:Program}
theorem RU {o:Oper} {call:eF} {r:bQ} {h ab:ae} {v:V} (aI:fr P o.op=false) (he:(fU P o).run call r h=.val v ab):ab=h:=by
 obtain ⟨dst,op,type,pos,after,guard⟩:=o;cases op<;>simp only [fr] at aI<;>try (cases aI;done)
 all_goals simp only [fU] at he
 case convert s d x=>
  unfold rV at he;cases az:bj P s with
  | none=>rw [az] at he;cases he
  | some vX=>
    cases aY:bj P d with
    | none=>rw [aY] at aI;cases aI
    | some pP=>
      rw [az,aY] at he;rw [aY] at aI;simp only at he aI;cases hu:pP.bq with
      | int k=>
        rw [hu] at he;obtain ⟨bG,n,_,U⟩:=tQ he;simp only [a8.val.injEq] at U;exact U.2.symm
      | slice e=>rw [hu] at aI;cases aI
      | string=>
        rw [hu] at he;simp only at he
        have other:∀x:V,(match x with
         | .str s=>a8.val (.str s) h
         | .int _ n=>.val (.str (Utf8.encode n).data.toList) h
         | _=>.fail)=.val v ab->ab=h:=by
         intro x he;cases x<;>simp only at he<;>first
          | (cases he;done)
          | (simp only [a8.val.injEq] at he;exact he.2.symm)
        cases TY:vX.bq with
        | slice e=>
          rw [TY] at he;simp only at he;cases cY:bj P e with
          | none=>rw [cY] at he;cases he
          | some bl=>
            rw [cY] at he;simp only at he;have anj:∀b off len,v' b off len h=.val v ab->ab=h:=by
             intro b off len he;unfold v' at he;cases aJ:h.get b<;>rw [aJ] at he<;>simp only [cz.qs] at he<;>try (cases he;done)
             all_goals
              obtain ⟨_,ad⟩:=jX he;cases afP:py (iT _ off len)<;>rw [afP] at ad<;>first
               | (cases ad;done)
               | (simp only [a8.val.injEq] at ad;exact ad.2.symm)
            cases fH:bl.bq with
            | int Cu=>
              rw [fH] at he;cases Cu<;>simp only at he<;>try (cases he;done)
              simp only [uU] at he;cases ay:(b9 x).run r<;>rw [ay] at he<;>simp only at he<;>first
               | (cases he;done)
               | exact anj _ _ _ he
               | (simp only [a8.val.injEq] at he;exact he.2.symm)
            | _=>rw [fH] at he;cases he
        | _=>rw [TY] at he;exact other _ he
      | _=>rw [hu] at he;cases he
 case call c=>
  obtain ⟨callee,args,types⟩:=c;cases callee<;>simp only at aI<;>try (cases aI;done)
  rename_i b;simp only [rT] at he;cases b<;>simp only at aI<;>try (cases aI;done)
  . simp only [rS] at he;cases fV:types.toList with
    | nil=>rw [fV] at he;simp [hl.none] at he
    | cons t dp=>
      cases dp with
      | cons _ _=>rw [fV] at he;simp [hl.none] at he
      | nil=>
        rw [fV] at he;simp only at he;cases aB:bj P t with
        | none=>rw [aB] at he;simp [hl.none] at he
        | some aP=>
          rw [aB] at he;rw [fV] at aI;simp only [Lx,aB] at aI;simp only [aI,aqt] at he
          split at he
          . exact (a8.jL he).2
          . cases he
  . exact (a8.jL he).2
  . exact (a8.jL he).2
 case move=>simp only [a8.val.injEq] at he;exact he.2.symm
 case assign=>simp only [a8.val.injEq] at he;exact he.2.symm
 case pick c a b=>
  split at he
  . simp only [a8.val.injEq] at he;exact he.2.symm
  . cases he
 case makeFunc fn first ff=>
  cases fn<;>simp only at he<;>try (simp [en.none] at he;done)
  rename_i f;cases aA:(first.isEmpty&&!Nat.beq f dx)<;>rw [aA] at he
  . simp only [aqt] at he;cases kB:(ff.isEmpty&&!Nat.beq f dx)<;>rw [kB] at he
    . simp [en.none] at he
    . simp only [aqo,a8.val.injEq] at he;exact he.2.symm
  . simp only [aqo,a8.val.injEq] at he;exact he.2.symm
 case typeAssert x wh t ok=>
  cases aB:bj P t with
  | none=>rw [aB] at he;simp [en.none] at he
  | some aP=>
    rw [aB] at he;simp only at he;cases ah:Nat.beq (fW aP.bq) 5<;>rw [ah] at he
    . exact (a8.jL he).2
    . simp [en.none] at he
 case makeInterface t x=>
  cases aB:bj P t with
  | none=>rw [aB] at he;simp [en.none] at he
  | some aP=>
    rw [aB] at he;simp only at he;cases ah:Nat.beq (fW aP.bq) 5<;>rw [ah] at he
    . simp only [aqt,a8.val.injEq] at he;exact he.2.symm
    . simp [en.none] at he
 case extract x i=>
  split at he
  . exact (a8.jL he).2
  . cases he
 all_goals exact (a8.jL he).2
theorem a8.x7 {h ab:ae} {x:Option V} {v:V} (he:a8.of h x=.val v ab) (H:ae):a8.of H x=.val v H:=by rw [(a8.jL he).1];rfl
theorem RT {o:Oper} {call:eF} {r:bQ} {h ab:ae} {v:V} (aI:fr P o.op=false) (aD:looks o.op=false) (he:(fU P o).run call r h=.val v ab) (H:ae):(fU P o).run call r H=.val v H:=by
 obtain ⟨dst,op,type,pos,after,guard⟩:=o;cases op<;>simp only [fr] at aI<;>try (cases aI;done)
 all_goals simp only [looks] at aD<;>try (cases aD;done)
 all_goals simp only [fU] at he ⊢
 case call c=>
  obtain ⟨callee,args,types⟩:=c;cases callee<;>simp only at aI<;>try (cases aI;done)
  rename_i b;simp only [rT] at he ⊢;cases b<;>simp only at aI<;>try (cases aI;done)
  . simp only [rS] at he ⊢;cases fV:types.toList with
    | nil=>rw [fV] at he;simp [hl.none] at he
    | cons t dp=>
      cases dp with
      | cons _ _=>rw [fV] at he;simp [hl.none] at he
      | nil=>
        rw [fV] at he;simp only at he ⊢;cases aB:bj P t with
        | none=>rw [aB] at he;simp [hl.none] at he
        | some aP=>
          rw [aB] at he;rw [fV] at aI;simp only [Lx,aB] at aI;simp only [aI,aqt] at he ⊢
          split at he
          . exact a8.x7 he H
          . cases he
  . exact a8.x7 he H
  . exact a8.x7 he H
 case move=>simp only [a8.val.injEq] at he;rw [he.1]
 case assign=>simp only [a8.val.injEq] at he;rw [he.1]
 case pick c a b=>
  split at he
  . simp only [a8.val.injEq] at he;rw [he.1]
  . cases he
 case makeFunc fn first ff=>
  cases fn<;>simp only at he ⊢<;>try (simp [en.none] at he;done)
  rename_i f;cases aA:(first.isEmpty&&!Nat.beq f dx)<;>rw [aA] at he
  . simp only [aqt] at he ⊢;cases kB:(ff.isEmpty&&!Nat.beq f dx)<;>rw [kB] at he
    . simp [en.none] at he
    . simp only [aqo,a8.val.injEq] at he ⊢;exact ⟨he.1,trivial⟩
  . simp only [aqo,a8.val.injEq] at he ⊢;exact ⟨he.1,trivial⟩
 case typeAssert x wh t ok=>
  cases aB:bj P t with
  | none=>rw [aB] at he;simp [en.none] at he
  | some aP=>
    rw [aB] at he;simp only at he ⊢;cases ah:Nat.beq (fW aP.bq) 5<;>rw [ah] at he
    . exact a8.x7 he H
    . simp [en.none] at he
 case makeInterface t x=>
  cases aB:bj P t with
  | none=>rw [aB] at he;simp [en.none] at he
  | some aP=>
    rw [aB] at he;simp only at he ⊢;cases ah:Nat.beq (fW aP.bq) 5<;>rw [ah] at he
    . simp only [aqt,a8.val.injEq] at he ⊢;exact ⟨he.1,trivial⟩
    . simp [en.none] at he
 case extract x i=>
  split at he
  . exact a8.x7 he H
  . cases he
 all_goals exact a8.x7 he H
end
section
variable {P:Program}
def HY (P:Program) (E:Env) (m:Sem Value) (v:V) (h ab:ae):Prop:=
 ∃k,ab=h.new k/\True/\∀w,∃X qi,m.run P w=.ok X {w with heap:=w.heap.push qi}/\
  ∀aw,E.le aw->aw (aE h.next)=some ⟨w.heap.size,0,0⟩->Rel aw v X/\∀B,B<=w.heap.size->hT B aw {w with heap:=w.heap.push qi} (aE h.next) k
theorem Ge {E:Env} {h ab:ae} {af:List V} {l:List Value} (aD:bm E af l) (he:hB h af=some ab) (t:TypeId):
 ∃k,ab=h.new k/\True/\∀w,(newRow t l.toArray).run P w=.ok ⟨w.heap.size,0,none⟩ {w with heap:=w.heap.push (.cells l.toArray t)}/\
  ∀aw,E.le aw->aw (aE h.next)=some ⟨w.heap.size,0,0⟩->∀B,B<=w.heap.size->hT B aw {w with heap:=w.heap.push (.cells l.toArray t)} (aE h.next) k:=by
 unfold hB at he;obtain ⟨aq,he⟩:=fx he;rw [aqE] at aq;cases he;refine ⟨_,rfl,trivial,fun w=>⟨by simp [newRow],fun aw hle e0 B cU=>?_⟩⟩;have:=JQ (bm.mono hle _ _ aD) aq #[]
 rw [Array.append_empty] at this;exact ⟨aq,_,_,t,(0,0),e0,cU,by simp,.inr (aqh _),fun _=>rfl,fun h=>absurd rfl h,this⟩
theorem ZS {E:Env} {h ab:ae} {t:TypeId} {n:Nat} {bC:List (Nat × V)} {kk:List (Nat × Value)} {v:V} (ai:sX E bC kk) (he:(wT P t n).run bC h=.val v ab):
 HY P E (Instr.buildSlice t n kk.toArray) v h ab:=by
 unfold wT at he;cases aB:bj P t with
 | none=>rw [aB] at he;cases he
 | some aP=>
   rw [aB] at he;simp only at he;have hu:=gI aB;cases b_:aP.bq with
   | slice e=>
     rw [b_] at he hu;simp only at he;cases cY:bj P e with
     | none=>rw [cY] at he;cases he
     | some bl=>
       rw [cY] at he;simp only at he;cases bK:bl.zero with
       | none=>rw [bK] at he;cases he
       | some z=>
         rw [bK] at he;simp only at he;cases aq:(Nat.ble (n * bl.size) 1000000&&Nat.beq z.cells.length bl.size) with
         | false=>rw [aq] at he;cases he
         | true=>
           rw [aq] at he;simp only [aqo] at he;simp only [aqi,aqE,aqT] at aq;cases aA:ot (fun i=>some (i * bl.size,bl.size)) (jR z.cells n) bC with
           | none=>rw [aA] at he;cases he
           | some cs=>
             rw [aA] at he;simp only at he;cases aL:hB h cs with
             | none=>rw [aL] at he;cases he
             | some U=>
               rw [aL] at he;simp only [a8.val.injEq] at he;obtain ⟨rfl,rfl⟩:=he;obtain ⟨x,ay,p8,nj⟩:=ux (P:=P) (E:=E) cY bK ⟨#[],fun _ _=>0,0,default,#[]⟩;have tB:x.cells.size=bl.size:=by rw [nj,aq.2]
               have tz:=Ag p8 n;rw [tB] at tz;obtain ⟨b,mz,qY⟩:=BD (a:=(Array.range (n * bl.size)).map (x.cells[· % x.cells.size]!)) ai (by rw [tB];exact tz) aA;obtain ⟨k,g1,g2,g3⟩:=Ge (P:=P) qY aL e;refine ⟨k,g1,g2,fun w=>⟨.slice (some ⟨w.heap.size,0,none⟩) n n,.cells b e,?_,fun aw hle e0=>⟨?_,?_⟩⟩⟩
               . have xy:¬16777216<n * bl.size:=by omega
                 have lN:(newRow e b).run P w=.ok ⟨w.heap.size,0,none⟩ {w with heap:=w.heap.push (.cells b e)}:=by simpa using (g3 w).1
                 by_cases aV:n * bl.size=0
                 . have J9:Instr.fill (fun i=>some (i * bl.size,bl.size)) ((Array.range (n * bl.size)).map ((#[]:Array Value)[· % 0]!)) kk=some b:=by
                    have aM:(Array.range (n * bl.size)).map ((#[]:Array Value)[· % 0]!)=(Array.range (n * bl.size)).map (x.cells[· % x.cells.size]!):=by rw [aV];simp
                    rw [aM];exact mz
                   have J':Instr.fill (fun i=>some (i * bl.size,bl.size)) ((Array.range (n * bl.size)).map (fun x=>(#[]:Array Value)[x % (#[]:Array Value).size]!)) kk=some b:=J9;simp only [Instr.buildSlice,Sem.run_bind,hu,Result.andThen_ok,k1 cY,Sem.run_ite];rw [aqr xy];simp only [Sem.run_pure,Result.andThen_ok,aqw aV];rw [J'];simp only [Sem.run_bind,lN,Result.andThen_ok,Sem.run_pure]
                 . simp only [Instr.buildSlice,Sem.run_bind,hu,Result.andThen_ok,k1 cY,Sem.run_ite];rw [aqr xy];simp only [Sem.run_pure,Result.andThen_ok,aqr aV,ay];rw [mz];simp only [Sem.run_bind,lN,Result.andThen_ok,Sem.run_pure]
               . simp only [Rel];exact ⟨_,e0,aqh _,by simp⟩
               . simpa using (g3 w).2 aw hle e0
   | _=>rw [b_] at he;cases he
theorem ajs {E:Env} {h ab:ae} {t:TypeId} {x y v:V} {X Y:Value} (ay:Rel E x X) (bg:Rel E y Y) (he:(xU P t).run x y h=.val v ab):
 HY P E (Instr.makeSlice t X Y) v h ab:=by
 unfold xU at he;cases aB:bj P t with
 | none=>rw [aB] at he;cases he
 | some aP=>
   rw [aB] at he;simp only at he;have hu:=gI aB;cases b_:aP.bq with
   | slice e=>
     rw [b_] at he hu;simp only at he;cases cY:bj P e with
     | none=>rw [cY] at he;cases he
     | some bl=>
       rw [cY] at he;simp only at he;cases bK:bl.zero with
       | none=>rw [bK] at he;cases he
       | some z=>
         rw [bK] at he;simp only at he;cases xh:Nat.ble bl.bytes 4096 with
         | false=>rw [xh] at he;cases he
         | true=>
           rw [xh] at he;simp only [aqo,vz] at he;obtain ⟨c1,l,rfl,zp⟩:=tQ he;obtain ⟨dF,c,rfl,e3⟩:=tQ zp;have:=ay.j3;subst this;have:=bg.j3;subst this;obtain ⟨aq,q0⟩:=jX e3;simp only [aqi,qd,aqy,aqT] at aq;obtain ⟨⟨aV,U,ad⟩,aC⟩:=aq;rw [aqE] at xh;cases aL:hB h (jR z.cells c.toNat) with
           | none=>rw [aL] at q0;cases q0
           | some ba=>
             rw [aL] at q0;simp only [a8.val.injEq] at q0;obtain ⟨rfl,rfl⟩:=q0;obtain ⟨mR,xG,p8,nj⟩:=ux (P:=P) (E:=E) cY bK ⟨#[],fun _ _=>0,0,default,#[]⟩;have tB:mR.cells.size=bl.size:=by rw [nj,aC]
             have tz:=Ag p8 c.toNat;obtain ⟨k,g1,g2,g3⟩:=Ge (P:=P) tz aL e;have Cj:IntKind.i64.wrap l=l:=by simp only [IntKind.wrap,IntKind.bits,IntKind.signed];simp;omega
             have Lk:IntKind.i64.wrap c=c:=by simp only [IntKind.wrap,IntKind.bits,IntKind.signed];simp;omega
             have hmul:(bl.bytes:Int) * c<=4096 * 1000000:=by
              have ah:(bl.bytes:Int)<=4096:=by omega
              have:=Int.mul_le_mul_of_nonneg_right (c:=c) ah (by omega);omega
             refine ⟨k,g1,g2,fun w=>?_⟩;obtain ⟨i,aG,r9⟩:=G4 (P:=P) cY w;refine ⟨.slice (some ⟨w.heap.size,0,none⟩) l.toNat c.toNat,_,?_,fun aw hle e0=>⟨?_,(g3 w).2 aw hle e0⟩⟩
             . have lN:=(g3 w).1;simp only [ars] at lN;have bS:¬c<0:=by omega
               have cJ:¬((bl.bytes:Int) * c>281474976710656):=by omega
               have c3:¬l<0:=by omega
               have iC:¬l>c:=by omega
               have same:(if c.toNat * bl.size=0 then (Array.range (c.toNat * bl.size)).map (fun x=>(#[]:Array Value)[x % (#[]:Array Value).size]!) else (Array.range (c.toNat * bl.size)).map (fun x=>mR.cells[x % mR.cells.size]!))=
                (Array.range (c.toNat * mR.cells.size)).map (mR.cells[· % mR.cells.size]!):=by
                rw [tB];by_cases aI:c.toNat * bl.size=0
                . rw [aI];simp
                . rw [aqr aI]
               simp only [Instr.makeSlice,Sem.run_bind,hu,Result.andThen_ok,asInt,asIntOf,Sem.run_pure,aG,Cj,Lk,r9];rw [aqr (by simp only [aro,aqy,not_or];exact ⟨⟨⟨bS,cJ⟩,c3⟩,iC⟩)];simp only [Result.andThen_ok,Sem.run_bind,run_askRoom,k1 cY];by_cases aI:c.toNat * bl.size=0
               . rw [aqw aI] at same;rw [aqw aI];simp only [Sem.run_pure,Result.andThen_ok,Sem.run_bind,same,lN,ars]
               . rw [aqr aI] at same;rw [aqr aI];simp only [Sem.run_pure,Result.andThen_ok,Sem.run_bind,xG,same,lN,ars]
             . simp only [Rel];exact ⟨_,e0,by omega,by simp⟩
   | _=>rw [b_] at he;cases he
theorem abR {E:Env} {h ab:ae} {call:eF} {o:Oper} {au:Nat} {r:bQ} {a:Act} {v:V} (a_:hO o=true) (he:(fU P o).run call r h=.val v ab) (k:RegRel0 E au r a):
 ∃m:Sem Value,execOp a.eval o=(do pure (.value (<-m)))/\HY P E m v h ab:=by
 obtain ⟨dst,op,type,pos,after,guard⟩:=o;cases op<;>simp only [hO] at a_<;>try (cases a_;done)
 all_goals simp only [fU] at he
 case alloc t=>
  refine ⟨Instr.alloc t true (.tuple #[]),rfl,?_⟩;cases aB:bj P t with
  | none=>rw [aB] at he;simp [en.none] at he
  | some aP=>
    rw [aB] at he;simp only at he;cases bK:aP.zero with
    | none=>rw [bK] at he;simp [en.none] at he
    | some z=>
      rw [bK] at he;simp only at he;cases aL:hB h z.cells with
      | none=>rw [aL] at he;cases he
      | some U=>
        rw [aL] at he;simp only [ig,a8.val.injEq] at he;obtain ⟨rfl,rfl⟩:=he;obtain ⟨x,ay,p8,_⟩:=ux (P:=P) (E:=E) aB bK ⟨#[],fun _ _=>0,0,default,#[]⟩;obtain ⟨dL,g1,g2,g3⟩:=Ge (P:=P) p8 aL t;refine ⟨dL,g1,g2,fun w=>⟨.pointer (some ⟨w.heap.size,0,none⟩),.cells x.cells t,?_,fun aw hle e0=>⟨?_,?_⟩⟩⟩
        . have:=(g3 w).1;simp only [ars] at this;simp only [Instr.alloc,Sem.run_bind,ay,Result.andThen_ok,newVar,this,Sem.run_pure]
        . simp only [Rel];exact ⟨_,e0,by simp⟩
        . simpa using (g3 w).2 aw hle e0
 case box t x=>
  refine ⟨Instr.box t (a.eval x),rfl,?_⟩;obtain ⟨aJ,he⟩:=jX he;cases aL:hB h ((b9 x).run r).cells with
  | none=>rw [aL] at he;cases he
  | some U=>
    rw [aL] at he;simp only [ig,a8.val.injEq] at he;obtain ⟨rfl,rfl⟩:=he;have aD:=(ez k x).cells (fun e=>by rw [e] at aJ;cases aJ);obtain ⟨dL,g1,g2,g3⟩:=Ge (P:=P) aD aL t;refine ⟨dL,g1,g2,fun w=>⟨.pointer (some ⟨w.heap.size,0,none⟩),.cells (a.eval x).cells t,?_,fun aw hle e0=>⟨?_,?_⟩⟩⟩
    . have:=(g3 w).1;simp only [ars] at this;simp only [Instr.box,Sem.run_bind,newVar,this,Result.andThen_ok,Sem.run_pure]
    . simp only [Rel];exact ⟨_,e0,by simp⟩
    . simpa using (g3 w).2 aw hle e0
 case buildSlice t n bC=>
  refine ⟨Instr.buildSlice t n (bC.map fun (i,x)=>(i,a.eval x)),rfl,?_⟩;rw [M5];exact ZS (GC k bC.toList) he
 case makeSlice t l c=>exact ⟨Instr.makeSlice t (a.eval l) (a.eval c),rfl,ajs (ez k l) (ez k c) he⟩
 case makeMap t x=>
  cases x with
  | some _=>cases a_
  | none=>
    refine ⟨Instr.makeMap t none,rfl,?_⟩;simp only [sw,zU] at he;cases aB:bj P t with
    | none=>rw [aB] at he;cases he
    | some aP=>
      rw [aB] at he;simp only at he;cases ah:Nat.beq (fW aP.bq) 3 with
      | false=>rw [ah] at he;cases he
      | true=>
        rw [ah] at he;simp only [aqo,vy,zY] at he;simp only [a8.val.injEq] at he;obtain ⟨rfl,rfl⟩:=he;refine ⟨_,rfl,trivial,fun w=>⟨.map (some w.heap.size),.map #[] 0,?_,fun aw hle e0=>⟨?_,fun B cU=>?_⟩⟩⟩
        . simp only [Instr.makeMap,Sem.run_bind,run_newObj,Result.andThen_ok,Sem.run_pure]
        . simp only [Rel];exact ⟨_,e0,rfl⟩
        . exact ⟨_,#[],e0,cU,by simp,rfl⟩
def Fr.hold (F:Fr) (b:aN) (k:cz):Fr:=⟨F.w,fun b2=>if b2=b then some k else F.iK b2⟩
def Fr.free (F:Fr) (b:aN):Fr:=⟨F.w,fun b2=>if b2=b then none else F.iK b2⟩
theorem a6.hold {F:Fr} {E:Env} {h:ae} {w:World} (s:a6 F E h w) (k:cz):a6 (F.hold (aE h.next) k) E (h.new k) w:=by
 have eC:=s.fresh h.next (aqh _)
 refine ⟨fun b ah=>?_,fun b bG ar=>?_,fun b b2 p p' U ad aM bh kA=>?_,fun i aG=>s.fresh i (Nat.le_of_succ_le aG),s.frame,s.laid,fun b p n cs st U aM=>s.base b p n cs st (by
  have eg:aE h.next≠b:=fun e=>by rw [<-e,eC] at aM;cases aM
  rwa [ae.jY,aqr eg] at U) aM⟩
 . simp only [Fr.hold] at ah;by_cases aI:b=aE h.next
   . rw [aqw aI] at ah;cases ah
   . rw [aqr aI] at ah;rw [ae.jY,aqr (fun e=>aI e.symm)];exact s.bd b ah
 . simp only [Fr.hold] at ar;by_cases aI:b=aE h.next
   . rw [aqw aI] at ar;cases ar;exact ⟨by rw [ae.jY,aqw aI.symm],by rw [aI];exact eC,h.next,Nat.lt_succ_self _,aI⟩
   . rw [aqr aI] at ar;obtain ⟨an,av,i,aH,bP⟩:=s.qm b bG ar;exact ⟨by rw [ae.jY,aqr (fun e=>aI e.symm)];exact an,av,i,Nat.lt_succ_of_lt aH,bP⟩
 . have eg:aE h.next≠b:=fun e=>by rw [<-e,eC] at aM;cases aM
   have lZ:aE h.next≠b2:=fun e=>by rw [<-e,eC] at bh;cases bh
   rw [ae.jY,aqr eg] at U;rw [ae.jY,aqr lZ] at ad;exact s.inj b b2 p p' U ad aM bh kA
theorem a6.link {F:Fr} {E:Env} {h:ae} {w:World} (s:a6 F E h w) {b:aN} {k:cz} (ai:F.iK b=some k) {o:Obj}
 (nN:hT F.w.heap.size (E.put b ⟨w.heap.size,0,0⟩) {w with heap:=w.heap.push o} b k):
 E.le (E.put b ⟨w.heap.size,0,0⟩)/\a6 (F.free b) (E.put b ⟨w.heap.size,0,0⟩) h {w with heap:=w.heap.push o}:=by
 obtain ⟨ar,eC,i0,p1,xg⟩:=s.qm b k ai;have hle:E.le (E.put b ⟨w.heap.size,0,0⟩):=Env.nU eC;have e0:E.put b ⟨w.heap.size,0,0⟩ b=some ⟨w.heap.size,0,0⟩:=by unfold Env.put;rw [aqw rfl]
 have hold:∀b2,b2≠b->E.put b ⟨w.heap.size,0,0⟩ b2=E b2:=by intro b2 ah;unfold Env.put;rw [aqr ah]
 have oz:∀b2 q,E b2=some q->(h.get b2)≠.dead->q.bd<w.heap.size:=by
  intro b2 q aI aY;have ah:=s.at aI;cases aJ:h.get b2 with
  | dead=>exact absurd aJ aY
  | view n cs=>rw [aJ] at ah;obtain ⟨_,fb,c,el,cf,e,_,ba,_⟩:=ah;rw [e] at aI;cases aI;exact (aql.1 ba).1
  | cells n cs c' st=>rw [aJ] at ah;obtain ⟨_,fb,c,el,cf,e,_,ba,_⟩:=ah;rw [e] at aI;cases aI;exact (aql.1 ba).1
  | iter st pos=>rw [aJ] at ah;obtain ⟨fb,e,_,_,ba⟩:=ah;rw [e] at aI;cases aI;exact (aql.1 ba).1
  | mp es clock=>rw [aJ] at ah;obtain ⟨fb,a,e,_,ba,_⟩:=ah;rw [e] at aI;cases aI;exact (aql.1 ba).1
  | e2 l=>rw [aJ] at ah;obtain ⟨fb,a,e,_,ba,_⟩:=ah;rw [e] at aI;cases aI;exact (aql.1 ba).1
  | gg=>rw [aJ] at ah;obtain ⟨fb,e,_,ba⟩:=ah;rw [e] at aI;cases aI;exact (aql.1 ba).1
  | jf es=>rw [aJ] at ah;obtain ⟨fb,a,c,l,e,_,ba,_⟩:=ah;rw [e] at aI;cases aI;exact (aql.1 ba).1
  | kb src since seen last=>rw [aJ] at ah;obtain ⟨fb,m,a,e,_,_,ba,_⟩:=ah;rw [e] at aI;cases aI;exact (aql.1 ba).1
 refine ⟨hle,fun b2 ia=>?_,fun b2 bG jb=>?_,fun ct c6 cc cy U ad aM bh kA=>?_,fun i aG=>?_,⟨s.frame.os,s.frame.tape,s.frame.output,?_,fun j bU=>?_⟩,s.laid,fun ct cc n cs st U aM=>by
  by_cases bS:ct=b
  . subst bS;rw [e0] at aM;cases aM;rfl
  . rw [hold ct bS] at aM;exact s.base _ _ _ _ _ U aM⟩
 . by_cases aI:b2=b
   . subst aI;rw [ar];exact nN
   . simp only [Fr.free,aqr aI] at ia;have aV:=(s.bd b2 ia).mono hle;by_cases aY:h.get b2=.dead
     . rw [aY];trivial
     . refine hT.gy aV fun q nM=>?_;rw [hold b2 aI] at nM;have:=oz b2 q nM aY;simp only [ar1];rw [aqr (by omega)]
 . simp only [Fr.free] at jb;by_cases aI:b2=b
   . rw [aqw aI] at jb;cases jb
   . rw [aqr aI] at jb;obtain ⟨an,av,aH⟩:=s.qm b2 bG jb;exact ⟨an,by rw [hold b2 aI];exact av,aH⟩
 . by_cases bS:ct=b<;>by_cases cJ:c6=b
   . exact bS.trans cJ.symm
   . subst bS;rw [e0] at aM;cases aM;rw [hold c6 cJ] at bh;have:=oz c6 cy bh (fun e=>by rw [e] at ad;cases ad);simp only at kA;omega
   . subst cJ;rw [e0] at bh;cases bh;rw [hold ct bS] at aM;have:=oz ct cc aM (fun e=>by rw [e] at U;cases U);simp only at kA;omega
   . rw [hold ct bS] at aM;rw [hold c6 cJ] at bh;exact s.inj ct c6 cc cy U ad aM bh kA
 . rw [hold _ (fun e=>?_)]
   . exact s.fresh i aG
   . rw [xg] at e;have:=lv e;omega
 . have:=s.frame.size;simp only [Array.size_push,Fr.free];omega
 . have U:=s.frame.size;simp only [Fr.free,ar1];rw [aqr (by simp only [Fr.free] at bU;omega)];exact s.frame.block j bU
end
section
variable {P:Program}
def eN (es:List fj) (db:bQ) (i:Nat):bQ:=
 match es[i]? with
 | some e=>e.r
 | none=>db
theorem u_ (e:fj) (es:List fj) (aA:ae) (i:Nat):cw (e::es) aA (i+1)=cw es aA i:=by simp [cw]
theorem vQ (e:fj) (es:List fj) (db:bQ) (i:Nat):eN (e::es) db (i+1)=eN es db i:=by simp [eN]
theorem v8 {au:Nat} {all:Array Oper} {call:eF}:∀{l:List Oper} {r db:bQ} {h aA:ae} {es:List fj},(gL P au all l).run call r h=.ok es db aA->
 es.length=l.length/\cw es aA 0=h/\eN es db 0=r/\∀j o,l[j]? =some o->∃e,es[j]? =some e/\(cQ P au all o).run call e.r e.h=.val e.v (cw es aA (j+1))/\eN es db (j+1)=(gl o.dst).run e.r e.v
 | [],r,db,h,aA,es,he=>by simp only [gL,rE.ok.injEq] at he;obtain ⟨rfl,rfl,rfl⟩:=he;exact ⟨rfl,rfl,rfl,fun j o aU=>by simp at aU⟩
 | o::os,r,db,h,aA,es,he=>by
   simp only [gL,Dn] at he;cases U:(cQ P au all o).run call r h with
   | fail=>rw [U] at he;cases he
   | cB _ _=>rw [U] at he;simp only at he;cases hm:j5 o.op<;>rw [hm] at he<;>cases he
   | val v ba=>
     rw [U] at he;simp only at he;cases ad:(gL P au all os).run call ((gl o.dst).run r v) ba with
     | fail=>rw [ad] at he;cases he
     | cB _ _ _ _ _=>rw [ad] at he;cases he
     | ok iS ca aC=>
       rw [ad] at he;simp only [rE.ok.injEq] at he;obtain ⟨rfl,rfl,rfl⟩:=he;obtain ⟨an,av,aH,bP⟩:=v8 ad;refine ⟨by simp [an],by simp [cw],by simp [eN],fun j cm aU=>?_⟩;cases j with
       | zero=>
         simp only [aqz,aqj] at aU;subst aU;exact ⟨⟨r,h,v⟩,rfl,by rw [u_,av];exact U,by rw [vQ,aH]⟩
       | succ j=>
         obtain ⟨e,cc,cy,eD⟩:=bP j cm (by simpa using aU);exact ⟨e,by simpa using cc,by rw [u_];exact cy,by rw [vQ];exact eD⟩
theorem WO {au:Nat} {all:Array Oper} {call:eF}:∀{l:List Oper} {r db:bQ} {h aA ab:ae} {es:List fj} {v:V},(gL P au all l).run call r h=.cB es db aA v ab->
 cw es aA 0=h/\eN es db 0=r/\(∀j o,j<es.length->l[j]? =some o->∃e,es[j]? =some e/\(cQ P au all o).run call e.r e.h=.val e.v (cw es aA (j+1))/\eN es db (j+1)=(gl o.dst).run e.r e.v)/\
  ∃o,l[es.length]? =some o/\j5 o.op=true/\(cQ P au all o).run call db aA=.cB v ab
 | [],r,db,h,aA,ab,es,v,he=>by simp [gL] at he
 | o::os,r,db,h,aA,ab,es,v,he=>by
   simp only [gL,Dn] at he;cases U:(cQ P au all o).run call r h with
   | fail=>rw [U] at he;cases he
   | cB x ay=>
     rw [U] at he;simp only at he;cases hm:j5 o.op with
     | false=>rw [hm] at he;cases he
     | true=>
       rw [hm] at he;simp only [aqo,rE.cB.injEq] at he;obtain ⟨rfl,rfl,rfl,rfl,rfl⟩:=he;exact ⟨rfl,rfl,fun j cm bU=>by simp at bU,o,rfl,hm,U⟩
   | val x ba=>
     rw [U] at he;simp only at he;cases ad:(gL P au all os).run call ((gl o.dst).run r x) ba with
     | fail=>rw [ad] at he;cases he
     | ok _ _ _=>rw [ad] at he;cases he
     | cB iS ca aC v1 aX=>
       rw [ad] at he;simp only [rE.cB.injEq] at he;obtain ⟨rfl,rfl,rfl,rfl,rfl⟩:=he;obtain ⟨av,aH,bP,bb,cE,dG,fX⟩:=WO ad;refine ⟨by simp [cw],by simp [eN],fun j cm bU aU=>?_,bb,by simpa using cE,dG,fX⟩;cases j with
       | zero=>
         simp only [aqz,aqj] at aU;subst aU;exact ⟨⟨r,h,x⟩,rfl,by rw [u_,av];exact U,by rw [vQ,aH]⟩
       | succ j=>
         obtain ⟨e,cc,cy,eD⟩:=bP j cm (by simpa using bU) (by simpa using aU);exact ⟨e,by simpa using cc,by rw [u_];exact cy,by rw [vQ];exact eD⟩
theorem S1 {au:Nat} {d:Option Nat} (aY:fm au d=true) {r:bQ} {v:V} {t:Nat} (aB:t<=top):T.get .bad (aE t) ((gl d).run r v)=if d=some t then v else T.get .bad (aE t) r:=by
 cases d with
 | none=>simp [gl]
 | some d=>
   simp only [fm,aqi,aqS,aqE] at aY;simp only [gl,T.ja,aqj];by_cases h:d=t
   . subst h;simp
   . rw [aqr (fun e=>h (lv e)),aqr h]
theorem lG {au:Nat} {all:Array Oper} {o:Oper} {call:eF} {r:bQ} {h ab:ae} {v:V} (he:(cQ P au all o).run call r h=.val v ab):fm au o.dst=true/\jk (b8 all o)=true:=by
 unfold cQ at he;cases aq:(fm au o.dst&&jk (b8 all o)) with
 | false=>rw [aq] at he;simp [en.none] at he
 | true=>simpa using aq
theorem Hm {r:bQ} {rs:List Nat} (az:jk rs=true) {t:Nat} (aB:t<=top):T.get .bad (aE t) (ei r rs)=if t ∈ rs then T.get .bad (aE t) r else .bad:=by
 induction rs with
 | nil=>simp [ei]
 | cons u rs aT=>
   simp only [jk,arG,aqi,aqE] at az;simp only [ei,T.ja,aqN];by_cases h:u=t
   . subst h;simp
   . rw [aqr (fun e=>h (lv e)),aT az.2];have ab:¬t=u:=fun e=>h e.symm;simp [ab]
theorem Jo {au:Nat} {all:Array Oper} {o:Oper} {call:eF} {r:bQ} {h ab:ae} {v:V} (he:(cQ P au all o).run call r h=.cB v ab):fm au o.dst=true/\jk (b8 all o)=true:=by
 unfold cQ at he;cases aq:(fm au o.dst&&jk (b8 all o)) with
 | false=>rw [aq] at he;simp [en.none] at he
 | true=>simpa using aq
def H5 (al:Fr) (E:Env) (o:Oper) (a:Act) (K:Act->World->Prop) (Q:Exit->Act->World->Prop):a8->Prop
 | .val v ab=>∀aw x w',E.le aw->Rel aw v x->a6 al aw ab w'->K (a.put o.dst x) w'
 | .cB v ab=>j5 o.op=true/\∀aw x w',E.le aw->Rel aw v x->a6 al aw ab w'->Q (.panic (l3 x)) a w'
 | .fail=>False
theorem Sa {rd:Option Nat} {al:Fr} {E:Env} {h:ae} {w:World} {call:eF} (bO:eO P) (cH:gu P call) (eu:gB P call) {all:Array Oper} {i:Nat} {o:Oper} (aG:all[i]? =some o) {au:Nat} {r:bQ} {a:Act}
 (gi:fm au o.dst=true/\jk (b8 all o)=true) (q':a.tmps.size=au) (lT:∀t ∈ b8 all o,Rel E (T.get .bad (aE t) r) (a.tmps.getD t undef)) (s:a6 al E h w)
 {K:Act->World->Prop} {Q:Exit->Act->World->Prop} (ai:H5 al E o a K Q ((cQ P au all o).run call r h)):wpOpIn (aK rd) 0 P all Q i K a w:=by
 obtain ⟨aY,az⟩:=gi
 have k:RegRel0 E au (ei r (b8 all o)) a:=⟨q',fun t aB=>by
  rw [Hm az aB];by_cases hm:t ∈ b8 all o
  . rw [aqw hm];exact lT t hm
  . rw [aqr hm];simp [Rel]⟩
 unfold cQ at ai;rw [show (fm au o.dst&&jk (b8 all o))=true from by rw [aY,az];rfl] at ai;simp only [aqo] at ai;have wanted:H5 al E o a K Q ((fU P o).run call (ei r (b8 all o)) h)->Region.wanted o (yielded all a.tmps)=true->wpOpIn (aK rd) 0 P all Q i K a w:=by
  intro U hw;simp only [wpOpIn,aG,hw,aqu];cases aa:(fU P o).run call (ei r (b8 all o)) h with
  | fail=>rw [aa] at U;exact U.elim
  | val v ab=>rw [aa] at U;exact RV bO cH eu aa k s U
  | cB v ab=>rw [aa] at U;exact RS bO cH U.1 aa k s U.2
 have Xc:H5 al E o a K Q (.val (.tuple []) h)->Region.wanted o (yielded all a.tmps)=false->wpOpIn (aK rd) 0 P all Q i K a w:=by intro U hw;simp only [wpOpIn,aG,hw,aqk,aqs];exact ⟨fun _ _=>trivial,U E undef w (Env.le.refl E) (by simp only [Rel];exact ⟨#[],rfl,rfl⟩) s⟩
 cases aJ:o.guard with
 | none=>
   rw [aJ] at ai;exact wanted ai (by simp [Region.wanted,aJ])
 | some rb=>
   obtain ⟨j,want⟩:=rb;rw [aJ] at ai;simp only at ai;cases bU:all[j]? with
   | none=>rw [bU] at ai;exact ai.elim
   | some g=>
     rw [bU] at ai;simp only at ai;cases lO:g.dst with
     | none=>rw [lO] at ai;exact ai.elim
     | some d=>
       rw [lO] at ai;simp only at ai;cases aq:(Nat.blt d au&&Nat.ble d top) with
       | false=>rw [aq] at ai;exact ai.elim
       | true=>
         rw [aq] at ai;simp only [aqo,jF,pT] at ai;simp only [aqi,aqS,aqE] at aq;obtain ⟨g1,g2⟩:=JZ k bU lO aq.1 aq.2;cases bE:T.get .bad (aE d) (ei r (b8 all o))<;>rw [bE] at ai<;>simp only at ai<;>try (exact ai.elim)
         . rename_i b;have bg:=g1 b bE;cases ah:(bif want then b else !b) with
           | true=>
             rw [ah] at ai;simp only [aqo] at ai;refine wanted ai ?_;simp only [Region.wanted,aJ,bg];cases want<;>cases b<;>simp_all
           | false=>
             rw [ah] at ai;simp only [aqt] at ai;refine Xc ai ?_;simp only [Region.wanted,aJ,bg];cases want<;>cases b<;>simp_all
         . rename_i af;have bg:=g2 af bE;refine Xc ai ?_;simp only [Region.wanted,aJ,bg];rfl
theorem rW {rd:Option Nat} {al:Fr} {E:Env} {h ab:ae} {w:World} {call:eF} (bO:eO P) (cH:gu P call) (eu:gB P call) {all:Array Oper} {i:Nat} {o:Oper} (aG:all[i]? =some o) {au:Nat} {r:bQ} {a:Act} {v:V}
 (he:(cQ P au all o).run call r h=.val v ab) (q':a.tmps.size=au) (lT:∀t ∈ b8 all o,Rel E (T.get .bad (aE t) r) (a.tmps.getD t undef)) (s:a6 al E h w)
 {K:Act->World->Prop} {Q:Exit->Act->World->Prop} (ep:∀aw x w',E.le aw->Rel aw v x->a6 al aw ab w'->K (a.put o.dst x) w'):wpOpIn (aK rd) 0 P all Q i K a w:=
 Sa bO cH eu aG (lG he) q' lT s (by rw [he];exact ep)
theorem R_ {rd:Option Nat} {al:Fr} {E:Env} {h ab:ae} {w:World} {call:eF} (bO:eO P) (cH:gu P call) (eu:gB P call) {all:Array Oper} {i:Nat} {o:Oper} (aG:all[i]? =some o) {au:Nat} {r:bQ} {a:Act} {v:V}
 (he:(cQ P au all o).run call r h=.cB v ab) (hm:j5 o.op=true) (q':a.tmps.size=au) (lT:∀t ∈ b8 all o,Rel E (T.get .bad (aE t) r) (a.tmps.getD t undef)) (s:a6 al E h w)
 {K:Act->World->Prop} {Q:Exit->Act->World->Prop} (cR:∀aw x w',E.le aw->Rel aw v x->a6 al aw ab w'->Q (.panic (l3 x)) a w'):wpOpIn (aK rd) 0 P all Q i K a w:=
 Sa bO cH eu aG (Jo he) q' lT s (by rw [he];exact ⟨hm,cR⟩)
theorem wY {au:Nat} {all:Array Oper} {o:Oper} {call:eF} {r:bQ} {h ab:ae} {v:V} (aI:fr P o.op=false) (he:(cQ P au all o).run call r h=.val v ab):
 ab=h/\(looks o.op=false->∀H,(cQ P au all o).run call r H=.val v H):=by
 obtain ⟨aY,az⟩:=lG he;have ef:(fm au o.dst&&jk (b8 all o))=true:=by rw [aY,az];rfl
 have key:cQ P au all o=(match o.guard with
  | none=>⟨jF none (fU P o) (b8 all o)⟩
  | some (j,want)=>match all[j]? with
    | some g=>match g.dst with
      | some d=>bif Nat.blt d au&&Nat.ble d top then ⟨jF (some (pT (aE d),want)) (fU P o) (b8 all o)⟩ else en.none
      | none=>en.none
    | none=>en.none):=by
  unfold cQ;rw [ef];rfl
 rw [key] at he ⊢;cases aJ:o.guard with
 | none=>
   rw [aJ] at he;exact ⟨RU aI he,fun aD H=>RT aI aD he H⟩
 | some rb=>
   obtain ⟨j,want⟩:=rb;rw [aJ] at he;simp only at he ⊢;cases bU:all[j]? with
   | none=>rw [bU] at he;simp [en.none] at he
   | some g=>
     rw [bU] at he;simp only at he ⊢;cases lO:g.dst with
     | none=>rw [lO] at he;simp [en.none] at he
     | some d=>
       rw [lO] at he;simp only at he ⊢;cases aq:(Nat.blt d au&&Nat.ble d top) with
       | false=>rw [aq] at he;simp [en.none] at he
       | true=>
         rw [aq] at he;simp only [aqo,jF] at he ⊢;cases bE:(pT (aE d)).run (ei r (b8 all o))<;>rw [bE] at he<;>simp only at he ⊢<;>try (cases he;done)
         . rename_i b;cases ah:(bif want then b else !b)<;>rw [ah] at he<;>simp only [aqo,aqt] at he ⊢
           . simp only [a8.val.injEq] at he ⊢;exact ⟨he.2.symm,fun _ H=>⟨he.1,trivial⟩⟩
           . exact ⟨RU aI he,fun aD H=>RT aI aD he H⟩
         . simp only [a8.val.injEq] at he ⊢;exact ⟨he.2.symm,fun _ H=>⟨he.1,trivial⟩⟩
theorem PS {op:en} {call:eF} {es:List fj} {aA:ae} {r:bQ} {v:V}:∀{dW:List Nat},D1 op call es aA r v dW=true->∀s ∈ dW,∃ab,op.run call r (cw es aA s)=.val v ab
 | [],_,s,h=>by simp at h
 | iL::dW,he,s,hm=>by
   simp only [D1,aqi] at he;simp only [aqN] at hm;rcases hm with rfl | hm
   . have U:=he.1;cases aa:op.run call r (cw es aA s) with
     | fail=>rw [aa] at U;cases U
     | cB _ _=>rw [aa] at U;cases U
     | val ej ab=>
       rw [aa] at U;rw [JE U];exact ⟨ab,rfl⟩
   . exact PS he.2 s hm
theorem Iv {au:Nat} {all:Array Oper} {eS aF e7:List Nat} {call:eF} {es:List fj} {aA:ae}:∀{l:List Oper} {i:Nat},(s8 P au all eS aF e7 i l).run call es aA=true->
 ∀j o,l[j]? =some o->looks o.op=true->fr P o.op=false->∀e,es[posOf aF (i+j)]? =some e->∀s ∈ e7,ri P eS all.toList aF (i+j) ((eS[i+j]?).getD 0) s=true->∃ab,(cQ P au all o).run call e.r (cw es aA s)=.val e.v ab
 | [],_,_,j,o,aU,_,_=>by simp at aU
 | cm::os,i,he,j,o,aU,aD,aI=>by
   simp only [s8] at he;cases j with
   | zero=>
     simp only [aqz,aqj] at aU;subst aU;rw [aD,aI] at he;simp only [Bool.not_false,arz,aqo,aqi,PT] at he;have U:=he.1;intro e r6 s az hm
     . rw [arI] at r6;rw [r6] at U;exact PS U s (asg.2 ⟨az,by simpa using hm⟩)
   | succ j=>
     have rest:(s8 P au all eS aF e7 (i+1) os).run call es aA=true:=by
      cases aq:(looks cm.op&&!fr P cm.op) with
      | false=>rw [aq] at he;exact he
      | true=>rw [aq] at he;simp only [aqo,aqi] at he;exact he.2
     have:=Iv rest j o (by simpa using aU) aD aI;rw [show i + (j+1)=i+1+j from by omega];exact this
theorem zT {aF:List Nat}:∀{l:List Oper} {i j:Nat} {o:Oper},l[j]? =some o->eP P o=true->posOf aF (i+j) ∈ gR P aF i l
 | [],_,j,o,h,_=>by simp at h
 | cm::os,i,j,o,h,he=>by
   simp only [gR];cases j with
   | zero=>
     simp only [aqz,aqj] at h;subst h;rw [he];simp
   | succ j=>
     have:=zT (aF:=aF) (i:=i+1) (by simpa using h) he;rw [show i + (j+1)=i+1+j from by omega];cases eP P cm with
     | true=>simp [this]
     | false=>exact this
theorem F0 {aF:List Nat}:∀{l:List Oper} {i:Nat},i+l.length ∈ gR P aF i l
 | [],_=>by simp [gR]
 | o::os,i=>by
   have:=F0 (aF:=aF) (l:=os) (i:=i+1);simp only [gR,aqp];rw [show i + (os.length+1)=i+1+os.length from by omega];cases eP P o with
   | true=>simp [this]
   | false=>exact this
theorem vw {aF:List Nat}:∀{l:List Oper} {i s:Nat},s ∈ gR P aF i l->s=i+l.length\/∃j o,l[j]? =some o/\eP P o=true/\s=posOf aF (i+j)
 | [],i,s,h=>by simp only [gR,aqV] at h;exact .inl (by simpa using h)
 | o::os,i,s,h=>by
   simp only [gR] at h;have rest:s ∈ gR P aF (i+1) os->s=i + (o::os).length\/∃j cm,(o::os)[j]? =some cm/\eP P cm=true/\s=posOf aF (i+j):=by
    intro h;rcases vw h with h | ⟨j,cm,U,ad,aC⟩
    . exact .inl (by simp only [aqp];omega)
    . exact .inr ⟨j+1,cm,by simpa using U,ad,by rw [aC];congr 1;omega⟩
   cases aq:eP P o with
   | true=>
     rw [aq] at h;simp only [aqo,aqN] at h;rcases h with h | h
     . exact .inr ⟨0,o,rfl,aq,h⟩
     . exact rest h
   | false=>rw [aq] at h;exact rest h
theorem abI {c:Bool} {f:V->V->ae->a8} {x y v:V} {h ab:ae} (he:(bif c then (⟨f⟩:AD) else ⟨fun _ _ _=>.fail⟩).run x y h=.val v ab):c=true/\f x y h=.val v ab:=by
 cases c with
 | true=>exact ⟨rfl,he⟩
 | false=>cases he
theorem abS {o:Oper} {call:eF} {r:bQ} {h ab:ae} {v:V} (a_:hO o=true) (he:(fU P o).run call r h=.val v ab):∃k,ab=h.new k/\True:=by
 have cells:∀{af:List V} {U:ae},hB h af=some U->∃k,U=h.new k/\True:=by intro af U he;unfold hB at he;obtain ⟨aq,he⟩:=fx he;cases he;exact ⟨_,rfl,trivial⟩
 obtain ⟨dst,op,type,pos,after,guard⟩:=o;cases op<;>simp only [hO] at a_<;>try (cases a_;done)
 all_goals simp only [fU] at he
 case alloc t=>
  cases aB:bj P t with
  | none=>rw [aB] at he;simp [en.none] at he
  | some aP=>
    rw [aB] at he;simp only at he;cases bK:aP.zero with
    | none=>rw [bK] at he;simp [en.none] at he
    | some z=>
      rw [bK] at he;simp only at he;cases aL:hB h z.cells with
      | none=>rw [aL] at he;cases he
      | some U=>
        rw [aL] at he;simp only [ig,a8.val.injEq] at he;obtain ⟨_,rfl⟩:=he;exact cells aL
 case box t x=>
  obtain ⟨aJ,he⟩:=jX he;cases aL:hB h ((b9 x).run r).cells with
  | none=>rw [aL] at he;cases he
  | some U=>
    rw [aL] at he;simp only [ig,a8.val.injEq] at he;obtain ⟨_,rfl⟩:=he;exact cells aL
 case buildSlice t n bC=>
  unfold wT at he;cases aB:bj P t with
  | none=>rw [aB] at he;cases he
  | some aP=>
    rw [aB] at he;simp only at he;cases b_:aP.bq<;>rw [b_] at he<;>simp only at he<;>try (cases he;done)
    rename_i e;cases cY:bj P e with
    | none=>rw [cY] at he;cases he
    | some bl=>
      rw [cY] at he;simp only at he;cases bK:bl.zero with
      | none=>rw [bK] at he;cases he
      | some z=>
        rw [bK] at he;simp only at he;cases aq:(Nat.ble (n * bl.size) 1000000&&Nat.beq z.cells.length bl.size) with
        | false=>rw [aq] at he;cases he
        | true=>
          rw [aq] at he;simp only [aqo] at he;cases aA:ot (fun i=>some (i * bl.size,bl.size)) (jR z.cells n) ((vK bC.toList).run r) with
          | none=>rw [aA] at he;cases he
          | some cs=>
            rw [aA] at he;simp only at he;cases aL:hB h cs with
            | none=>rw [aL] at he;cases he
            | some U=>
              rw [aL] at he;simp only [a8.val.injEq] at he;obtain ⟨_,rfl⟩:=he;exact cells aL
 case makeSlice t l c=>
  unfold xU at he
  split at he
  rotate_left
  . cases he
  split at he
  rotate_left
  . cases he
  split at he
  rotate_left
  . cases he
  split at he
  rotate_left
  . cases he
  obtain ⟨_,he⟩:=abI he;simp only [vz] at he;obtain ⟨_,_,_,he⟩:=tQ he;obtain ⟨_,_,_,he⟩:=tQ he;obtain ⟨_,he⟩:=jX he
  split at he
  . rename_i aL;simp only [a8.val.injEq] at he;obtain ⟨_,rfl⟩:=he;exact cells aL
  . cases he
 case makeMap t x=>
  cases x with
  | some _=>cases a_
  | none=>
    simp only [sw,zU] at he;cases aB:bj P t with
    | none=>rw [aB] at he;cases he
    | some aP=>
      rw [aB] at he;simp only at he;cases ah:Nat.beq (fW aP.bq) 3 with
      | false=>rw [ah] at he;cases he
      | true=>
        rw [ah] at he;simp only [aqo,vy,zY] at he;simp only [a8.val.injEq] at he;exact ⟨_,he.2.symm,trivial⟩
theorem agr {o:Oper} (a_:hO o=true):fr P o.op=true:=by obtain ⟨dst,op,type,pos,after,guard⟩:=o;cases op<;>simp only [hO] at a_<;>first | (cases a_;done) | rfl
theorem Sc {au:Nat} {all:Array Oper} {o:Oper} {call:eF} {r:bQ} {h ab:ae} {v:V} (he:(cQ P au all o).run call r h=.val v ab):
 ((fU P o).run call (ei r (b8 all o)) h=.val v ab/\∀E a,RegRel0 E au (ei r (b8 all o)) a->Region.wanted o (yielded all a.tmps)=true)\/
 (ab=h/\∀H,(cQ P au all o).run call r H=.val v H):=by
 obtain ⟨aY,az⟩:=lG he;have ef:(fm au o.dst&&jk (b8 all o))=true:=by rw [aY,az];rfl
 have key:cQ P au all o=(match o.guard with
  | none=>⟨jF none (fU P o) (b8 all o)⟩
  | some (j,want)=>match all[j]? with
    | some g=>match g.dst with
      | some d=>bif Nat.blt d au&&Nat.ble d top then ⟨jF (some (pT (aE d),want)) (fU P o) (b8 all o)⟩ else en.none
      | none=>en.none
    | none=>en.none):=by
  unfold cQ;rw [ef];rfl
 rw [key] at he ⊢;cases aJ:o.guard with
 | none=>
   rw [aJ] at he;exact .inl ⟨he,fun E a _=>by simp [Region.wanted,aJ]⟩
 | some rb=>
   obtain ⟨j,want⟩:=rb;rw [aJ] at he;simp only at he ⊢;cases bU:all[j]? with
   | none=>rw [bU] at he;simp [en.none] at he
   | some g=>
     rw [bU] at he;simp only at he ⊢;cases lO:g.dst with
     | none=>rw [lO] at he;simp [en.none] at he
     | some d=>
       rw [lO] at he;simp only at he ⊢;cases aq:(Nat.blt d au&&Nat.ble d top) with
       | false=>rw [aq] at he;simp [en.none] at he
       | true=>
         rw [aq] at he;simp only [aqo,jF] at he ⊢;have qZ:=aq;simp only [aqi,aqS,aqE] at qZ;cases bE:(pT (aE d)).run (ei r (b8 all o))<;>rw [bE] at he<;>simp only at he ⊢<;>try (cases he;done)
         . rename_i b;cases ah:(bif want then b else !b)<;>rw [ah] at he<;>simp only [aqo,aqt] at he ⊢
           . simp only [a8.val.injEq] at he ⊢;exact .inr ⟨he.2.symm,fun H=>⟨he.1,trivial⟩⟩
           . refine .inl ⟨he,fun E a k=>?_⟩;obtain ⟨g1,_⟩:=JZ k bU lO qZ.1 qZ.2;have bg:=g1 b bE;simp only [Region.wanted,aJ,bg];cases want<;>cases b<;>simp_all
         . simp only [a8.val.injEq] at he ⊢;exact .inr ⟨he.2.symm,fun H=>⟨he.1,trivial⟩⟩
theorem Sb {au:Nat} {all:Array Oper} {o:Oper} {call:eF} {r:bQ} {h ab:ae} {v:V} (a_:hO o=true) (he:(cQ P au all o).run call r h=.val v ab):
 (∃k,ab=h.new k/\True)\/(ab=h/\∀H,(cQ P au all o).run call r H=.val v H):=by
 rcases Sc he with ⟨U,_⟩ | U
 . exact .inl (abS a_ U)
 . exact .inr U
theorem acn {rd:Option Nat} {F:Fr} {E:Env} {h ab H:ae} {w:World} {call:eF} {all:Array Oper} {i:Nat} {o:Oper} (aG:all[i]? =some o) (a_:hO o=true) {au:Nat} {r:bQ} {a:Act} {v:V}
 (he:(cQ P au all o).run call r h=.val v ab) (q':a.tmps.size=au) (lT:∀t ∈ b8 all o,Rel E (T.get .bad (aE t) r) (a.tmps.getD t undef)) (s:a6 F E H w)
 (KL:ab.next≠h.next) (ai:F.iK (aE h.next)=some (ab.get (aE h.next)))
 {K:Act->World->Prop} {Q:Exit->Act->World->Prop} (ep:∀aw x w',E.le aw->Rel aw v x->a6 (F.free (aE h.next)) aw H w'->K (a.put o.dst x) w'):wpOpIn (aK rd) 0 P all Q i K a w:=by
 obtain ⟨aY,az⟩:=lG he
 have k:RegRel0 E au (ei r (b8 all o)) a:=⟨q',fun t aB=>by
  rw [Hm az aB];by_cases hm:t ∈ b8 all o
  . rw [aqw hm];exact lT t hm
  . rw [aqr hm];simp [Rel]⟩
 obtain ⟨fq,hw⟩:(fU P o).run call (ei r (b8 all o)) h=.val v ab/\Region.wanted o (yielded all a.tmps)=true:=by
  rcases Sc he with ⟨U,ad⟩ | ⟨U,_⟩
  . exact ⟨U,ad E a k⟩
  . exact absurd (by rw [U]) KL
 obtain ⟨m,ay,dL,an,av,aH⟩:=abR a_ fq k;simp only [wpOpIn,aG,hw,aqu];obtain ⟨X,qi,cc,cy⟩:=aH w;rw [an,ae.jY,aqw rfl] at ai;have e0:E.put (aE h.next) ⟨w.heap.size,0,0⟩ (aE h.next)=some ⟨w.heap.size,0,0⟩:=by unfold Env.put;rw [aqw rfl]
 have hle:E.le (E.put (aE h.next) ⟨w.heap.size,0,0⟩):=Env.nU (s.qm _ _ ai).2.1;obtain ⟨ca,b5⟩:=cy _ hle e0;have cX:F.w.heap.size<=w.heap.size:=s.frame.size;obtain ⟨_,q4⟩:=s.link ai (o:=qi) (b5 _ cX);refine ⟨fun _ _=>trivial,?_⟩;rw [rr (by intro c h;have:=a_;unfold hO at this;rw [h] at this;cases this),ay,Sem.run_bind,cc];exact ep _ X _ hle ca q4
end
end
end Go.Proofs.YtahfljfikfkpnaaGreatDoor.bf
